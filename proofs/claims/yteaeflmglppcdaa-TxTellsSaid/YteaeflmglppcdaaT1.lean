/- The reference: does a transaction write a key; which operation is refused. -/
import Derived.Test.YteaeflmglppcdaaT0
namespace Go.Proofs.Yteaeflmglppcdaa
open Go.RowKit Tx

theorem any_take_succ (f : Nat → Bool) (j : Nat) : (List.range (j + 1)).any f = ((List.range j).any f || f j) := by
  rw [List.range_succ, List.any_append]
  simp
theorem any_mono (f : Nat → Bool) {j n : Nat} (hj : j ≤ n) (h : (List.range j).any f = true) : (List.range n).any f = true := by
  rw [List.any_eq_true] at *
  obtain ⟨k, hk, h2⟩ := h
  exact ⟨k, List.mem_range.2 (by have := List.mem_range.1 hk; omega), h2⟩
section
variable {w : World}
set_option maxRecDepth 100000 in
theorem writes_any (b0 b1 b2 : Bool) (n3 n7 n8 : Int) (v4 v6 : Value) (g c : Nat) (f : Nat → Bool) (hg : ∀ k, k < 16 → w.cell? ⟨g, k, none⟩ = some (.bool (f k))) (h4 : v4.oneCell' = true) (h6 : v6.oneCell' = true) :
    Calls Try.prog 73 #[.agg #[.bool b0, .bool b1, .bool b2, .int .i64 n3, v4, .slice (some ⟨g, 0, none⟩) 16 c, v6, .int .i64 n7, .int .i64 n8]] w fun e w' => e = .returned (.bool ((List.range 16).any f)) ∧ New w w' := by
  have HG := Lib.hid hg
  have hgl : g < w.heap.size := World.block_lt_of_cell? w _ (hg 0 (by omega))
  clear hg
  go_enter Try.func73, Try.ntmps73
  go_wp2
  have hnb := heap_alloc_new w (.cells #[.bool b0, .bool b1, .bool b2, .int .i64 n3, v4, .slice (some ⟨g, 0, none⟩) 16 c, v6, .int .i64 n7, .int .i64 n8] 93)
  have hN1 : New w (w.alloc (.cells #[.bool b0, .bool b1, .bool b2, .int .i64 n3, v4, .slice (some ⟨g, 0, none⟩) 16 c, v6, .int .i64 n7, .int .i64 n8] 93)) := (Chg.refl _ w).alloc _
  generalize w.alloc _ = w1 at *
  generalize w.heap.size = nb at *
  have e5 : w1.cell? ⟨nb, 5, none⟩ = some (.slice (some ⟨g, 0, none⟩) 16 c) := by simp [World.cell?, hnb]
  clear hnb
  go_loopw [3] (fun v wr => ∃ j : Nat, j ≤ 16 ∧ v = .int .i64 j ∧ wr = w1 ∧ (List.range j).any f = false) (fun v _ => 16 - (intOf v).toNat)
  case atStart => exact ⟨0, by omega, rfl, rfl, rfl⟩
  case round =>
    obtain ⟨j, hj, rfl, rfl, hno⟩ := hrel
    by_cases hlt : j < 16
    · have x0 : wr.cell? ⟨g, j, none⟩ = some (.bool (f j)) := (hN1.cell (a := ⟨g, j, none⟩) (World.block_lt_of_cell? w _ (HG.out j hlt)) (fun x => x)).trans (HG.out j hlt)
      have b3 : (0 : Int) ≤ (j : Int) := by omega
      have b4 : (j : Int) < 16 := by omega
      have hts := any_take_succ f j
      rw [hno, Bool.false_or] at hts
      cases hf : f j
      · rw [hf] at x0 hts
        have HT := Lib.hid hts
        clear hts hno hf
        go_wp2
        exact ⟨⟨j + 1, by omega, by go_num, (by first | rfl | trivial), HT.out⟩, by simp [intOf]; omega⟩
      · rw [hf] at x0 hts
        have HT := Lib.hid (any_mono f (show j + 1 ≤ 16 by omega) hts)
        have HN := Lib.hid hN1
        clear hts hno hf hN1
        go_wp2
        go_ret
        exact ⟨by rw [HT.out]; rfl, HN.out⟩
    · obtain rfl : j = 16 := by omega
      have HNO := Lib.hid hno; have HN := Lib.hid hN1
      clear hno hN1
      go_wp2
      go_ret
      exact ⟨by rw [HNO.out]; rfl, HN.out⟩
/-- Why an operation is refused. -/
def refusedE (st : St) (o : Tx.Op) : Int :=
  if !within o.d 0 5 then 1 else if !fits o then 2 else if o.d = 0 then (if (st.txs o.t.toNat).begun then 5 else 0) else if !(st.txs o.t.toNat).live then 6 else 0
end
end Go.Proofs.Yteaeflmglppcdaa
