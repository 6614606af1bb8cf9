/- The contract of list. -/
import Derived.Test.YteaeflmglppcdaaE2
import Derived.Laws.IdiomCopy
namespace Go.Proofs.Yteaeflmglppcdaa
open Go.RowKit Tx
def zeros16 : Array Value := #[.int .i64 0, .int .i64 0, .int .i64 0, .int .i64 0, .int .i64 0, .int .i64 0, .int .i64 0, .int .i64 0, .int .i64 0, .int .i64 0, .int .i64 0, .int .i64 0, .int .i64 0, .int .i64 0, .int .i64 0, .int .i64 0]
theorem make16 (w : World) : (Instr.makeSlice 28 (.int .i64 16) (.int .i64 16)).run Try.prog w = .ok (.slice (some ⟨w.heap.size, 0, none⟩) 16 16) (w.alloc (.cells zeros16 3)) := by kernel_rfl
theorem Blk.owns {w : World} {b : Nat} {T : TypeId} {n : Nat} {f : Nat → Value} (h : Blk w b T n f) (hn : n ≤ maxLen) : w.ownsRow 0 T 1 (.slice (some ⟨b, 0, none⟩) n n) n ((List.range n).map f) := by
  obtain ⟨cs, hb, hs, hf⟩ := h
  refine ⟨by simp, .inr ⟨b, n, cs, rfl, Nat.zero_le _, hb, Nat.le_refl _, hn, by omega, ?_⟩⟩
  rw [Nat.mul_one, ← hs, List.take_of_length_le (by simp)]
  refine List.ext_getElem? fun i => ?_
  by_cases hi : i < n
  · rw [Array.getElem?_toList, hf i hi, hs]; simp [hi]
  · rw [Array.getElem?_toList, Array.getElem?_eq_none (by omega), hs]; simp [hi]
section
variable {w : World}
set_option maxRecDepth 100000 in
set_option maxHeartbeats 1000000 in
theorem list_any (x : Inst) : Calls Try.prog 40 #[.agg (wordsL x).toArray] w fun e w' =>
    e = .returned (.slice (some ⟨w.heap.size + 1, 0, none⟩) 16 16) ∧ New w w' ∧ w'.ownsRow 0 3 1 (.slice (some ⟨w.heap.size + 1, 0, none⟩) 16 16) 16 (wordsL x) := by
  have hm := make16
  have hsz : (w.alloc (.cells (wordsL x).toArray 86)).heap.size = w.heap.size + 1 := by simp
  have hk : Blk ((w.alloc (.cells (wordsL x).toArray 86)).alloc (.cells zeros16 3)) (w.heap.size + 1) 3 16 (fun _ => .int .i64 0) := by
    have := Blk.new (w.alloc (.cells (wordsL x).toArray 86)) zeros16 3 (fun _ => .int .i64 0) (n := 16) rfl (fun i hi => by
      have : i = 0 ∨ i = 1 ∨ i = 2 ∨ i = 3 ∨ i = 4 ∨ i = 5 ∨ i = 6 ∨ i = 7 ∨ i = 8 ∨ i = 9 ∨ i = 10 ∨ i = 11 ∨ i = 12 ∨ i = 13 ∨ i = 14 ∨ i = 15 := by omega
      rcases this with rfl | rfl | rfl | rfl | rfl | rfl | rfl | rfl | rfl | rfl | rfl | rfl | rfl | rfl | rfl | rfl <;> rfl)
    rwa [hsz] at this
  have hcp : (Builtin.copy_ #[28, 28] 3 #[.slice (some ⟨w.heap.size + 1, 0, none⟩) 16 16, .slice (some ⟨w.heap.size, 0, none⟩) 16 16]).run Try.prog ((w.alloc (.cells (wordsL x).toArray 86)).alloc (.cells zeros16 3)) =
      .ok (goInt (wordsL x).length) (((w.alloc (.cells (wordsL x).toArray 86)).alloc (.cells zeros16 3)).setCells (w.heap.size + 1) 0 (wordsL x)) := by
    refine run_copy_cells _ 28 28 3 3 (w.heap.size + 1) 0 16 16 ⟨w.heap.size, 0, none⟩ 16 16 (wordsL x) Try.underlying28 (by kernel_rfl) (by rw [length_wordsL]; rfl) (fun j v hv => ?_) (fun j hj => ?_) (fun j hj => ?_) (oneCell_wordsL x)
    · have h1 := news_alloc w (wordsL x).toArray 86 j v (by simpa using hv)
      have hlt : w.heap.size < (w.alloc (.cells (wordsL x).toArray 86)).heap.size := by simp
      have ha0 : (⟨w.heap.size, 0, none⟩ : Addr).add j = ⟨w.heap.size, j, none⟩ := by
        cases j with
        | zero => rfl
        | succ k => simp [Addr.add]
      rw [ha0] at h1 ⊢
      rw [World.cell?_alloc_lt _ _ _ hlt]; exact h1
    · rw [length_wordsL] at hj
      rw [Nat.zero_add, hk.cell hj]; rfl
    · exact hk.free _
  have hk2 := Blk.setCells (wordsL x) 0 _ _ hk (by rw [length_wordsL]; omega)
  have hown := hk2.owns (by unfold maxLen; omega)
  have hmap : (List.range 16).map (fun i => if 0 ≤ i then ((wordsL x)[i - 0]?).getD ((fun _ => Value.int .i64 0) i) else (fun _ => Value.int .i64 0) i) = wordsL x := by
    unfold wordsL
    refine List.map_congr_left fun i hi => ?_
    have : i < 16 := by simpa using hi
    simp [this]
  rw [hmap] at hown
  have hN : New w (((w.alloc (.cells (wordsL x).toArray 86)).alloc (.cells zeros16 3)).setCells (w.heap.size + 1) 0 (wordsL x)) :=
    Chg.setCells (fun h => absurd h (by omega)) _ _ _ (((Chg.refl _ w).alloc _).alloc _)
  have HO := Lib.hid hown
  have HN := Lib.hid hN
  clear hk hk2 hown hmap hN hsz
  go_enter Try.func40, Try.ntmps40
  go_wp2
  go_ret
  exact ⟨rfl, HN.out, HO.out⟩
end
end Go.Proofs.Yteaeflmglppcdaa
