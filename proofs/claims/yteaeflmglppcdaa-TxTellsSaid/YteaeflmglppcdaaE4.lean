/- The contracts of At. -/
import Derived.Test.YteaeflmglppcdaaE3
namespace Go.Proofs.Yteaeflmglppcdaa
open Go.RowKit Tx
theorem load_words {w : World} {g i : Nat} {st : St} (hcell : ∀ i j, i < st.insts.length → j < 33 → w.cell? ⟨g, i * 33 + j, none⟩ = some (instCell (st.inst i) j)) (hi : i < st.insts.length) :
    (Instr.loadAt 86 (.pointer (some ⟨g, i * 33, none⟩))).run Try.prog w = .ok (.agg (wordsL (st.inst i)).toArray) w := by
  refine run_loadAt_mid w g (i * 33) 86 (wordsL (st.inst i)) _ (fun j v hv => ?_) Try.underlying86 rfl (by rw [length_wordsL]; exact Try.info86)
  have hj : j < 16 := by
    have := (List.getElem?_eq_some_iff.1 hv).1
    rw [length_wordsL] at this; exact this
  rw [hcell i j hi (by omega), ← hv, wordsL_at _ _ hj]
  simp only [instCell, if_pos hj]
section
variable {w : World}
set_option maxRecDepth 100000 in
set_option maxHeartbeats 1000000 in
theorem at_no (a : Option Addr) (n c : Nat) (i : Int) (hl : 200 < n) (h63 : n ≤ maxLen) :
    Calls Try.prog 14 #[.slice a n c, .int .i64 i] w fun e w' => e = .returned (.tuple #[.slice none 0 0, .int .i64 3]) ∧ New w w' := by
  have hmf : ∀ (fn : Fn) (first cap : Array Value) (w : World), (Instr.makeFunc fn first cap).run Try.prog w = .ok (.func fn first cap) w := fun _ _ _ _ => rfl
  have HR : Hid (∀ w', Calls Try.prog 34 #[.slice a n c] w' fun e w2 => e = .panicked (stopV 3) ∧ w2 = w') := fun w' => ran_no a n c hl h63
  go_enter_defers Try.func14, Try.ntmps14
  go_wp2_with ((refine (HR.out _).mono ?_); rintro e w ⟨rfl, rfl⟩)
  refine door14_panic 3 w.heap.size _ _ _ _ rfl rfl rfl (by rw [World.cell?_alloc_new]; rfl) (by simp [go_sem]) ⟨rfl, ?_⟩
  exact (((Chg.refl _ w).alloc _).setCell (fun h => absurd h (Nat.lt_irrefl _)) _).alloc _
set_option maxRecDepth 100000 in
set_option maxHeartbeats 1000000 in
theorem at_range (a : Option Addr) (b off c : Nat) (ops : List Tx.Op) (i : Int) (hO : OpsAt w a b off ops) (hl : ops.length ≤ 200) (hi : within i 0 ((Tx.run St.zero ops).2.insts.length - 1) = false) :
    Calls Try.prog 14 #[.slice a ops.length c, .int .i64 i] w fun e w' => e = .returned (.tuple #[.slice none 0 0, .int .i64 2]) ∧ New w w' := by
  have hmf : ∀ (fn : Fn) (first cap : Array Value) (w : World), (Instr.makeFunc fn first cap).run Try.prog w = .ok (.func fn first cap) w := fun _ _ _ _ => rfl
  have HR : Hid (∀ w', New w w' → Calls Try.prog 34 #[.slice a ops.length c] w' (RanPost w' ops (.slice a ops.length c))) := fun w' hn => ran_any a b off c ops (hO.kept hn (fun x => x)) hl
  have HW := within_any i 0 ((Tx.run St.zero ops).2.insts.length - 1)
  rw [hi] at HW
  have HWI := Lib.hid HW
  clear hO HW hi
  go_enter_defers Try.func14, Try.ntmps14
  go_wp2_with (first
    | ((refine (HR.out _ ((Chg.refl _ w).alloc _)).mono ?_); rintro e w4 ⟨s, va, F4, rfl, ⟨vi, m, vr, hX4, hF4⟩, hown, hN4, hFF4, hg4⟩; have hLR := last_rep hX4; have p0 : w4.cell? ⟨w.heap.size, 0, none⟩ = some (.int .i64 0) := (hN4.cell (a := ⟨w.heap.size, 0, none⟩) (by simp) (fun x => x)).trans (World.cell?_alloc_new w _ _ _); have p1 : w4.frozen? ⟨w.heap.size, 0, none⟩ = false := (hN4.frozen (a := ⟨w.heap.size, 0, none⟩) (by simp) (fun x => x)).trans (by simp [go_sem]))
    | ((with_reducible refine hLR.mono ?_); rintro e w4 ⟨rfl, rfl⟩)
    | ((with_reducible refine (HWI.out _).mono ?_); rintro e w4 ⟨rfl, rfl⟩)
    | ((with_reducible refine (must_no _ _).mono ?_); rintro e w4 ⟨rfl, rfl⟩))
  refine door14_panic 2 w.heap.size _ _ _ _ rfl rfl rfl p0 p1 ⟨rfl, ?_⟩
  exact ((((Chg.refl _ w).alloc _).trans hN4).setCell (fun h => absurd h (Nat.lt_irrefl _)) _).alloc _
set_option maxRecDepth 100000 in
set_option maxHeartbeats 1000000 in
theorem at_any (a : Option Addr) (b off c : Nat) (ops : List Tx.Op) (i : Nat) (hO : OpsAt w a b off ops) (hl : ops.length ≤ 200) (hi : i < (Tx.run St.zero ops).2.insts.length) :
    Calls Try.prog 14 #[.slice a ops.length c, .int .i64 i] w fun e w' => ∃ v, e = .returned (.tuple #[v, .int .i64 0]) ∧ New w w' ∧
      w'.ownsRow 0 3 1 v 16 (wordsL ((Tx.run St.zero ops).2.inst i)) ∧ ∀ g, v.ownBlock = some g → w.heap.size ≤ g := by
  have hmf : ∀ (fn : Fn) (first cap : Array Value) (w : World), (Instr.makeFunc fn first cap).run Try.prog w = .ok (.func fn first cap) w := fun _ _ _ _ => rfl
  have HR : Hid (∀ w', New w w' → Calls Try.prog 34 #[.slice a ops.length c] w' (RanPost w' ops (.slice a ops.length c))) := fun w' hn => ran_any a b off c ops (hO.kept hn (fun x => x)) hl
  have HW := within_any i 0 ((Tx.run St.zero ops).2.insts.length - 1)
  rw [show within (i : Int) 0 ((Tx.run St.zero ops).2.insts.length - 1) = true by simp [within]; omega] at HW
  have HWI := Lib.hid HW
  have b3 : (0 : Int) ≤ (i : Int) := by omega
  have b4 : (i : Int) < ((Tx.run St.zero ops).2.insts.length : Int) := by omega
  clear hO HW
  generalize hr : Tx.run St.zero ops = r at *
  go_enter_defers Try.func14, Try.ntmps14
  go_wp2_with (first
    | ((refine (HR.out _ ((Chg.refl _ w).alloc _)).mono ?_); unfold RanPost; rw [hr]; rintro e w4 ⟨s, va, F4, rfl, ⟨vi, m, vr, hX4, hF4⟩, hown, hN4, hFF4, hg4⟩; have hLR := last_rep hX4; obtain ⟨g, cap, hvi, hm, hgs, hcell⟩ := hX4.slice; have v0 : w4.cell? ⟨s, 0, none⟩ = some (.slice (some ⟨g, 0, none⟩) r.2.insts.length cap) := (hX4.blk.cell (i := 0) (by omega)).trans (congrArg some hvi); have p0 : w4.cell? ⟨w.heap.size, 0, none⟩ = some (.int .i64 0) := (hN4.cell (a := ⟨w.heap.size, 0, none⟩) (by simp) (fun x => x)).trans (World.cell?_alloc_new w _ _ _); have p1 : w4.frozen? ⟨w.heap.size, 0, none⟩ = false := (hN4.frozen (a := ⟨w.heap.size, 0, none⟩) (by simp) (fun x => x)).trans (by simp [go_sem]); have HLD := Lib.hid (load_words hcell hi); have HL4 := Lib.hid (list_any (w := w4) (r.2.inst i)))
    | ((with_reducible refine hLR.mono ?_); rintro e w4 ⟨rfl, rfl⟩)
    | ((with_reducible refine (HWI.out _).mono ?_); rintro e w4 ⟨rfl, rfl⟩)
    | ((with_reducible refine (must_yes _ _).mono ?_); rintro e w4 ⟨rfl, rfl⟩)
    | ((with_reducible refine wpList_loadT 86 g (i * 33) _ HLD.out ?_ ?_); · rfl)
    | ((with_reducible refine HL4.out.mono ?_); rintro e w5 ⟨rfl, hN5, hown5⟩; have hs4 : w.heap.size < w4.heap.size := World.block_lt_of_cell? w4 _ p0; have p2 : w5.cell? ⟨w.heap.size, 0, none⟩ = some (.int .i64 0) := (hN5.cell (a := ⟨w.heap.size, 0, none⟩) hs4 (fun x => x)).trans p0; have p3 : w5.frozen? ⟨w.heap.size, 0, none⟩ = false := (hN5.frozen (a := ⟨w.heap.size, 0, none⟩) hs4 (fun x => x)).trans p1))
  have hC6 : Chg (fun k => k = w.heap.size) w5 (w5.setCell ⟨w.heap.size, 0, none⟩ (.int .i64 0)) := (Chg.refl (fun k => k = w.heap.size) w5).setCell (fun _ => rfl) _
  refine door14_ret w.heap.size _ _ (.slice (some ⟨w4.heap.size + 1, 0, none⟩) 16 16) (.int .i64 0) rfl rfl rfl ?_ ⟨_, rfl, ?_, ?_, ?_⟩
  · rw [World.cell?_setCell_same _ _ _ (by rw [p2])]
  · exact ((((Chg.refl _ w).alloc _).trans hN4).trans hN5).setCell (fun h => absurd h (Nat.lt_irrefl _)) _
  · exact hC6.ownsRow hown5 (fun k hk e => by simp [Value.ownBlock] at hk; omega)
  · intro g hg
    simp [Value.ownBlock] at hg
    omega
end
end Go.Proofs.Yteaeflmglppcdaa
