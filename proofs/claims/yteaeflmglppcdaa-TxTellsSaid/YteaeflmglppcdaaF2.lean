/- The contracts of Serial. -/
import Derived.Test.YteaeflmglppcdaaF1
namespace Go.Proofs.Yteaeflmglppcdaa
open Go.RowKit Tx
section
variable {w : World}
set_option maxRecDepth 100000 in
set_option maxHeartbeats 1000000 in
theorem serial_no (a : Option Addr) (n c : Nat) (hl : 200 < n) (h63 : n ≤ maxLen) :
    Calls Try.prog 18 #[.slice a n c] w fun e w' => e = .returned (.tuple #[.slice none 0 0, .int .i64 3]) ∧ New w w' := by
  have hmf : ∀ (fn : Fn) (first cap : Array Value) (w : World), (Instr.makeFunc fn first cap).run Try.prog w = .ok (.func fn first cap) w := fun _ _ _ _ => rfl
  have HR : Hid (∀ w', Calls Try.prog 34 #[.slice a n c] w' fun e w2 => e = .panicked (stopV 3) ∧ w2 = w') := fun w' => ran_no a n c hl h63
  go_enter_defers Try.func18, Try.ntmps18
  go_wp2_with ((refine (HR.out _).mono ?_); rintro e w ⟨rfl, rfl⟩)
  refine door18_panic 3 w.heap.size _ _ _ _ rfl rfl rfl (by rw [World.cell?_alloc_new]; rfl) (by simp [go_sem]) ⟨rfl, ?_⟩
  exact (((Chg.refl _ w).alloc _).setCell (fun h => absurd h (Nat.lt_irrefl _)) _).alloc _
set_option maxRecDepth 100000 in
set_option maxHeartbeats 1000000 in
theorem serial_yes (a : Option Addr) (b off c : Nat) (ops : List Tx.Op) (hO : OpsAt w a b off ops) (hl : ops.length ≤ 200) :
    Calls Try.prog 18 #[.slice a ops.length c] w fun e w' => ∃ v, e = .returned (.tuple #[v, .int .i64 0]) ∧ New w w' ∧
      w'.ownsRow 0 3 1 v (serial (Tx.run St.zero ops).2).length (intRow (serial (Tx.run St.zero ops).2)) ∧ ∀ g, v.ownBlock = some g → w.heap.size ≤ g := by
  have hmf : ∀ (fn : Fn) (first cap : Array Value) (w : World), (Instr.makeFunc fn first cap).run Try.prog w = .ok (.func fn first cap) w := fun _ _ _ _ => rfl
  have HR : Hid (∀ w', New w w' → Calls Try.prog 34 #[.slice a ops.length c] w' (RanPost w' ops (.slice a ops.length c))) := fun w' hn => ran_any a b off c ops (hO.kept hn (fun x => x)) hl
  have hG : Good (Tx.run St.zero ops).2 (0 + ops.length) := Good.zero.run
  have hT : Tidy (Tx.run St.zero ops).2 := Tidy.zero.run
  have h1 := hG.insts
  have h2 := hG.readers
  clear hO hG
  generalize hr : Tx.run St.zero ops = r at *
  go_enter_defers Try.func18, Try.ntmps18
  go_wp2_with (first
    | ((refine (HR.out _ ((Chg.refl _ w).alloc _)).mono ?_); unfold RanPost; rw [hr]; rintro e w4 ⟨s, va, F4, rfl, ⟨vi, m, vr, hX4, hF4⟩, hown, hN4, hFF4, hg4⟩; have hSE := Lib.hid (serial_any hX4 hT (by omega) (by omega)); have p0 : w4.cell? ⟨w.heap.size, 0, none⟩ = some (.int .i64 0) := (hN4.cell (a := ⟨w.heap.size, 0, none⟩) (by simp) (fun x => x)).trans (World.cell?_alloc_new w _ _ _); have p1 : w4.frozen? ⟨w.heap.size, 0, none⟩ = false := (hN4.frozen (a := ⟨w.heap.size, 0, none⟩) (by simp) (fun x => x)).trans (by simp [go_sem]); have hs4 : w.heap.size < w4.heap.size := World.block_lt_of_cell? w4 _ p0)
    | ((refine hSE.out.mono ?_); rintro e w5 ⟨v, rfl, hN5, hown5, hg5⟩; have p2 : w5.cell? ⟨w.heap.size, 0, none⟩ = some (.int .i64 0) := (hN5.cell (a := ⟨w.heap.size, 0, none⟩) hs4 (fun x => x)).trans p0; have p3 : w5.frozen? ⟨w.heap.size, 0, none⟩ = false := (hN5.frozen (a := ⟨w.heap.size, 0, none⟩) hs4 (fun x => x)).trans p1))
  have hC6 : Chg (fun k => k = w.heap.size) w5 (w5.setCell ⟨w.heap.size, 0, none⟩ (.int .i64 0)) := (Chg.refl (fun k => k = w.heap.size) w5).setCell (fun _ => rfl) _
  refine door18_ret w.heap.size _ _ v (.int .i64 0) rfl rfl rfl ?_ ⟨v, rfl, ?_, ?_, ?_⟩
  · rw [World.cell?_setCell_same _ _ _ (by rw [p2])]
  · exact ((((Chg.refl _ w).alloc _).trans hN4).trans hN5).setCell (fun h => absurd h (Nat.lt_irrefl _)) _
  · exact hC6.ownsRow hown5 (fun k hk e => by have := hg5 k hk; omega)
  · intro g hg
    have := hg5 g hg
    omega
end
end Go.Proofs.Yteaeflmglppcdaa
