/- The doors of the functions that keep an error; the contracts of Run. -/
import Derived.Test.YteaeflmglppcdaaE1
namespace Go.Proofs.Yteaeflmglppcdaa
open Go.RowKit Tx

theorem new_cells (w1 : World) (b : Nat) (v x : Value) (A : Array Value) (T : TypeId) (h0 : w1.cell? ⟨b, 0, none⟩ = some x) :
    ((w1.setCell ⟨b, 0, none⟩ v).alloc (.cells A T)).cell? ⟨b, 0, none⟩ = some v := by
  have hb : b < w1.heap.size := World.block_lt_of_cell? w1 _ h0
  have hb' : b < (w1.setCell ⟨b, 0, none⟩ v).heap.size := by simpa using hb
  rw [World.cell?_alloc_lt _ _ _ hb', World.cell?_setCell_same _ _ _ (by rw [h0])]
/-- The door of function 12 where its body panics. -/
theorem door12_panic {R : Ending → World → Prop} (v : Int) (b : Nat) (a : Act) (w1 : World) (x2 x : Value)
    (hd : a.defers = [{ target := Target.fn (Fn.func 32) #[.pointer (some ⟨b, 0, none⟩)], args := #[] }]) (ha : a.tmps[3]? = some (.pointer (some ⟨b, 0, none⟩))) (h2 : a.tmps[2]? = some x2)
    (h0 : w1.cell? ⟨b, 0, none⟩ = some x) (hf : w1.frozen? ⟨b, 0, none⟩ = false)
    (h : R (.returned (.tuple #[x2, .int .i64 v])) ((w1.setCell ⟨b, 0, none⟩ (.int .i64 v)).alloc (.cells #[.int .i64 v] 101))) :
    bodyPostD Try.prog Try.f12 R (Exit.panic (stopV v)) a w1 := by
  obtain ⟨tm, df⟩ := a
  simp only at hd ha h2
  subst hd
  unfold stopV
  refine leaves_cons (f := 32) (args := #[.pointer (some ⟨b, 0, none⟩)]) (by simp) (by simp [go_sem]) ?_
  refine (catch32 v b _ _ h0 hf).mono ?_
  rintro e u' w'' ⟨rfl, rfl, rfl⟩
  have g0 := new_cells w1 b (.int .i64 v) x #[.int .i64 v] 101 h0
  generalize (w1.setCell ⟨b, 0, none⟩ (.int .i64 v)).alloc (.cells #[.int .i64 v] 101) = w2 at *
  simp [Leaves, settle, results, Try.results12, go_sem, ha, h2, g0]
  exact h
/-- The door of function 12 where its body returns. -/
theorem door12_ret {R : Ending → World → Prop} (b : Nat) (a : Act) (w1 : World) (x2 x : Value)
    (hd : a.defers = [{ target := Target.fn (Fn.func 32) #[.pointer (some ⟨b, 0, none⟩)], args := #[] }]) (ha : a.tmps[3]? = some (.pointer (some ⟨b, 0, none⟩))) (h2 : a.tmps[2]? = some x2)
    (h0 : w1.cell? ⟨b, 0, none⟩ = some x)
    (h : R (.returned (.tuple #[x2, x])) w1) :
    bodyPostD Try.prog Try.f12 R Exit.ret a w1 := by
  obtain ⟨tm, df⟩ := a
  simp only at hd ha h2
  subst hd
  refine leaves_cons (f := 32) (args := #[.pointer (some ⟨b, 0, none⟩)]) (by simp) (by simp [go_sem]) ?_
  refine (idle32 b _).mono ?_
  rintro e u' w'' ⟨rfl, rfl, rfl⟩
  simp [Leaves, settle, results, Try.results12, go_sem, ha, h2, h0]
  exact h
/-- The door of function 18 where its body panics. -/
theorem door18_panic {R : Ending → World → Prop} (v : Int) (b : Nat) (a : Act) (w1 : World) (x2 x : Value)
    (hd : a.defers = [{ target := Target.fn (Fn.func 42) #[.pointer (some ⟨b, 0, none⟩)], args := #[] }]) (ha : a.tmps[3]? = some (.pointer (some ⟨b, 0, none⟩))) (h2 : a.tmps[2]? = some x2)
    (h0 : w1.cell? ⟨b, 0, none⟩ = some x) (hf : w1.frozen? ⟨b, 0, none⟩ = false)
    (h : R (.returned (.tuple #[x2, .int .i64 v])) ((w1.setCell ⟨b, 0, none⟩ (.int .i64 v)).alloc (.cells #[.int .i64 v] 101))) :
    bodyPostD Try.prog Try.f18 R (Exit.panic (stopV v)) a w1 := by
  obtain ⟨tm, df⟩ := a
  simp only at hd ha h2
  subst hd
  unfold stopV
  refine leaves_cons (f := 42) (args := #[.pointer (some ⟨b, 0, none⟩)]) (by simp) (by simp [go_sem]) ?_
  refine (catch42 v b _ _ h0 hf).mono ?_
  rintro e u' w'' ⟨rfl, rfl, rfl⟩
  have g0 := new_cells w1 b (.int .i64 v) x #[.int .i64 v] 101 h0
  generalize (w1.setCell ⟨b, 0, none⟩ (.int .i64 v)).alloc (.cells #[.int .i64 v] 101) = w2 at *
  simp [Leaves, settle, results, Try.results18, go_sem, ha, h2, g0]
  exact h
/-- The door of function 18 where its body returns. -/
theorem door18_ret {R : Ending → World → Prop} (b : Nat) (a : Act) (w1 : World) (x2 x : Value)
    (hd : a.defers = [{ target := Target.fn (Fn.func 42) #[.pointer (some ⟨b, 0, none⟩)], args := #[] }]) (ha : a.tmps[3]? = some (.pointer (some ⟨b, 0, none⟩))) (h2 : a.tmps[2]? = some x2)
    (h0 : w1.cell? ⟨b, 0, none⟩ = some x)
    (h : R (.returned (.tuple #[x2, x])) w1) :
    bodyPostD Try.prog Try.f18 R Exit.ret a w1 := by
  obtain ⟨tm, df⟩ := a
  simp only at hd ha h2
  subst hd
  refine leaves_cons (f := 42) (args := #[.pointer (some ⟨b, 0, none⟩)]) (by simp) (by simp [go_sem]) ?_
  refine (idle42 b _).mono ?_
  rintro e u' w'' ⟨rfl, rfl, rfl⟩
  simp [Leaves, settle, results, Try.results18, go_sem, ha, h2, h0]
  exact h
/-- The door of function 14 where its body panics. -/
theorem door14_panic {R : Ending → World → Prop} (v : Int) (b : Nat) (a : Act) (w1 : World) (x4 x : Value)
    (hd : a.defers = [{ target := Target.fn (Fn.func 36) #[.pointer (some ⟨b, 0, none⟩)], args := #[] }]) (ha : a.tmps[5]? = some (.pointer (some ⟨b, 0, none⟩))) (h4 : a.tmps[4]? = some x4)
    (h0 : w1.cell? ⟨b, 0, none⟩ = some x) (hf : w1.frozen? ⟨b, 0, none⟩ = false)
    (h : R (.returned (.tuple #[x4, .int .i64 v])) ((w1.setCell ⟨b, 0, none⟩ (.int .i64 v)).alloc (.cells #[.int .i64 v] 101))) :
    bodyPostD Try.prog Try.f14 R (Exit.panic (stopV v)) a w1 := by
  obtain ⟨tm, df⟩ := a
  simp only at hd ha h4
  subst hd
  unfold stopV
  refine leaves_cons (f := 36) (args := #[.pointer (some ⟨b, 0, none⟩)]) (by simp) (by simp [go_sem]) ?_
  refine (catch36 v b _ _ h0 hf).mono ?_
  rintro e u' w'' ⟨rfl, rfl, rfl⟩
  have g0 := new_cells w1 b (.int .i64 v) x #[.int .i64 v] 101 h0
  generalize (w1.setCell ⟨b, 0, none⟩ (.int .i64 v)).alloc (.cells #[.int .i64 v] 101) = w2 at *
  simp [Leaves, settle, results, Try.results14, go_sem, ha, h4, g0]
  exact h
/-- The door of function 14 where its body returns. -/
theorem door14_ret {R : Ending → World → Prop} (b : Nat) (a : Act) (w1 : World) (x4 x : Value)
    (hd : a.defers = [{ target := Target.fn (Fn.func 36) #[.pointer (some ⟨b, 0, none⟩)], args := #[] }]) (ha : a.tmps[5]? = some (.pointer (some ⟨b, 0, none⟩))) (h4 : a.tmps[4]? = some x4)
    (h0 : w1.cell? ⟨b, 0, none⟩ = some x)
    (h : R (.returned (.tuple #[x4, x])) w1) :
    bodyPostD Try.prog Try.f14 R Exit.ret a w1 := by
  obtain ⟨tm, df⟩ := a
  simp only at hd ha h4
  subst hd
  refine leaves_cons (f := 36) (args := #[.pointer (some ⟨b, 0, none⟩)]) (by simp) (by simp [go_sem]) ?_
  refine (idle36 b _).mono ?_
  rintro e u' w'' ⟨rfl, rfl, rfl⟩
  simp [Leaves, settle, results, Try.results14, go_sem, ha, h4, h0]
  exact h
/-- The door of function 16 where its body panics. -/
theorem door16_panic {R : Ending → World → Prop} (v : Int) (b : Nat) (a : Act) (w1 : World) (x2 x3 x : Value)
    (hd : a.defers = [{ target := Target.fn (Fn.func 41) #[.pointer (some ⟨b, 0, none⟩)], args := #[] }]) (ha : a.tmps[4]? = some (.pointer (some ⟨b, 0, none⟩))) (h2 : a.tmps[2]? = some x2) (h3 : a.tmps[3]? = some x3)
    (h0 : w1.cell? ⟨b, 0, none⟩ = some x) (hf : w1.frozen? ⟨b, 0, none⟩ = false)
    (h : R (.returned (.tuple #[x2, x3, .int .i64 v])) ((w1.setCell ⟨b, 0, none⟩ (.int .i64 v)).alloc (.cells #[.int .i64 v] 101))) :
    bodyPostD Try.prog Try.f16 R (Exit.panic (stopV v)) a w1 := by
  obtain ⟨tm, df⟩ := a
  simp only at hd ha h2 h3
  subst hd
  unfold stopV
  refine leaves_cons (f := 41) (args := #[.pointer (some ⟨b, 0, none⟩)]) (by simp) (by simp [go_sem]) ?_
  refine (catch41 v b _ _ h0 hf).mono ?_
  rintro e u' w'' ⟨rfl, rfl, rfl⟩
  have g0 := new_cells w1 b (.int .i64 v) x #[.int .i64 v] 101 h0
  generalize (w1.setCell ⟨b, 0, none⟩ (.int .i64 v)).alloc (.cells #[.int .i64 v] 101) = w2 at *
  simp [Leaves, settle, results, Try.results16, go_sem, ha, h2, h3, g0]
  exact h
/-- The door of function 16 where its body returns. -/
theorem door16_ret {R : Ending → World → Prop} (b : Nat) (a : Act) (w1 : World) (x2 x3 x : Value)
    (hd : a.defers = [{ target := Target.fn (Fn.func 41) #[.pointer (some ⟨b, 0, none⟩)], args := #[] }]) (ha : a.tmps[4]? = some (.pointer (some ⟨b, 0, none⟩))) (h2 : a.tmps[2]? = some x2) (h3 : a.tmps[3]? = some x3)
    (h0 : w1.cell? ⟨b, 0, none⟩ = some x)
    (h : R (.returned (.tuple #[x2, x3, x])) w1) :
    bodyPostD Try.prog Try.f16 R Exit.ret a w1 := by
  obtain ⟨tm, df⟩ := a
  simp only at hd ha h2 h3
  subst hd
  refine leaves_cons (f := 41) (args := #[.pointer (some ⟨b, 0, none⟩)]) (by simp) (by simp [go_sem]) ?_
  refine (idle41 b _).mono ?_
  rintro e u' w'' ⟨rfl, rfl, rfl⟩
  simp [Leaves, settle, results, Try.results16, go_sem, ha, h2, h3, h0]
  exact h
/-- The door of function 20 where its body panics. -/
theorem door20_panic {R : Ending → World → Prop} (v : Int) (b : Nat) (a : Act) (w1 : World) (x2 x : Value)
    (hd : a.defers = [{ target := Target.fn (Fn.func 45) #[.pointer (some ⟨b, 0, none⟩)], args := #[] }]) (ha : a.tmps[3]? = some (.pointer (some ⟨b, 0, none⟩))) (h2 : a.tmps[2]? = some x2)
    (h0 : w1.cell? ⟨b, 0, none⟩ = some x) (hf : w1.frozen? ⟨b, 0, none⟩ = false)
    (h : R (.returned (.tuple #[x2, .int .i64 v])) ((w1.setCell ⟨b, 0, none⟩ (.int .i64 v)).alloc (.cells #[.int .i64 v] 101))) :
    bodyPostD Try.prog Try.f20 R (Exit.panic (stopV v)) a w1 := by
  obtain ⟨tm, df⟩ := a
  simp only at hd ha h2
  subst hd
  unfold stopV
  refine leaves_cons (f := 45) (args := #[.pointer (some ⟨b, 0, none⟩)]) (by simp) (by simp [go_sem]) ?_
  refine (catch45 v b _ _ h0 hf).mono ?_
  rintro e u' w'' ⟨rfl, rfl, rfl⟩
  have g0 := new_cells w1 b (.int .i64 v) x #[.int .i64 v] 101 h0
  generalize (w1.setCell ⟨b, 0, none⟩ (.int .i64 v)).alloc (.cells #[.int .i64 v] 101) = w2 at *
  simp [Leaves, settle, results, Try.results20, go_sem, ha, h2, g0]
  exact h
/-- The door of function 20 where its body returns. -/
theorem door20_ret {R : Ending → World → Prop} (b : Nat) (a : Act) (w1 : World) (x2 x : Value)
    (hd : a.defers = [{ target := Target.fn (Fn.func 45) #[.pointer (some ⟨b, 0, none⟩)], args := #[] }]) (ha : a.tmps[3]? = some (.pointer (some ⟨b, 0, none⟩))) (h2 : a.tmps[2]? = some x2)
    (h0 : w1.cell? ⟨b, 0, none⟩ = some x)
    (h : R (.returned (.tuple #[x2, x])) w1) :
    bodyPostD Try.prog Try.f20 R Exit.ret a w1 := by
  obtain ⟨tm, df⟩ := a
  simp only at hd ha h2
  subst hd
  refine leaves_cons (f := 45) (args := #[.pointer (some ⟨b, 0, none⟩)]) (by simp) (by simp [go_sem]) ?_
  refine (idle45 b _).mono ?_
  rintro e u' w'' ⟨rfl, rfl, rfl⟩
  simp [Leaves, settle, results, Try.results20, go_sem, ha, h2, h0]
  exact h

section
variable {w : World}
set_option maxRecDepth 100000 in
set_option maxHeartbeats 1000000 in
theorem run_no (a : Option Addr) (n c : Nat) (hl : 200 < n) (h63 : n ≤ maxLen) :
    Calls Try.prog 12 #[.slice a n c] w fun e w' => e = .returned (.tuple #[.slice none 0 0, .int .i64 3]) ∧ New w w' := by
  have hmf : ∀ (fn : Fn) (first cap : Array Value) (w : World), (Instr.makeFunc fn first cap).run Try.prog w = .ok (.func fn first cap) w := fun _ _ _ _ => rfl
  have HR : Hid (∀ w', Calls Try.prog 34 #[.slice a n c] w' fun e w2 => e = .panicked (stopV 3) ∧ w2 = w') := fun w' => ran_no a n c hl h63
  go_enter_defers Try.func12, Try.ntmps12
  go_wp2_with ((refine (HR.out _).mono ?_); rintro e w ⟨rfl, rfl⟩)
  refine door12_panic 3 w.heap.size _ _ _ _ rfl rfl rfl (by rw [World.cell?_alloc_new]; rfl) (by simp [go_sem]) ⟨rfl, ?_⟩
  exact (((Chg.refl _ w).alloc _).setCell (fun h => absurd h (Nat.lt_irrefl _)) _).alloc _
set_option maxRecDepth 100000 in
set_option maxHeartbeats 1000000 in
theorem run_any (a : Option Addr) (b off c : Nat) (ops : List Tx.Op) (hO : OpsAt w a b off ops) (hb : b < w.heap.size ∨ ops = []) (hl : ops.length ≤ 200) :
    Calls Try.prog 12 #[.slice a ops.length c] w fun e w' => ∃ v, e = .returned (.tuple #[v, .int .i64 0]) ∧ New w w' ∧
      w'.ownsRow 0 49 2 v ops.length (ansRow (Tx.run St.zero ops).1) ∧ ∀ g, v.ownBlock = some g → w.heap.size ≤ g := by
  have hmf : ∀ (fn : Fn) (first cap : Array Value) (w : World), (Instr.makeFunc fn first cap).run Try.prog w = .ok (.func fn first cap) w := fun _ _ _ _ => rfl
  have HR : Hid (∀ w', New w w' → Calls Try.prog 34 #[.slice a ops.length c] w' (RanPost w' ops (.slice a ops.length c))) := fun w' hn => ran_any a b off c ops (hO.kept hn (fun x => x)) hl
  clear hO hb
  go_enter_defers Try.func12, Try.ntmps12
  go_wp2_with ((refine (HR.out _ ((Chg.refl _ w).alloc _)).mono ?_); rintro e w4 ⟨s, va, F4, rfl, ⟨vi, m, vr, hX4, hF4⟩, hown, hN4, hFF4, hg4⟩; have e1 := hX4.blk.cell (i := 339) (by omega); have p0 := (hN4.cell (a := ⟨w.heap.size, 0, none⟩) (by simp) (fun x => x)).trans (World.cell?_alloc_new w _ _ _); have p1 := (hN4.frozen (a := ⟨w.heap.size, 0, none⟩) (by simp) (fun x => x)))
  have hsz : (w.alloc (.cells #[.int .i64 0] 25)).heap.size = w.heap.size + 1 := by simp
  have hC5 : Chg (fun k => k = w.heap.size) w4 (w4.setCell ⟨w.heap.size, 0, none⟩ (.int .i64 0)) := (Chg.refl (fun k => k = w.heap.size) w4).setCell (fun _ => rfl) _
  refine door12_ret w.heap.size _ _ va (.int .i64 0) rfl rfl rfl ?_ ⟨va, rfl, ?_, ?_, ?_⟩
  · have p0' : w4.cell? ⟨w.heap.size, 0, none⟩ = some (.int .i64 0) := p0
    rw [World.cell?_setCell_same _ _ _ (by rw [p0'])]
  · exact (((Chg.refl _ w).alloc _).trans hN4).setCell (fun h => absurd h (Nat.lt_irrefl _)) _
  · exact hC5.ownsRow hown (fun k hk e => by have := (hg4 k hk).1; rw [e, hsz] at this; omega)
  · intro g hg
    have := (hg4 g hg).1
    rw [hsz] at this
    omega
end
end Go.Proofs.Yteaeflmglppcdaa
