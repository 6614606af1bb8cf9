/- The contract of done: an operation, looked at and done; its error kept. -/
import Derived.Test.YteaeflmglppcdaaD4
import Derived.Test.YteaeflmglppcdaaD0
import Derived.Test.YteaeflmglppcdaaD2
import Derived.Deep.DeepCutAuto
import Derived.Deep.CutRange
namespace Go.Proofs.Yteaeflmglppcdaa
open Go.RowKit Tx

/-- What a frame leaves hangs on the place of its result alone. -/
theorem Leaves_tmps {P : Program} {fn : Func} {t t' : Array Value} {R : Ending → World → Prop} (h : results fn t = results fn t') : ∀ (ds : List Deferred) (u : FrameMode) (w : World), Leaves P fn t R ds u w → Leaves P fn t' R ds u w := by
  intro ds
  induction ds with
  | nil =>
    intro u w hl
    cases u with
    | returning => simp only [Leaves] at hl ⊢; rw [← h]; exact hl
    | panicking c => exact hl
    | run => exact hl
  | cons d ds ih =>
    intro u w hl
    obtain ⟨h1, fv, cap, f, args, h2, h3, h4⟩ := hl
    refine ⟨h1, fv, cap, f, args, h2, h3, h4.mono ?_⟩
    intro e u' w' he
    cases e with
    | returned v => exact ih _ _ he
    | panicked c => exact ih _ _ he
    | outgrown => exact he
theorem results48_eq (t : Array Value) : results Try.f48 t = results Try.f48 #[undef, undef, undef, undef, t.getD 4 undef] := by kernel_rfl
theorem panic48 {R : Ending → World → Prop} {c : List PanicEntry} {a : Act} {d : Nat} {v : Value} {w : World} (hd : d ≠ 4)
    (h : bodyPostD Try.prog Try.f48 R (.panic c) (a.put (some d) v) w) : bodyPostD Try.prog Try.f48 R (.panic c) a w := by
  refine Leaves_tmps ?_ _ _ _ h
  have e : (a.put (some d) v).tmps[4]? = a.tmps[4]? := by
    simp only [Act.put]
    rw [Array.getElem?_setIfInBounds_ne hd]
  rw [results48_eq, results48_eq a.tmps, Array.getD_eq_getD_getElem?, Array.getD_eq_getD_getElem?, e]
/-- The door of done where its body panics. -/
theorem door_panic {R : Ending → World → Prop} (v : Int) (b : Nat) (a : Act) (w1 : World)
    (hd : a.defers = [{ target := Target.fn (Fn.func 54) #[.pointer (some ⟨b, 0, none⟩)], args := #[] }]) (ha : a.tmps[4]? = some (.pointer (some ⟨b, 0, none⟩)))
    (h0 : w1.cell? ⟨b, 0, none⟩ = some (.int .i64 0)) (h1 : w1.cell? ⟨b, 1, none⟩ = some (.int .i64 0)) (hf : w1.frozen? ⟨b, 0, none⟩ = false)
    (h : R (.returned (.agg #[.int .i64 v, .int .i64 0])) ((w1.setCell ⟨b, 0, none⟩ (.int .i64 v)).alloc (.cells #[.int .i64 v] 101))) :
    bodyPostD Try.prog Try.f48 R (Exit.panic (stopV v)) a w1 := by
  obtain ⟨tm, df⟩ := a
  simp only at hd ha
  subst hd
  unfold stopV
  refine leaves_cons (f := 54) (args := #[.pointer (some ⟨b, 0, none⟩)]) (by simp) (by simp [go_sem]) ?_
  refine (catch54 v b _ _ h0 hf).mono ?_
  rintro e u' w'' ⟨rfl, rfl, rfl⟩
  have hb : b < w1.heap.size := World.block_lt_of_cell? w1 _ h0
  have hb' : b < (w1.setCell ⟨b, 0, none⟩ (.int .i64 v)).heap.size := by simpa using hb
  have g0 : ((w1.setCell ⟨b, 0, none⟩ (.int .i64 v)).alloc (.cells #[.int .i64 v] 101)).cell? ⟨b, 0, none⟩ = some (.int .i64 v) := by
    rw [World.cell?_alloc_lt _ _ _ hb', World.cell?_setCell_same _ _ _ (by rw [h0])]
  have g1 : ((w1.setCell ⟨b, 0, none⟩ (.int .i64 v)).alloc (.cells #[.int .i64 v] 101)).cell? ⟨b, 1, none⟩ = some (.int .i64 0) := by
    rw [World.cell?_alloc_lt _ _ _ hb', World.cell?_setCell_other _ _ _ _ (by simp), h1]
  generalize (w1.setCell ⟨b, 0, none⟩ (.int .i64 v)).alloc (.cells #[.int .i64 v] 101) = w2 at *
  simp [Leaves, settle, results, Try.results48, go_sem, ha, g0, g1]
  exact h
/-- The door of done where its body returns. -/
theorem door_ret {R : Ending → World → Prop} (b : Nat) (a : Act) (w1 : World) (x y : Value)
    (hd : a.defers = [{ target := Target.fn (Fn.func 54) #[.pointer (some ⟨b, 0, none⟩)], args := #[] }]) (ha : a.tmps[4]? = some (.pointer (some ⟨b, 0, none⟩)))
    (h0 : w1.cell? ⟨b, 0, none⟩ = some x) (h1 : w1.cell? ⟨b, 1, none⟩ = some y)
    (h : R (.returned (.agg #[x, y])) w1) :
    bodyPostD Try.prog Try.f48 R Exit.ret a w1 := by
  obtain ⟨tm, df⟩ := a
  simp only at hd ha
  subst hd
  refine leaves_cons (f := 54) (args := #[.pointer (some ⟨b, 0, none⟩)]) (by simp) (by simp [go_sem]) ?_
  refine (idle54 b _).mono ?_
  rintro e u' w'' ⟨rfl, rfl, rfl⟩
  simp [Leaves, settle, results, Try.results48, go_sem, ha, h0, h1]
  exact h
theorem three_cells (w : World) (A B C : Array Value) (ta tb tc : Nat) :
    (∀ i, (((w.alloc (.cells A ta)).alloc (.cells B tb)).alloc (.cells C tc)).cell? ⟨w.heap.size, i, none⟩ = A[i]?) ∧
    (∀ i, (((w.alloc (.cells A ta)).alloc (.cells B tb)).alloc (.cells C tc)).cell? ⟨w.heap.size + 1, i, none⟩ = B[i]?) ∧
    (∀ i, (((w.alloc (.cells A ta)).alloc (.cells B tb)).alloc (.cells C tc)).cell? ⟨w.heap.size + 1 + 1, i, none⟩ = C[i]?) := by
  refine ⟨fun i => ?_, fun i => ?_, fun i => ?_⟩
  · rw [World.cell?_alloc_lt _ _ _ (by simp; omega), World.cell?_alloc_lt _ _ _ (by simp), World.cell?_alloc_new]
  · rw [World.cell?_alloc_lt _ _ _ (by simp)]
    have := World.cell?_alloc_new (w.alloc (.cells A ta)) B tb i
    simpa only [World.alloc, Array.size_push] using this
  · have := World.cell?_alloc_new ((w.alloc (.cells A ta)).alloc (.cells B tb)) C tc i
    simpa using this
section
variable {w : World} {s : Nat} {va vo : Value} {st : St} {F : Nat → Prop}
set_option maxRecDepth 100000 in
set_option maxHeartbeats 1000000 in
theorem done_arg (hR : Rep w s va vo st F) (d t k n : Int) (hd : within d 0 5 = false) :
    Calls Try.prog 48 #[.pointer (some ⟨s, 0, none⟩), .agg #[.int .i64 d, .int .i64 t, .int .i64 k, .int .i64 n]] w fun e w' => e = .returned (.agg #[.int .i64 1, .int .i64 0]) ∧ New w w' := by
  have hmf : ∀ (fn : Fn) (first cap : Array Value) (w : World), (Instr.makeFunc fn first cap).run Try.prog w = .ok (.func fn first cap) w := fun _ _ _ _ => rfl
  have HW := within_any d 0 5
  rw [hd] at HW
  have HWI := Lib.hid HW; clear HW hd
  go_enter_defers Try.func48, Try.ntmps48
  go_wp2_with (first | ((with_reducible refine (deeds_any _).mono ?_); rintro e w' ⟨rfl, rfl⟩) | ((with_reducible refine (HWI.out _).mono ?_); rintro e w' ⟨rfl, rfl⟩) | ((with_reducible refine (must_no _ _).mono ?_); rintro e w' ⟨rfl, rfl⟩))
  have hN : New w (((w.alloc (.cells #[.int .i64 d, .int .i64 t, .int .i64 k, .int .i64 n] 47)).alloc (.cells #[.int .i64 0, .int .i64 0] 49)).alloc (.cells deedsA 117)) := (((Chg.refl _ w).alloc _).alloc _).alloc _
  have hc := three_cells w #[.int .i64 d, .int .i64 t, .int .i64 k, .int .i64 n] #[.int .i64 0, .int .i64 0] deedsA 47 49 117
  refine door_panic 1 (w.heap.size + 1) _ _ rfl rfl ?_ ?_ ?_ ?_
  · rw [hc.2.1]; rfl
  · rw [hc.2.1]; rfl
  · simp [go_sem]
  · exact ⟨rfl, (hN.setCell (fun h => absurd h (show ¬ w.heap.size + 1 < w.heap.size by omega)) _).alloc _⟩

theorem Left.after {w6 w7 : World} {F' : Nat → Prop} {b z : Nat} {st' : St} (hlt : ∀ k, F k → k < w.heap.size) (hR : Rep w6 s va vo st' F') (hC : Chg F w w6) (hF : ∀ k, F' k → F k ∨ z ≤ k) (hb : w.heap.size ≤ b) (hz : b < z) (h7 : Chg (fun k => k = b) w6 w7) :
    Left w F s va vo st' w7 := by
  refine ⟨F', hR.kept h7 (fun k hk e => ?_), hC.then h7 (fun k hk e => absurd hk (by rw [e]; omega)), fun k hk => ?_⟩
  · subst e
    rcases hF _ hk with h | h
    · have := hlt _ h; omega
    · omega
  · rcases hF _ hk with h | h
    · exact .inl h
    · exact .inr (by omega)
set_option maxRecDepth 100000 in
set_option maxHeartbeats 4000000 in
theorem done_gen (hR : Rep w s va vo st F) (d t k n : Int) (fa fd T fm : Nat) (b : Bool) (a : Ans) (st' : St) (h0 : 0 ≤ d) (h5 : d < 6)
    (ha : deedsA[d.toNat * 2]? = some (.func (.func fa) #[] #[])) (hd : deedsA[d.toNat * 2 + 1]? = some (.func (.func fd) #[] #[]))
    (hfa : ∀ x w, (callFunc fa #[x]).run Try.prog w = .ok (.enter fa #[x]) w) (hfd : ∀ x y w, (callFunc fd #[x, y]).run Try.prog w = .ok (.enter fd #[x, y]) w) (hfm : ∀ x w, (callFunc fm #[x]).run Try.prog w = .ok (.enter fm #[x]) w)
    (hmet : ∀ w, (method 253 T (.agg #[.int .i64 d, .int .i64 t, .int .i64 k, .int .i64 n]) "deltaworks/tx.fits").run Try.prog w = .ok (fm, .agg #[.int .i64 d, .int .i64 t, .int .i64 k, .int .i64 n]) w)
    (HA : Hid (∀ w, Calls Try.prog fa #[.agg #[.int .i64 d, .int .i64 t, .int .i64 k, .int .i64 n]] w fun e w' => e = .returned (.iface T (.agg #[.int .i64 d, .int .i64 t, .int .i64 k, .int .i64 n])) ∧ New w w'))
    (HM : Hid (∀ w, Calls Try.prog fm #[.agg #[.int .i64 d, .int .i64 t, .int .i64 k, .int .i64 n]] w fun e w' => e = .returned (.bool b) ∧ New w w'))
    (HD : Hid (b = true → ∀ w1, Rep w1 s va vo st F → Calls Try.prog fd #[.pointer (some ⟨s, 0, none⟩), .agg #[.int .i64 d, .int .i64 t, .int .i64 k, .int .i64 n]] w1 (Post w1 F s va vo a st'))) :
    Calls Try.prog 48 #[.pointer (some ⟨s, 0, none⟩), .agg #[.int .i64 d, .int .i64 t, .int .i64 k, .int .i64 n]] w fun e w' =>
      if b then (e = .returned (.agg #[.int .i64 a.e, .int .i64 (if a.e = 0 then a.n else 0)]) ∧ Left w F s va vo st' w') else (e = .returned (.agg #[.int .i64 2, .int .i64 0]) ∧ New w w') := by
  have hmf : ∀ (fn : Fn) (first cap : Array Value) (w : World), (Instr.makeFunc fn first cap).run Try.prog w = .ok (.func fn first cap) w := fun _ _ _ _ => rfl
  have HW := within_any d 0 5
  rw [show within d 0 5 = true by simp [within]; omega] at HW
  have HWI := Lib.hid HW; clear HW
  go_enter_defers Try.func48, Try.ntmps48
  go_wp2_with (first | ((with_reducible refine (deeds_any _).mono ?_); rintro e w' ⟨rfl, rfl⟩) | ((with_reducible refine (HWI.out _).mono ?_); rintro e w' ⟨rfl, rfl⟩) | ((with_reducible refine (must_yes _ _).mono ?_); rintro e w' ⟨rfl, rfl⟩))
  have hN : New w (((w.alloc (.cells #[.int .i64 d, .int .i64 t, .int .i64 k, .int .i64 n] 47)).alloc (.cells #[.int .i64 0, .int .i64 0] 49)).alloc (.cells deedsA 117)) := (((Chg.refl _ w).alloc _).alloc _).alloc _
  have hc := three_cells w #[.int .i64 d, .int .i64 t, .int .i64 k, .int .i64 n] #[.int .i64 0, .int .i64 0] deedsA 47 49 117
  have c0 := (hc.1 0).trans rfl
  have c1 := (hc.1 1).trans rfl
  have c2 := (hc.1 2).trans rfl
  have c3 := (hc.1 3).trans rfl
  have a0 := (hc.2.1 0).trans rfl
  have a1 := (hc.2.1 1).trans rfl
  have f0 : (((w.alloc (.cells #[.int .i64 d, .int .i64 t, .int .i64 k, .int .i64 n] 47)).alloc (.cells #[.int .i64 0, .int .i64 0] 49)).alloc (.cells deedsA 117)).frozen? ⟨w.heap.size + 1, 0, none⟩ = false := by simp [go_sem]
  have f1 : (((w.alloc (.cells #[.int .i64 d, .int .i64 t, .int .i64 k, .int .i64 n] 47)).alloc (.cells #[.int .i64 0, .int .i64 0] 49)).alloc (.cells deedsA 117)).frozen? ⟨w.heap.size + 1, 1, none⟩ = false := by simp [go_sem]
  have q0 := (hc.2.2 (d.toNat * 2)).trans ha
  have q1 := (hc.2.2 (d.toNat * 2 + 1)).trans hd
  have hsz : w.heap.size + 1 + 1 < (((w.alloc (.cells #[.int .i64 d, .int .i64 t, .int .i64 k, .int .i64 n] 47)).alloc (.cells #[.int .i64 0, .int .i64 0] 49)).alloc (.cells deedsA 117)).heap.size := by simp
  clear hc ha hd
  generalize ((w.alloc (.cells #[.int .i64 d, .int .i64 t, .int .i64 k, .int .i64 n] 47)).alloc (.cells #[.int .i64 0, .int .i64 0] 49)).alloc (.cells deedsA 117) = w3 at *
  go_cut [24] from 15 to 34 (fun _ wx => b = true ∧ New w3 wx)
  case first =>
    refine wp_region_any (by kernel_rfl) ?_
    change wpAny _ _ _ _ _ _ _ (World.drew _)
    refine wpAny_take (i := 0) (v := ?va1) rfl (by kernel_rfl) (by kernel_rfl) (by kernel_rfl) (fun _ _ _ h => panic48 (by decide) h) (Or.inl ⟨by rfl, ?ha1⟩) ?ra1
    case ha1 => (intro w; go_simp; with_reducible rfl)
    refine wpAny_take (i := 1) (v := ?va2) rfl (by kernel_rfl) (by kernel_rfl) (by kernel_rfl) (fun _ _ _ h => panic48 (by decide) h) (Or.inl ⟨by rfl, ?ha2⟩) ?ra2
    case ha2 => (intro w; go_simp; with_reducible rfl)
    refine wpAny_ready (rs := [2, 6]) (by kernel_rfl) (by simp) ?_
    refine (AllReady.cons rfl (fun K hK => ?_) (AllReady.cons rfl (fun K hK => ?_) AllReady.nil))
    · go_simp
      refine hK _ _ ?_
      clear hK K
      refine wpAny_take (i := 3) (v := ?va3) rfl (by kernel_rfl) (by kernel_rfl) (by kernel_rfl) (fun _ _ _ h => panic48 (by decide) h) (Or.inl ⟨by rfl, ?ha3⟩) ?ra3
      case ha3 => (intro w; go_simp; with_reducible rfl)
      refine wpAny_take (i := 4) (v := ?va4) rfl (by kernel_rfl) (by kernel_rfl) (by kernel_rfl) (fun _ _ _ h => panic48 (by decide) h) (Or.inl ⟨by rfl, ?ha4⟩) ?ra4
      case ha4 => (intro w; go_simp; with_reducible rfl)
      refine wpAny_ready (rs := [5, 6]) (by kernel_rfl) (by simp) ?_
      refine (AllReady.cons rfl (fun K hK => ?_) (AllReady.cons rfl (fun K hK => ?_) AllReady.nil))
      · go_simp
        refine hK _ _ ?_
        clear hK K
        refine wpAny_ready (rs := [6]) (by kernel_rfl) (by simp) ?_
        refine (AllReady.cons rfl (fun K hK => ?_) AllReady.nil)
        go_simp
        refine hK _ _ ?_
        clear hK K
        refine wpAny_ready (rs := [7]) (by kernel_rfl) (by simp) ?_
        refine (AllReady.cons rfl (fun K hK => ?_) AllReady.nil)
        go_simp
        with_reducible refine (HA.out _).mono ?_
        rintro e wA ⟨rfl, hnA⟩
        try go_simp
        refine hK _ _ ?_
        clear hK K
        refine wpAny_ready (rs := [8]) (by kernel_rfl) (by simp) ?_
        refine (AllReady.cons rfl (fun K hK => ?_) AllReady.nil)
        go_simp
        with_reducible refine (HM.out _).mono ?_
        rintro e wB ⟨rfl, hnB⟩
        try go_simp
        refine hK _ _ ?_
        clear hK K
        refine wpAny_ready (rs := [9]) (by kernel_rfl) (by simp) ?_
        refine (AllReady.cons rfl (fun K hK => ?_) AllReady.nil)
        have hn5 : New w3 wB := (((Chg.refl _ w3).drew).trans hnA).trans hnB
        go_simp
        go_at_call 37
        cases b
        · refine (must_no _ _).mono ?_
          rintro e w' ⟨rfl, rfl⟩
          exact door_panic 2 (w.heap.size + 1) _ _ rfl rfl ((hn5.cell (by show w.heap.size + 1 < _; omega) (fun x => x)).trans a0) ((hn5.cell (by show w.heap.size + 1 < _; omega) (fun x => x)).trans a1) ((hn5.frozen (by show w.heap.size + 1 < _; omega) (fun x => x)).trans f0) ⟨rfl, ((hN.trans hn5).setCell (fun h => absurd h (show ¬ w.heap.size + 1 < w.heap.size by omega)) _).alloc _⟩
        refine (must_yes _ _).mono ?_
        rintro e w' ⟨rfl, rfl⟩
        try go_simp
        refine hK _ _ ?_
        clear hK K
        refine wpAny_done (by kernel_rfl) ?_ _
        go_wp2_with fail
        go_meet
        exact ⟨trivial, hn5⟩
      · go_simp
        refine hK _ _ ?_
        clear hK K
        refine wpAny_ready (rs := [5]) (by kernel_rfl) (by simp) ?_
        refine (AllReady.cons rfl (fun K hK => ?_) AllReady.nil)
        go_simp
        refine hK _ _ ?_
        clear hK K
        refine wpAny_ready (rs := [7]) (by kernel_rfl) (by simp) ?_
        refine (AllReady.cons rfl (fun K hK => ?_) AllReady.nil)
        go_simp
        with_reducible refine (HA.out _).mono ?_
        rintro e wA ⟨rfl, hnA⟩
        try go_simp
        refine hK _ _ ?_
        clear hK K
        refine wpAny_ready (rs := [8]) (by kernel_rfl) (by simp) ?_
        refine (AllReady.cons rfl (fun K hK => ?_) AllReady.nil)
        go_simp
        with_reducible refine (HM.out _).mono ?_
        rintro e wB ⟨rfl, hnB⟩
        try go_simp
        refine hK _ _ ?_
        clear hK K
        refine wpAny_ready (rs := [9]) (by kernel_rfl) (by simp) ?_
        refine (AllReady.cons rfl (fun K hK => ?_) AllReady.nil)
        have hn5 : New w3 wB := (((Chg.refl _ w3).drew).trans hnA).trans hnB
        go_simp
        go_at_call 37
        cases b
        · refine (must_no _ _).mono ?_
          rintro e w' ⟨rfl, rfl⟩
          exact door_panic 2 (w.heap.size + 1) _ _ rfl rfl ((hn5.cell (by show w.heap.size + 1 < _; omega) (fun x => x)).trans a0) ((hn5.cell (by show w.heap.size + 1 < _; omega) (fun x => x)).trans a1) ((hn5.frozen (by show w.heap.size + 1 < _; omega) (fun x => x)).trans f0) ⟨rfl, ((hN.trans hn5).setCell (fun h => absurd h (show ¬ w.heap.size + 1 < w.heap.size by omega)) _).alloc _⟩
        refine (must_yes _ _).mono ?_
        rintro e w' ⟨rfl, rfl⟩
        try go_simp
        refine hK _ _ ?_
        clear hK K
        refine wpAny_done (by kernel_rfl) ?_ _
        go_wp2_with fail
        go_meet
        exact ⟨trivial, hn5⟩
    · go_simp
      refine hK _ _ ?_
      clear hK K
      refine wpAny_ready (rs := [2]) (by kernel_rfl) (by simp) ?_
      refine (AllReady.cons rfl (fun K hK => ?_) AllReady.nil)
      go_simp
      refine hK _ _ ?_
      clear hK K
      refine wpAny_take (i := 3) (v := ?va5) rfl (by kernel_rfl) (by kernel_rfl) (by kernel_rfl) (fun _ _ _ h => panic48 (by decide) h) (Or.inl ⟨by rfl, ?ha5⟩) ?ra5
      case ha5 => (intro w; go_simp; with_reducible rfl)
      refine wpAny_take (i := 4) (v := ?va6) rfl (by kernel_rfl) (by kernel_rfl) (by kernel_rfl) (fun _ _ _ h => panic48 (by decide) h) (Or.inl ⟨by rfl, ?ha6⟩) ?ra6
      case ha6 => (intro w; go_simp; with_reducible rfl)
      refine wpAny_ready (rs := [5]) (by kernel_rfl) (by simp) ?_
      refine (AllReady.cons rfl (fun K hK => ?_) AllReady.nil)
      go_simp
      refine hK _ _ ?_
      clear hK K
      refine wpAny_ready (rs := [7]) (by kernel_rfl) (by simp) ?_
      refine (AllReady.cons rfl (fun K hK => ?_) AllReady.nil)
      go_simp
      with_reducible refine (HA.out _).mono ?_
      rintro e wA ⟨rfl, hnA⟩
      try go_simp
      refine hK _ _ ?_
      clear hK K
      refine wpAny_ready (rs := [8]) (by kernel_rfl) (by simp) ?_
      refine (AllReady.cons rfl (fun K hK => ?_) AllReady.nil)
      go_simp
      with_reducible refine (HM.out _).mono ?_
      rintro e wB ⟨rfl, hnB⟩
      try go_simp
      refine hK _ _ ?_
      clear hK K
      refine wpAny_ready (rs := [9]) (by kernel_rfl) (by simp) ?_
      refine (AllReady.cons rfl (fun K hK => ?_) AllReady.nil)
      have hn5 : New w3 wB := (((Chg.refl _ w3).drew).trans hnA).trans hnB
      go_simp
      go_at_call 37
      cases b
      · refine (must_no _ _).mono ?_
        rintro e w' ⟨rfl, rfl⟩
        exact door_panic 2 (w.heap.size + 1) _ _ rfl rfl ((hn5.cell (by show w.heap.size + 1 < _; omega) (fun x => x)).trans a0) ((hn5.cell (by show w.heap.size + 1 < _; omega) (fun x => x)).trans a1) ((hn5.frozen (by show w.heap.size + 1 < _; omega) (fun x => x)).trans f0) ⟨rfl, ((hN.trans hn5).setCell (fun h => absurd h (show ¬ w.heap.size + 1 < w.heap.size by omega)) _).alloc _⟩
      refine (must_yes _ _).mono ?_
      rintro e w' ⟨rfl, rfl⟩
      try go_simp
      refine hK _ _ ?_
      clear hK K
      refine wpAny_done (by kernel_rfl) ?_ _
      go_wp2_with fail
      go_meet
      exact ⟨trivial, hn5⟩
  case rest =>
    obtain ⟨rfl, hn5⟩ := hcut
    have HLT := Lib.hid hR.lt
    have HNF : Hid (∀ k, w.heap.size ≤ k → ¬ F k) := fun k hk h => absurd (HLT.out k h) (by omega)
    have HNF1 : Hid (¬ F (w.heap.size + 1)) := HNF.out _ (by omega)
    have hszc : w.heap.size + 1 + 1 < wc.heap.size := Nat.lt_of_lt_of_le hsz hn5.size
    have hR5 : Rep wc s va vo st F := hR.new (hN.trans hn5)
    have hR5' : Hid (Rep wc.drew s va vo st F) := hR5.new (Chg.refl _ wc).drew
    have hC5 : Chg F w wc := Chg.of_new (hN.trans hn5)
    replace c0 := (hn5.cell (by show w.heap.size < _; omega) (fun x => x)).trans c0
    replace c1 := (hn5.cell (by show w.heap.size < _; omega) (fun x => x)).trans c1
    replace c2 := (hn5.cell (by show w.heap.size < _; omega) (fun x => x)).trans c2
    replace c3 := (hn5.cell (by show w.heap.size < _; omega) (fun x => x)).trans c3
    replace a0 := (hn5.cell (by show w.heap.size + 1 < _; omega) (fun x => x)).trans a0
    replace a1 := (hn5.cell (by show w.heap.size + 1 < _; omega) (fun x => x)).trans a1
    replace f0 := (hn5.frozen (by show w.heap.size + 1 < _; omega) (fun x => x)).trans f0
    replace f1 := (hn5.frozen (by show w.heap.size + 1 < _; omega) (fun x => x)).trans f1
    replace q1 := (hn5.cell (by show w.heap.size + 1 + 1 < _; omega) (fun x => x)).trans q1
    clear q0 hn5 hN HA HM hmet hfa hfm hR5 hR
    go_wp2_with fail
    refine wp_region_any (by kernel_rfl) ?_
    change wpAny _ _ _ _ _ _ _ (World.drew _)
    refine wpAny_take (i := 0) (v := ?vb1) rfl (by kernel_rfl) (by kernel_rfl) (by kernel_rfl) (fun _ _ _ h => panic48 (by decide) h) (Or.inl ⟨by rfl, ?hb1⟩) ?rb1
    case hb1 => (intro w; go_simp; with_reducible rfl)
    refine wpAny_take (i := 1) (v := ?vb2) rfl (by kernel_rfl) (by kernel_rfl) (by kernel_rfl) (fun _ _ _ h => panic48 (by decide) h) (Or.inl ⟨by rfl, ?hb2⟩) ?rb2
    case hb2 => (intro w; go_simp; with_reducible rfl)
    refine wpAny_take (i := 6) (v := ?vb3) rfl (by kernel_rfl) (by kernel_rfl) (by kernel_rfl) (fun _ _ _ h => panic48 (by decide) h) (Or.inl ⟨by rfl, ?hb3⟩) ?rb3
    case hb3 => (intro w; go_simp; with_reducible rfl)
    refine wpAny_ready (rs := [2, 7]) (by kernel_rfl) (by simp) ?_
    refine (AllReady.cons rfl (fun K hK => ?_) (AllReady.cons rfl (fun K hK => ?_) AllReady.nil))
    · go_simp
      refine hK _ _ ?_
      clear hK K
      refine wpAny_take (i := 3) (v := ?vb4) rfl (by kernel_rfl) (by kernel_rfl) (by kernel_rfl) (fun _ _ _ h => panic48 (by decide) h) (Or.inl ⟨by rfl, ?hb4⟩) ?rb4
      case hb4 => (intro w; go_simp; with_reducible rfl)
      refine wpAny_take (i := 4) (v := ?vb5) rfl (by kernel_rfl) (by kernel_rfl) (by kernel_rfl) (fun _ _ _ h => panic48 (by decide) h) (Or.inl ⟨by rfl, ?hb5⟩) ?rb5
      case hb5 => (intro w; go_simp; with_reducible rfl)
      refine wpAny_ready (rs := [5, 7]) (by kernel_rfl) (by simp) ?_
      refine (AllReady.cons rfl (fun K hK => ?_) (AllReady.cons rfl (fun K hK => ?_) AllReady.nil))
      · go_simp
        refine hK _ _ ?_
        clear hK K
        refine wpAny_ready (rs := [7]) (by kernel_rfl) (by simp) ?_
        refine (AllReady.cons rfl (fun K hK => ?_) AllReady.nil)
        go_simp
        refine hK _ _ ?_
        clear hK K
        refine wpAny_ready (rs := [8]) (by kernel_rfl) (by simp) ?_
        refine (AllReady.cons rfl (fun K hK => ?_) AllReady.nil)
        go_simp
        with_reducible refine (HD.out trivial _ hR5'.out).mono ?_
        intro e w6 hP
        obtain ⟨he, F6, hR6, hC6, hF6⟩ := hP
        have m0 : w6.cell? ⟨w.heap.size + 1, 0, none⟩ = some (.int .i64 0) := (hC6.cell (by show w.heap.size + 1 < wc.heap.size; omega) HNF1.out).trans a0
        have m1 : w6.cell? ⟨w.heap.size + 1, 1, none⟩ = some (.int .i64 0) := (hC6.cell (by show w.heap.size + 1 < wc.heap.size; omega) HNF1.out).trans a1
        have m2 : w6.frozen? ⟨w.heap.size + 1, 0, none⟩ = false := (hC6.frozen (by show w.heap.size + 1 < wc.heap.size; omega) HNF1.out).trans f0
        have m3 : w6.frozen? ⟨w.heap.size + 1, 1, none⟩ = false := (hC6.frozen (by show w.heap.size + 1 < wc.heap.size; omega) HNF1.out).trans f1
        have HC6 := Lib.hid (hC5.drew.trans hC6)
        have HR6 := Lib.hid hR6
        have HF6 := Lib.hid hF6
        clear hC6 hR6 hF6
        by_cases hz : a.e ≠ 0
        · rw [if_neg hz] at he
          subst he
          exact door_panic a.e (w.heap.size + 1) _ _ rfl rfl m0 m1 m2 ⟨by simp [hz], Left.after HLT.out HR6.out HC6.out HF6.out (by omega) (show w.heap.size + 1 < wc.heap.size by omega) (((Chg.refl (fun k => k = w.heap.size + 1) w6).setCell (fun _ => rfl) _).alloc _)⟩
        have hz0 : a.e = 0 := Classical.not_not.1 hz
        rw [if_pos hz0] at he
        subst he
        clear hz
        try go_simp
        refine hK _ _ ?_
        clear hK K
        refine wpAny_ready (rs := [9]) (by kernel_rfl) (by simp) ?_
        refine (AllReady.cons rfl (fun K hK => ?_) AllReady.nil)
        go_simp
        refine hK _ _ ?_
        clear hK K
        refine wpAny_ready (rs := [10]) (by kernel_rfl) (by simp) ?_
        refine (AllReady.cons rfl (fun K hK => ?_) AllReady.nil)
        go_simp
        refine hK _ _ ?_
        clear hK K
        refine wpAny_done (by kernel_rfl) ?_ _
        go_wp2_with fail
        refine door_ret (w.heap.size + 1) _ _ (.int .i64 0) (.int .i64 a.n) rfl rfl ?_ ?_ ⟨rfl, Left.after HLT.out HR6.out HC6.out HF6.out (by omega) (show w.heap.size + 1 < wc.heap.size by omega) (((Chg.refl (fun k => k = w.heap.size + 1) w6).setCell (fun _ => rfl) _).setCell (fun _ => rfl) _)⟩
        · rw [World.cell?_setCell_other _ _ _ _ (by simp), World.cell?_setCell_same _ _ _ (by rw [m0])]
        · rw [World.cell?_setCell_same _ _ _ (by rw [World.cell?_setCell_other _ _ _ _ (by simp), m1])]
      · go_simp
        refine hK _ _ ?_
        clear hK K
        refine wpAny_ready (rs := [5]) (by kernel_rfl) (by simp) ?_
        refine (AllReady.cons rfl (fun K hK => ?_) AllReady.nil)
        go_simp
        refine hK _ _ ?_
        clear hK K
        refine wpAny_ready (rs := [8]) (by kernel_rfl) (by simp) ?_
        refine (AllReady.cons rfl (fun K hK => ?_) AllReady.nil)
        go_simp
        with_reducible refine (HD.out trivial _ hR5'.out).mono ?_
        intro e w6 hP
        obtain ⟨he, F6, hR6, hC6, hF6⟩ := hP
        have m0 : w6.cell? ⟨w.heap.size + 1, 0, none⟩ = some (.int .i64 0) := (hC6.cell (by show w.heap.size + 1 < wc.heap.size; omega) HNF1.out).trans a0
        have m1 : w6.cell? ⟨w.heap.size + 1, 1, none⟩ = some (.int .i64 0) := (hC6.cell (by show w.heap.size + 1 < wc.heap.size; omega) HNF1.out).trans a1
        have m2 : w6.frozen? ⟨w.heap.size + 1, 0, none⟩ = false := (hC6.frozen (by show w.heap.size + 1 < wc.heap.size; omega) HNF1.out).trans f0
        have m3 : w6.frozen? ⟨w.heap.size + 1, 1, none⟩ = false := (hC6.frozen (by show w.heap.size + 1 < wc.heap.size; omega) HNF1.out).trans f1
        have HC6 := Lib.hid (hC5.drew.trans hC6)
        have HR6 := Lib.hid hR6
        have HF6 := Lib.hid hF6
        clear hC6 hR6 hF6
        by_cases hz : a.e ≠ 0
        · rw [if_neg hz] at he
          subst he
          exact door_panic a.e (w.heap.size + 1) _ _ rfl rfl m0 m1 m2 ⟨by simp [hz], Left.after HLT.out HR6.out HC6.out HF6.out (by omega) (show w.heap.size + 1 < wc.heap.size by omega) (((Chg.refl (fun k => k = w.heap.size + 1) w6).setCell (fun _ => rfl) _).alloc _)⟩
        have hz0 : a.e = 0 := Classical.not_not.1 hz
        rw [if_pos hz0] at he
        subst he
        clear hz
        try go_simp
        refine hK _ _ ?_
        clear hK K
        refine wpAny_ready (rs := [9]) (by kernel_rfl) (by simp) ?_
        refine (AllReady.cons rfl (fun K hK => ?_) AllReady.nil)
        go_simp
        refine hK _ _ ?_
        clear hK K
        refine wpAny_ready (rs := [10]) (by kernel_rfl) (by simp) ?_
        refine (AllReady.cons rfl (fun K hK => ?_) AllReady.nil)
        go_simp
        refine hK _ _ ?_
        clear hK K
        refine wpAny_done (by kernel_rfl) ?_ _
        go_wp2_with fail
        refine door_ret (w.heap.size + 1) _ _ (.int .i64 0) (.int .i64 a.n) rfl rfl ?_ ?_ ⟨rfl, Left.after HLT.out HR6.out HC6.out HF6.out (by omega) (show w.heap.size + 1 < wc.heap.size by omega) (((Chg.refl (fun k => k = w.heap.size + 1) w6).setCell (fun _ => rfl) _).setCell (fun _ => rfl) _)⟩
        · rw [World.cell?_setCell_other _ _ _ _ (by simp), World.cell?_setCell_same _ _ _ (by rw [m0])]
        · rw [World.cell?_setCell_same _ _ _ (by rw [World.cell?_setCell_other _ _ _ _ (by simp), m1])]
    · go_simp
      refine hK _ _ ?_
      clear hK K
      refine wpAny_ready (rs := [2]) (by kernel_rfl) (by simp) ?_
      refine (AllReady.cons rfl (fun K hK => ?_) AllReady.nil)
      go_simp
      refine hK _ _ ?_
      clear hK K
      refine wpAny_take (i := 3) (v := ?vb6) rfl (by kernel_rfl) (by kernel_rfl) (by kernel_rfl) (fun _ _ _ h => panic48 (by decide) h) (Or.inl ⟨by rfl, ?hb6⟩) ?rb6
      case hb6 => (intro w; go_simp; with_reducible rfl)
      refine wpAny_take (i := 4) (v := ?vb7) rfl (by kernel_rfl) (by kernel_rfl) (by kernel_rfl) (fun _ _ _ h => panic48 (by decide) h) (Or.inl ⟨by rfl, ?hb7⟩) ?rb7
      case hb7 => (intro w; go_simp; with_reducible rfl)
      refine wpAny_ready (rs := [5]) (by kernel_rfl) (by simp) ?_
      refine (AllReady.cons rfl (fun K hK => ?_) AllReady.nil)
      go_simp
      refine hK _ _ ?_
      clear hK K
      refine wpAny_ready (rs := [8]) (by kernel_rfl) (by simp) ?_
      refine (AllReady.cons rfl (fun K hK => ?_) AllReady.nil)
      go_simp
      with_reducible refine (HD.out trivial _ hR5'.out).mono ?_
      intro e w6 hP
      obtain ⟨he, F6, hR6, hC6, hF6⟩ := hP
      have m0 : w6.cell? ⟨w.heap.size + 1, 0, none⟩ = some (.int .i64 0) := (hC6.cell (by show w.heap.size + 1 < wc.heap.size; omega) HNF1.out).trans a0
      have m1 : w6.cell? ⟨w.heap.size + 1, 1, none⟩ = some (.int .i64 0) := (hC6.cell (by show w.heap.size + 1 < wc.heap.size; omega) HNF1.out).trans a1
      have m2 : w6.frozen? ⟨w.heap.size + 1, 0, none⟩ = false := (hC6.frozen (by show w.heap.size + 1 < wc.heap.size; omega) HNF1.out).trans f0
      have m3 : w6.frozen? ⟨w.heap.size + 1, 1, none⟩ = false := (hC6.frozen (by show w.heap.size + 1 < wc.heap.size; omega) HNF1.out).trans f1
      have HC6 := Lib.hid (hC5.drew.trans hC6)
      have HR6 := Lib.hid hR6
      have HF6 := Lib.hid hF6
      clear hC6 hR6 hF6
      by_cases hz : a.e ≠ 0
      · rw [if_neg hz] at he
        subst he
        exact door_panic a.e (w.heap.size + 1) _ _ rfl rfl m0 m1 m2 ⟨by simp [hz], Left.after HLT.out HR6.out HC6.out HF6.out (by omega) (show w.heap.size + 1 < wc.heap.size by omega) (((Chg.refl (fun k => k = w.heap.size + 1) w6).setCell (fun _ => rfl) _).alloc _)⟩
      have hz0 : a.e = 0 := Classical.not_not.1 hz
      rw [if_pos hz0] at he
      subst he
      clear hz
      try go_simp
      refine hK _ _ ?_
      clear hK K
      refine wpAny_ready (rs := [9]) (by kernel_rfl) (by simp) ?_
      refine (AllReady.cons rfl (fun K hK => ?_) AllReady.nil)
      go_simp
      refine hK _ _ ?_
      clear hK K
      refine wpAny_ready (rs := [10]) (by kernel_rfl) (by simp) ?_
      refine (AllReady.cons rfl (fun K hK => ?_) AllReady.nil)
      go_simp
      refine hK _ _ ?_
      clear hK K
      refine wpAny_done (by kernel_rfl) ?_ _
      go_wp2_with fail
      refine door_ret (w.heap.size + 1) _ _ (.int .i64 0) (.int .i64 a.n) rfl rfl ?_ ?_ ⟨rfl, Left.after HLT.out HR6.out HC6.out HF6.out (by omega) (show w.heap.size + 1 < wc.heap.size by omega) (((Chg.refl (fun k => k = w.heap.size + 1) w6).setCell (fun _ => rfl) _).setCell (fun _ => rfl) _)⟩
      · rw [World.cell?_setCell_other _ _ _ _ (by simp), World.cell?_setCell_same _ _ _ (by rw [m0])]
      · rw [World.cell?_setCell_same _ _ _ (by rw [World.cell?_setCell_other _ _ _ _ (by simp), m1])]
end
end Go.Proofs.Yteaeflmglppcdaa
