/- The contracts of the operations of a transaction that is not at work. -/
import Derived.Test.YteaeflmglppcdaaR3
namespace Go.Proofs.Yteaeflmglppcdaa
open Go.RowKit Tx

section
variable {w : World} {s m : Nat} {vi vr va vo : Value} {st : St} {F : Nat → Prop}

theorem read_no (hX : RepX w s vi m vr va vo st) (d t k n : Int) (h0 : 0 ≤ t) (h1 : t < 16) (hl : (st.txs t.toNat).live = false) :
    Calls Try.prog 64 #[.pointer (some ⟨s, 0, none⟩), .agg #[.int .i64 d, .int .i64 t, .int .i64 k, .int .i64 n]] w fun e w' => e = .panicked (stopV 6) ∧ New w w' := by
  have HL := Lib.hid hl; clear hl
  have hs := hX.blk.lt
  go_enter Try.func64, Try.ntmps64
  go_wp2_with fail
  (with_reducible refine (live_no (hX.new ((Chg.refl _ w).alloc _)) _ _ _ _ h0 h1 HL.out).mono ?_); rintro e w1 ⟨rfl, hN⟩
  exact ⟨rfl, rfl, ((Chg.refl _ w).alloc _).trans hN⟩
theorem write_no (hX : RepX w s vi m vr va vo st) (d t k n : Int) (h0 : 0 ≤ t) (h1 : t < 16) (hl : (st.txs t.toNat).live = false) :
    Calls Try.prog 66 #[.pointer (some ⟨s, 0, none⟩), .agg #[.int .i64 d, .int .i64 t, .int .i64 k, .int .i64 n]] w fun e w' => e = .panicked (stopV 6) ∧ New w w' := by
  have HL := Lib.hid hl; clear hl
  have hs := hX.blk.lt
  go_enter Try.func66, Try.ntmps66
  go_wp2_with fail
  (with_reducible refine (live_no (hX.new ((Chg.refl _ w).alloc _)) _ _ _ _ h0 h1 HL.out).mono ?_); rintro e w1 ⟨rfl, hN⟩
  exact ⟨rfl, rfl, ((Chg.refl _ w).alloc _).trans hN⟩
theorem commit_no (hX : RepX w s vi m vr va vo st) (d t k n : Int) (h0 : 0 ≤ t) (h1 : t < 16) (hl : (st.txs t.toNat).live = false) :
    Calls Try.prog 68 #[.pointer (some ⟨s, 0, none⟩), .agg #[.int .i64 d, .int .i64 t, .int .i64 k, .int .i64 n]] w fun e w' => e = .panicked (stopV 6) ∧ New w w' := by
  have HL := Lib.hid hl; clear hl
  have hs := hX.blk.lt
  go_enter Try.func68, Try.ntmps68
  go_wp2_with fail
  (with_reducible refine (live_no (hX.new ((Chg.refl _ w).alloc _)) _ _ _ _ h0 h1 HL.out).mono ?_); rintro e w1 ⟨rfl, hN⟩
  exact ⟨rfl, rfl, ((Chg.refl _ w).alloc _).trans hN⟩
theorem abort_no (hX : RepX w s vi m vr va vo st) (d t k n : Int) (h0 : 0 ≤ t) (h1 : t < 16) (hl : (st.txs t.toNat).live = false) :
    Calls Try.prog 69 #[.pointer (some ⟨s, 0, none⟩), .agg #[.int .i64 d, .int .i64 t, .int .i64 k, .int .i64 n]] w fun e w' => e = .panicked (stopV 6) ∧ New w w' := by
  have HL := Lib.hid hl; clear hl
  have hs := hX.blk.lt
  go_enter Try.func69, Try.ntmps69
  go_wp2_with fail
  (with_reducible refine (live_no (hX.new ((Chg.refl _ w).alloc _)) _ _ _ _ h0 h1 HL.out).mono ?_); rintro e w1 ⟨rfl, hN⟩
  exact ⟨rfl, rfl, ((Chg.refl _ w).alloc _).trans hN⟩
set_option maxRecDepth 100000 in
set_option maxHeartbeats 4000000 in
theorem add_no (hX : RepX w s vi m vr va vo st) (d t k n : Int) (h0 : 0 ≤ t) (h1 : t < 16) (hl : (st.txs t.toNat).live = false) :
    Calls Try.prog 67 #[.pointer (some ⟨s, 0, none⟩), .agg #[.int .i64 d, .int .i64 t, .int .i64 k, .int .i64 n]] w fun e w' => e = .panicked (stopV 6) ∧ New w w' := by
  have HC : Hid (∀ w', New w w' → Calls Try.prog 64 #[.pointer (some ⟨s, 0, none⟩), .agg #[.int .i64 d, .int .i64 t, .int .i64 k, .int .i64 n]] w' fun e w1 => e = .panicked (stopV 6) ∧ New w' w1) := fun w' hn => read_no (hX.new hn) d t k n h0 h1 hl
  clear hl hX
  have c0 : ∀ i v, (#[Value.int .i64 d, .int .i64 t, .int .i64 k, .int .i64 n] : Array Value)[i]? = some v → (w.alloc (.cells #[.int .i64 d, .int .i64 t, .int .i64 k, .int .i64 n] 47)).cell? ⟨w.heap.size, i, none⟩ = some v := fun i v hv => by
    rw [World.cell?_alloc_new]; exact hv
  have b0 := c0 0 _ rfl
  have b1 := c0 1 _ rfl
  have b2 := c0 2 _ rfl
  have b3 := c0 3 _ rfl
  clear c0
  go_enter Try.func67, Try.ntmps67
  go_wp2
  have hA : New w (w.alloc (.cells #[.int .i64 d, .int .i64 t, .int .i64 k, .int .i64 n] 47)) := (Chg.refl _ w).alloc _
  generalize w.alloc (.cells #[.int .i64 d, .int .i64 t, .int .i64 k, .int .i64 n] 47) = wa at *
  have HP : Hid (Calls Try.prog 64 #[.pointer (some ⟨s, 0, none⟩), .agg #[.int .i64 d, .int .i64 t, .int .i64 k, .int .i64 n]] wa.drew fun e w1 => e = .panicked (stopV 6) ∧ New w w1) :=
    (HC.out _ hA.drew).mono fun e w1 h => ⟨h.1, hA.drew.trans h.2⟩
  refine wp_region_any (by kernel_rfl) ?_
  change wpAny _ _ _ _ _ _ _ (World.drew _)
  refine wpAny_take (i := 0) (v := ?v0) rfl (by kernel_rfl) (by kernel_rfl) (by kernel_rfl) (fun _ _ _ h => h) (Or.inl ⟨by rfl, ?hy0⟩) ?rest0
  case hy0 => (intro w; go_simp; with_reducible rfl)
  case rest0 =>
    refine wpAny_take (i := 3) (v := ?v3) rfl (by kernel_rfl) (by kernel_rfl) (by kernel_rfl) (fun _ _ _ h => h) (Or.inl ⟨by rfl, ?hy3⟩) ?rest3
    case hy3 => (intro w; go_simp; with_reducible rfl)
    case rest3 =>
      refine wpAny_ready (rs := [1, 4]) (by kernel_rfl) (by simp) ?_
      refine AllReady.cons rfl (fun K hK => ?_) (AllReady.cons rfl (fun K hK => ?_) AllReady.nil)
      · go_simp
        refine hK _ _ ?_
        clear hK K
        refine wpAny_ready (rs := [2, 4]) (by kernel_rfl) (by simp) ?_
        refine AllReady.cons rfl (fun K hK => ?_) (AllReady.cons rfl (fun K hK => ?_) AllReady.nil)
        · go_simp
          go_at_call 64
          with_reducible refine HP.out.mono ?_
          rintro e w1 ⟨rfl, hN⟩
          exact ⟨rfl, rfl, hN⟩
        · go_simp
          refine hK _ _ ?_
          clear hK K
          refine wpAny_ready (rs := [2]) (by kernel_rfl) (by simp) ?_
          refine AllReady.cons rfl (fun K hK => ?_) AllReady.nil
          go_simp
          go_at_call 64
          with_reducible refine HP.out.mono ?_
          rintro e w1 ⟨rfl, hN⟩
          exact ⟨rfl, rfl, hN⟩
      · go_simp
        refine hK _ _ ?_
        clear hK K
        refine wpAny_ready (rs := [1]) (by kernel_rfl) (by simp) ?_
        refine AllReady.cons rfl (fun K hK => ?_) AllReady.nil
        go_simp
        refine hK _ _ ?_
        clear hK K
        refine wpAny_ready (rs := [2]) (by kernel_rfl) (by simp) ?_
        refine AllReady.cons rfl (fun K hK => ?_) AllReady.nil
        go_simp
        go_at_call 64
        with_reducible refine HP.out.mono ?_
        rintro e w1 ⟨rfl, hN⟩
        exact ⟨rfl, rfl, hN⟩
end
end Go.Proofs.Yteaeflmglppcdaa
