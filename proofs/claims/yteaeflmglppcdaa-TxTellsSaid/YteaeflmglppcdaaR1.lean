/- The contracts of begin, abort and write. -/
import Derived.Test.YteaeflmglppcdaaR0
import Derived.StillTailTactics
import Derived.Lib.Hide
namespace Go.Proofs.Yteaeflmglppcdaa
open Go.RowKit Tx

/-- What an operation leaves: its answer, and the store in the next state; nothing else has changed. -/
def Post (w : World) (F : Nat → Prop) (s : Nat) (va vo : Value) (a : Ans) (st' : St) (e : Ending) (w' : World) : Prop :=
  (e = if a.e = 0 then .returned (.int .i64 a.n) else .panicked (stopV a.e)) ∧
  ∃ F', Rep w' s va vo st' F' ∧ Chg F w w' ∧ ∀ k, F' k → F k ∨ w.heap.size ≤ k

section
variable {w : World} {s m : Nat} {vi vr va vo : Value} {st : St} {F : Nat → Prop}

theorem Post.same {a : Ans} {e : Ending} {w' : World} (he : e = if a.e = 0 then .returned (.int .i64 a.n) else .panicked (stopV a.e))
    (hR : Rep w s va vo st F) (hn : New w w') : Post w F s va vo a st e w' :=
  ⟨he, F, hR.new hn, Chg.of_new hn, fun _ hk => .inl hk⟩

/-- The blocks stay what they were. -/
theorem Post.put {a : Ans} {e : Ending} {w' : World} {st' : St} (he : e = if a.e = 0 then .returned (.int .i64 a.n) else .panicked (stopV a.e))
    (hF : ∀ k, F k ↔ foot s vi m vr k) (hX : RepX w' s vi m vr va vo st') (hc : Chg F w w') : Post w F s va vo a st' e w' :=
  ⟨he, F, ⟨vi, m, vr, hX, hF⟩, hc, fun _ hk => .inl hk⟩

theorem setTx_setTx (st : St) (t : Nat) (x y : Txn) : (st.setTx t x).setTx t y = st.setTx t y := by
  unfold St.setTx
  simp only [St.mk.injEq, and_true, true_and]
  funext i
  by_cases h : i = t <;> simp [h]
theorem setTx_at (st : St) (t : Nat) (x : Txn) : (st.setTx t x).txs t = x := by simp [St.setTx]
/-- Cells of a transaction that differ in one place. -/
theorem cells_begun (x : Txn) (i : Nat) : txCell { x with begun := true } i = if i = 17 then .bool true else txCell x i := by
  unfold txCell; by_cases h : i = 17 <;> simp [h]
theorem cells_over (x : Txn) (i : Nat) : txCell { x with over := true } i = if i = 18 then .bool true else txCell x i := by
  unfold txCell; by_cases h : i = 18 <;> simp [h]
theorem cells_comm (x : Txn) (i : Nat) : txCell { x with comm := true } i = if i = 19 then .bool true else txCell x i := by
  unfold txCell; by_cases h : i = 19 <;> simp [h]
theorem cells_writes (x : Txn) (i : Nat) (hi : i < 21) : txCell { x with writes := true } i = if i = 20 then .bool true else txCell x i := by
  unfold txCell
  by_cases h : i = 20
  · simp [h]
  · rw [if_neg h]
    by_cases h19 : i = 19
    · simp [h19]
    · by_cases h18 : i = 18
      · simp [h18]
      · by_cases h17 : i = 17
        · simp [h17]
        · have : i ≤ 16 := by omega
          simp [this]
theorem cells_inst (x : Txn) (n : Nat) (i : Nat) : txCell { x with inst := n } i = if i = 0 then .int .i64 n else txCell x i := by
  unfold txCell; by_cases h : i = 0 <;> simp [h]
theorem cells_read (x : Txn) (k : Nat) (hk : k < 16) (i : Nat) : txCell (x.setRead k) i = if i = 1 + k then .bool true else txCell x i := by
  unfold txCell Txn.setRead
  by_cases h : i = 1 + k
  · subst h
    have : ¬ 1 + k = 0 := by omega
    have h2 : 1 + k ≤ 16 := by omega
    simp [this, h2]
  · by_cases h0 : i = 0
    · simp [h0]; omega
    · have : ¬ i - 1 = k := by omega
      simp [h, h0, this]

theorem RepX.new {w' : World} (h : RepX w s vi m vr va vo st) (hc : New w w') : RepX w' s vi m vr va vo st := h.kept hc (fun _ _ x => x)


theorem last_rep (h : RepX w s vi m vr va vo st) : Calls Try.prog 39 #[.pointer (some ⟨s, 0, none⟩)] w fun e w' => e = .returned (.int .i64 ((st.insts.length : Int) - 1)) ∧ w' = w := by
  obtain ⟨g, cap, rfl, hm, hgs, hcell⟩ := h.slice
  exact last_any s 0 _ _ _ w (h.blk.cell (by omega)) hm

set_option maxHeartbeats 400000 in
theorem begin_any (hX : RepX w s vi m vr va vo st) (hF : ∀ k, F k ↔ foot s vi m vr k) (d t k n : Int) (h0 : 0 ≤ t) (h1 : t < 16) :
    Calls Try.prog 62 #[.pointer (some ⟨s, 0, none⟩), .agg #[.int .i64 d, .int .i64 t, .int .i64 k, .int .i64 n]] w
      (Post w F s va vo (begin_ st t.toNat).1 (begin_ st t.toNat).2) := by
  have hs := hX.blk.lt
  have hb : w.cell? ⟨s, 1 + t.toNat * 21 + 17, none⟩ = some (.bool (st.txs t.toNat).begun) := by
    rw [hX.tx (by omega) (by omega)]; simp [txCell]
  have hi : w.cell? ⟨s, 1 + t.toNat * 21, none⟩ = some (.int .i64 (st.txs t.toNat).inst) := by
    have := hX.tx (t := t.toNat) (by omega) (j := 0) (by omega)
    simpa [txCell] using this
  have hf1 := hX.blk.free (1 + t.toNat * 21 + 17)
  have hf2 := hX.blk.free (1 + t.toNat * 21)
  cases hbe : (st.txs t.toNat).begun
  · rw [hbe] at hb
    have HB := Lib.hid hbe; clear hbe
    have HF := Lib.hid hF; clear hF
    have hlen := hX.ne
    go_enter Try.func62, Try.ntmps62
    go_wp2
    go_quiet (fail)
    go_wp2_with (first
      | ((with_reducible refine (must_yes _ _).mono ?_); rintro e w' ⟨rfl, rfl⟩)
      | ((with_reducible refine (last_rep (hX.new (((Chg.refl _ w).alloc _).drewN _))).mono ?_); rintro e w' ⟨rfl, rfl⟩))
    go_ret
    have ha : begin_ st t.toNat = (⟨0, last st⟩, st.setTx t.toNat { st.txs t.toNat with begun := true, inst := last st }) := by simp [begin_, HB.out]
    rw [ha]
    have hN : New w ((w.alloc (.cells #[.int .i64 d, .int .i64 t, .int .i64 k, .int .i64 n] 47)).drewN nq) := ((Chg.refl _ w).alloc _).drewN nq
    have h1' := (hX.new hN).setTx (t := t.toNat) (j := 17) (by omega) (by omega) (v := .bool true) (x := { st.txs t.toNat with begun := true }) (fun i _ => cells_begun _ i)
    have h2' := h1'.setTx (t := t.toNat) (j := 0) (by omega) (by omega) (v := .int .i64 ((st.insts.length : Int) - 1)) (x := { st.txs t.toNat with begun := true, inst := last st })
      (fun i _ => by rw [setTx_at]; rw [cells_inst { st.txs t.toNat with begun := true } (last st) i]; unfold last; rw [show ((st.insts.length - 1 : Nat) : Int) = (st.insts.length : Int) - 1 from by omega])
    rw [setTx_setTx] at h2'
    refine Post.put ?_ HF.out h2' ?_
    · simp [last]; omega
    · have hFs : F s := (HF.out s).2 (.inl rfl)
      exact ((Chg.of_new hN).setCell (fun _ => hFs) _).setCell (fun _ => hFs) _
  · rw [hbe] at hb
    have ha : begin_ st t.toNat = (⟨5, 0⟩, st) := by simp [begin_, hbe]
    rw [ha]
    have HF := Lib.hid hF; clear hF
    clear hbe ha
    go_enter Try.func62, Try.ntmps62
    go_wp2
    go_quiet (fail)
    go_wp2_with ((with_reducible refine (must_no _ _).mono ?_); rintro e w' ⟨rfl, rfl⟩)
    exact ⟨rfl, Post.same rfl ⟨vi, m, vr, hX, HF.out⟩ (((Chg.refl _ w).alloc _).drewN _)⟩
end
end Go.Proofs.Yteaeflmglppcdaa
