/- The contract of commit: a transaction that clashes. -/
import Derived.Test.YteaeflmglppcdaaR5
namespace Go.Proofs.Yteaeflmglppcdaa
open Go.RowKit Tx

def readsL (x : Txn) : List Value := (List.range 16).map fun i => .bool (x.read i)
theorem length_readsL (x : Txn) : (readsL x).length = 16 := by simp [readsL]
theorem readsL_at (x : Txn) (j : Nat) (hj : j < 16) : (readsL x)[j]? = some (.bool (x.read j)) := by simp [readsL, hj]
theorem Try.info66 : (Try.prog.info? 66).map (·.size) = some 16 := by kernel_rfl
theorem Try.sizeOf4 (w : World) : (sizeOf 4).run Try.prog w = .ok 1 w := by kernel_rfl
theorem Try.isAgg4 (w : World) : (isAgg 4).run Try.prog w = .ok false w := by kernel_rfl

/-- A whole array or struct is read: the operation by its text, so that a walk that asks at each step fails fast. -/
theorem wpList_loadT (T : TypeId) {ops : Array Oper} {rest : List Oper} {Q : Exit → Act → World → Prop} {w : World} {tm : Array Value} {df : List Deferred} {d x : Nat} {ty : TypeId} {p : String} {af : Array Edge}
    (b o : Nat) (A : Array Value) (hrun : (Instr.loadAt T (.pointer (some ⟨b, o, none⟩))).run Try.prog w = .ok (.agg A) w) (hx : tm.getD x undef = .pointer (some ⟨b, o, none⟩))
    (h : wpList Try.prog ops Q rest (({ tmps := tm, defers := df } : Act).put (some d) (.agg A)) w) :
    wpList Try.prog ops Q ({ dst := some d, op := .load T (.tmp x), type := ty, pos := p, after := af, guard := none } :: rest) { tmps := tm, defers := df } w := by
  refine wpList_plain rfl fun K' hK' => ?_
  unfold Oper.wp execOp
  have hx' : ({ tmps := tm, defers := df } : Act).eval (.tmp x) = .pointer (some ⟨b, o, none⟩) := hx
  simp only [hx', Sem.run_bind, hrun, Result.andThen_ok, Sem.run_pure]
  exact hK' _ _ h

theorem run_index_reads (x : Txn) (j : Nat) (hj : j < 16) (w : World) : (Instr.index 66 (.agg (readsL x).toArray) (.int .i64 j)).run Try.prog w = .ok (.bool (x.read j)) w := by
  have h1 : (0 : Int) ≤ (j : Int) ∧ (j : Int) < ((16 : Nat) : Int) := by omega
  simp [Instr.index, asIntOf, run_underlying Try.underlying66, Try.sizeOf4, part, Try.isAgg4, readsL_at x j hj, Result.andThen]
  intro h; omega

section
variable {w : World} {s m : Nat} {vi vr va vo : Value} {st : St} {F : Nat → Prop}

theorem RepX.reads (h : RepX w s vi m vr va vo st) {t : Nat} (ht : t < 16) : w.rangeAt s (1 + t * 21 + 1) (readsL (st.txs t)) := by
  intro j v hv
  have hj : j < 16 := by
    have := (List.getElem?_eq_some_iff.1 hv).1
    rw [length_readsL] at this; exact this
  rw [Nat.add_assoc (1 + t * 21), h.tx ht (by omega)]
  rw [readsL_at _ _ hj] at hv
  rw [← hv]
  have h1 : ¬ 1 + j = 0 := by omega
  have h2 : 1 + j ≤ 16 := by omega
  simp only [txCell, h1, h2, if_false, if_true]
  rw [Nat.add_sub_cancel_left]

theorem behind_setTx (st : St) (t : Nat) (x : Txn) (k n : Nat) : behind (st.setTx t x) k n = behind st k n := rfl

set_option maxRecDepth 100000 in
set_option maxHeartbeats 1000000 in
theorem commit_clash (hX : RepX w s vi m vr va vo st) (hF : ∀ k, F k ↔ foot s vi m vr k) (d t k n : Int) (h0 : 0 ≤ t) (h1 : t < 16) (hl : (st.txs t.toNat).live = true) (hw : (st.txs t.toNat).writes = true) (hcl : clash st t.toNat = true) :
    Calls Try.prog 68 #[.pointer (some ⟨s, 0, none⟩), .agg #[.int .i64 d, .int .i64 t, .int .i64 k, .int .i64 n]] w
      (Post w F s va vo (commit st t.toNat).1 (commit st t.toNat).2) := by
  have HF := Lib.hid hF; clear hF
  have HL := Lib.hid hl; clear hl
  have ha : Hid (commit st t.toNat = (⟨10, 0⟩, st.setTx t.toNat { st.txs t.toNat with over := true })) := by
    show _ = _
    unfold commit
    rw [hw, hcl]
    rfl
  have HW := Lib.hid hw; clear hw
  have hc1 : ∃ c, c < 16 ∧ (st.txs t.toNat).read c = true ∧ behind st c (st.txs t.toNat).inst = true := by
    unfold clash at hcl
    rw [List.any_eq_true] at hcl
    obtain ⟨c, hc, h⟩ := hcl
    simp only [Bool.and_eq_true] at h
    exact ⟨c, by simpa using hc, h.1, h.2⟩
  have HCL := Lib.hid hc1; clear hc1 hcl
  have hs := hX.blk.lt
  go_enter Try.func68, Try.ntmps68
  go_wp2_with fail
  (with_reducible refine (live_yes (hX.new ((Chg.refl _ w).alloc _)) _ _ _ _ h0 h1 HL.out).mono ?_); rintro e w1 ⟨rfl, hN⟩
  have hX1 := (hX.new ((Chg.refl _ w).alloc _)).new hN
  have hf := hX1.blk.free (1 + t.toNat * 21 + 18)
  have hc := hX1.tx (t := t.toNat) (by omega) (j := 18) (by omega)
  have hX2 := hX1.setTx (t := t.toNat) (j := 18) (by omega) (by omega) (v := .bool true) (fun i _ => cells_over (st.txs t.toNat) i)
  have hw2 : (w1.setCell ⟨s, 1 + t.toNat * 21 + 18, none⟩ (.bool true)).cell? ⟨s, 1 + t.toNat * 21 + 20, none⟩ = some (.bool true) := by
    rw [hX2.tx (by omega) (by omega), setTx_at]; simp [txCell, HW.out]
  have hC2 : Chg F w (w1.setCell ⟨s, 1 + t.toNat * 21 + 18, none⟩ (.bool true)) :=
    (Chg.of_new (((Chg.refl _ w).alloc _).trans hN)).setCell (fun _ => (HF.out s).2 (.inl rfl)) _
  have hrl : readsL ((st.setTx t.toNat { st.txs t.toNat with over := true }).txs t.toNat) = readsL (st.txs t.toNat) := by rw [setTx_at]; rfl
  have HLD : Hid ((Instr.loadAt 66 (.pointer (some ⟨s, 1 + t.toNat * 21 + 1, none⟩))).run Try.prog (w1.setCell ⟨s, 1 + t.toNat * 21 + 18, none⟩ (.bool true)) = .ok (.agg (readsL (st.txs t.toNat)).toArray) (w1.setCell ⟨s, 1 + t.toNat * 21 + 18, none⟩ (.bool true))) := by
    rw [← hrl]
    exact run_loadAt_mid _ s (1 + t.toNat * 21 + 1) 66 _ _ (hX2.reads (by omega)) Try.underlying66 rfl Try.info66
  clear hrl
  go_wp2_with ((with_reducible refine wpList_loadT 66 s (1 + t.toNat * 21 + 1) _ HLD.out ?_ ?_); · rfl)
  clear HLD hw2 hc hf hX1 hN hX
  generalize w1.setCell ⟨s, 1 + t.toNat * 21 + 18, none⟩ (.bool true) = w2 at *
  go_loopw [41] (fun v wr => ∃ j : Nat, j ≤ 16 ∧ v = .int .i64 j ∧ (∀ i, i < j → ((st.txs t.toNat).read i && behind st i (st.txs t.toNat).inst) = false) ∧ Chg F w wr ∧ RepX wr s vi m vr va vo (st.setTx t.toNat { st.txs t.toNat with over := true })) (fun v _ => 16 - (intOf v).toNat)
  case atStart => exact ⟨0, by omega, rfl, by simp, hC2, hX2⟩
  case round =>
    obtain ⟨j, hj, rfl, hno, hCr, hXr⟩ := hrel
    by_cases hlt : j < 16
    · have HNO := Lib.hid hno
      have hix : ∀ w, (Instr.index 66 (.agg (readsL (st.txs t.toNat)).toArray) (.int .i64 j)).run Try.prog w = .ok (.bool ((st.txs t.toNat).read j)) w := run_index_reads _ j hlt
      clear hno
      cases hr : (st.txs t.toNat).read j
      · rw [hr] at hix
        have HR := Lib.hid hr; clear hr
        go_wp2_with ((with_reducible refine (must_yes _ _).mono ?_); rintro e w' ⟨rfl, rfl⟩)
        go_roundw
        case rel =>
          refine ⟨j + 1, by omega, by go_num, fun i hi => ?_, hCr, hXr⟩
          by_cases e : i = j
          · rw [e, HR.out]; rfl
          · exact HNO.out i (by omega)
        case measure => simp [intOf]; omega
      · rw [hr] at hix
        have HR := Lib.hid hr; clear hr
        have hinst : wr.cell? ⟨s, 1 + t.toNat * 21, none⟩ = some (.int .i64 (st.txs t.toNat).inst) := by
          have := hXr.tx (t := t.toNat) (by omega) (j := 0) (by omega)
          rw [setTx_at] at this
          simpa [txCell] using this
        have HB : Hid (Calls Try.prog 75 #[.pointer (some ⟨s, 0, none⟩), .int .i64 j, .int .i64 (st.txs t.toNat).inst] wr fun e w' => e = .returned (.bool (behind st j (st.txs t.toNat).inst)) ∧ New wr w') := behind_any hXr j _ hlt
        cases hbe : behind st j (st.txs t.toNat).inst
        · rw [hbe] at HB
          have HBE := Lib.hid hbe; clear hbe
          go_wp2_with (first | ((with_reducible refine (must_yes _ _).mono ?_); rintro e w' ⟨rfl, rfl⟩) | ((with_reducible refine HB.out.mono ?_); rintro e w' ⟨rfl, hn'⟩))
          go_roundw
          case rel =>
            refine ⟨j + 1, by omega, by go_num, fun i hi => ?_, hCr.trans (Chg.of_new hn'), hXr.new hn'⟩
            by_cases e : i = j
            · rw [e, HBE.out, Bool.and_false]
            · exact HNO.out i (by omega)
          case measure => simp [intOf]; omega
        · rw [hbe] at HB
          have HBE := Lib.hid hbe; clear hbe
          go_wp2_with (first | ((with_reducible refine (must_no _ _).mono ?_); rintro e w' ⟨rfl, rfl⟩) | ((with_reducible refine HB.out.mono ?_); rintro e w' ⟨rfl, hn'⟩))
          rw [ha.out]
          exact ⟨rfl, Post.put rfl HF.out (hXr.new hn') (hCr.trans (Chg.of_new hn'))⟩
    · exfalso
      obtain ⟨c, h16, h2, h3⟩ := HCL.out
      have := hno c (by omega)
      rw [h2, h3] at this
      cases this
end
end Go.Proofs.Yteaeflmglppcdaa
