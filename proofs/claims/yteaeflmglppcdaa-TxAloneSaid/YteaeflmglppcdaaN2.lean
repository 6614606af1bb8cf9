/- What one operation does, kind by kind; the plain law of TxInstants. -/
import Derived.Test.YteaeflmglppcdaaN1
namespace Go.Proofs.Yteaeflmglppcdaa
open Tx
namespace Tx

/-- What an operation does. -/
inductive StepK (st : St) (o : Op) : Ans → St → Prop
  | refuse (e : Int) (he : e ≠ 0) : StepK st o ⟨e, 0⟩ st
  | begin_ (h0 : 0 ≤ o.t) (h1 : o.t ≤ 15) (hd : o.d = 0) (hb : (st.txs o.t.toNat).begun = false) : StepK st o ⟨0, last st⟩ (st.setTx o.t.toNat { st.txs o.t.toNat with begun := true, inst := last st })
  | read (h0 : 0 ≤ o.t) (h1 : o.t ≤ 15) (k0 : 0 ≤ o.k) (k1 : o.k ≤ 15) (hd : o.d = 1) (hl : (st.txs o.t.toNat).live = true) : StepK st o ⟨0, see st o.t.toNat o.k.toNat⟩ (look st o.t.toNat o.k.toNat)
  | write (h0 : 0 ≤ o.t) (h1 : o.t ≤ 15) (k0 : 0 ≤ o.k) (k1 : o.k ≤ 15) (hd : o.d = 2) (hl : (st.txs o.t.toNat).live = true) : StepK st o ⟨0, 0⟩ (put st o.t.toNat o.k.toNat o.n)
  | add (h0 : 0 ≤ o.t) (h1 : o.t ≤ 15) (k0 : 0 ≤ o.k) (k1 : o.k ≤ 15) (n0 : -2147483648 ≤ o.n) (n1 : o.n ≤ 2147483647) (hd : o.d = 3) (hl : (st.txs o.t.toNat).live = true) :
      StepK st o ⟨0, w32 (see st o.t.toNat o.k.toNat + o.n)⟩ (put (look st o.t.toNat o.k.toNat) o.t.toNat o.k.toNat (w32 (see st o.t.toNat o.k.toNat + o.n)))
  | quiet (h0 : 0 ≤ o.t) (h1 : o.t ≤ 15) (hd : o.d = 4) (hl : (st.txs o.t.toNat).live = true) (hw : (st.txs o.t.toNat).writes = false) :
      StepK st o ⟨0, 0⟩ { st.setTx o.t.toNat { st.txs o.t.toNat with over := true, comm := true } with readers := st.readers ++ [(o.t.toNat : Int)] }
  | clash (h0 : 0 ≤ o.t) (h1 : o.t ≤ 15) (hd : o.d = 4) (hl : (st.txs o.t.toNat).live = true) (hw : (st.txs o.t.toNat).writes = true) (hc : clash st o.t.toNat = true) :
      StepK st o ⟨10, 0⟩ (st.setTx o.t.toNat { st.txs o.t.toNat with over := true })
  | made (h0 : 0 ≤ o.t) (h1 : o.t ≤ 15) (hd : o.d = 4) (hl : (st.txs o.t.toNat).live = true) (hw : (st.txs o.t.toNat).writes = true) (hc : clash st o.t.toNat = false) :
      StepK st o ⟨0, st.insts.length⟩ { st.setTx o.t.toNat { st.txs o.t.toNat with over := true, comm := true } with insts := st.insts ++ [made st o.t.toNat] }
  | abort (h0 : 0 ≤ o.t) (h1 : o.t ≤ 15) (hd : o.d = 5) (hl : (st.txs o.t.toNat).live = true) : StepK st o ⟨0, 0⟩ (st.setTx o.t.toNat { st.txs o.t.toNat with over := true })

theorem step_kind (st : St) (o : Op) : StepK st o (step st o).1 (step st o).2 := by
  unfold step
  split
  · exact .refuse 1 (by decide)
  · split
    · exact .refuse 2 (by decide)
    · rename_i hw hf
      simp only [within, Bool.not_eq_true', Bool.not_eq_false, Bool.and_eq_true, decide_eq_true_eq] at hw
      simp only [fits, within, Bool.not_eq_true', Bool.not_eq_false, Bool.and_eq_true, decide_eq_true_eq, Bool.or_eq_true] at hf
      obtain ⟨⟨⟨h0, h1⟩, hk⟩, hn⟩ := hf
      have hk' : o.d = 1 ∨ o.d = 2 ∨ o.d = 3 → 0 ≤ o.k ∧ o.k ≤ 15 := fun h => by
        rcases hk with hk | hk
        · exfalso
          simp [keyed] at hk
          omega
        · exact hk
      unfold does
      dsimp only
      split
      · rename_i hd
        unfold Tx.begin_
        split
        · exact .refuse 5 (by decide)
        · rename_i hb
          exact .begin_ h0 h1 hd (by simpa using hb)
      · split
        · exact .refuse 6 (by decide)
        · rename_i hlv
          have hl : (st.txs o.t.toNat).live = true := by simpa using hlv
          split
          · rename_i hd
            exact .read h0 h1 (hk' (by omega)).1 (hk' (by omega)).2 hd hl
          · split
            · rename_i hd
              exact .write h0 h1 (hk' (by omega)).1 (hk' (by omega)).2 hd hl
            · split
              · rename_i hd
                have hn' : -2147483648 ≤ o.n ∧ o.n ≤ 2147483647 := by
                  rcases hn with hn | hn
                  · exfalso
                    simp [wordy] at hn
                    omega
                  · simpa [word] using hn
                exact .add h0 h1 (hk' (by omega)).1 (hk' (by omega)).2 hn'.1 hn'.2 hd hl
              · split
                · rename_i hd
                  unfold commit
                  dsimp only
                  split
                  · rename_i hwr
                    exact .quiet h0 h1 hd hl (by simpa using hwr)
                  · rename_i hwr
                    split
                    · rename_i hcl
                      exact .clash h0 h1 hd hl (by simpa using hwr) hcl
                    · rename_i hcl
                      exact .made h0 h1 hd hl (by simpa using hwr) (by simpa using hcl)
                · exact .abort h0 h1 (by omega) hl

/-- An operation ahead of place i wrote a key for a transaction. -/
def wroteAt (ops : List Op) (i : Nat) (t k : Int) : Prop := ∃ j x a, j < i ∧ ops[j]? = some x ∧ (ans ops)[j]? = some a ∧ x.t = t ∧ x.k = k ∧ (x.d = 2 ∨ x.d = 3) ∧ a.e = 0
theorem wroteAt.more {ops : List Op} {i : Nat} {t k : Int} (h : wroteAt ops i t k) : wroteAt ops (i + 1) t k := by
  obtain ⟨j, x, a, hj, r⟩ := h
  exact ⟨j, x, a, by omega, r⟩
theorem look_wr (st : St) (t k : Nat) : (look st t k).wr = st.wr := by unfold look; split <;> rfl
theorem wr_from (ops : List Op) : ∀ i, i ≤ ops.length → ∀ t k : Int, (mget (t, k) (at_ ops i).wr).isSome = true → wroteAt ops i t k := by
  intro i
  induction i with
  | zero => intro _ t k h; rw [at_zero] at h; simp [St.zero, mget] at h
  | succ i ih =>
    intro hi t k h
    have ho : ops[i]? = some ops[i] := List.getElem?_eq_getElem (by omega)
    have ha := ans_at ho
    rw [at_succ ho] at h
    have hk := step_kind (at_ ops i) ops[i]
    have put_ : ∀ (st : St) (n : Int), st.wr = (at_ ops i).wr → 0 ≤ ops[i].t → 0 ≤ ops[i].k → (ops[i].d = 2 ∨ ops[i].d = 3) → (step (at_ ops i) ops[i]).1.e = 0 →
        (mget (t, k) (put st ops[i].t.toNat ops[i].k.toNat n).wr).isSome = true → wroteAt ops (i + 1) t k := by
      intro st n hw h0 k0 hd he hm
      unfold put at hm
      simp only [mget_mput, hw] at hm
      split at hm
      · rename_i he2
        have e1 : (ops[i].t.toNat : Int) = t := congrArg Prod.fst he2
        have e2 : (ops[i].k.toNat : Int) = k := congrArg Prod.snd he2
        exact ⟨i, ops[i], _, by omega, ho, ha, by omega, by omega, hd, he⟩
      · exact (ih (by omega) t k hm).more
    generalize hz : step (at_ ops i) ops[i] = z at *
    obtain ⟨za, zs⟩ := z
    dsimp only at *
    cases hk with
    | refuse e he => exact (ih (by omega) t k h).more
    | begin_ => exact (ih (by omega) t k h).more
    | read => rw [look_wr] at h; exact (ih (by omega) t k h).more
    | write h0 h1 k0 k1 hd hl => exact put_ _ _ rfl h0 k0 (.inl hd) rfl h
    | add h0 h1 k0 k1 n0 n1 hd hl => exact put_ _ _ (look_wr _ _ _) h0 k0 (.inr hd) rfl h
    | quiet => exact (ih (by omega) t k h).more
    | clash => exact (ih (by omega) t k h).more
    | made => exact (ih (by omega) t k h).more
    | abort => exact (ih (by omega) t k h).more

/-- The law of the instants, at an operation that makes one. -/
theorem instants_made {ops : List Op} {i : Nat} {o : Op} (ho : ops[i]? = some o) {a : Ans} (ha : (ans ops)[i]? = some a) (hd : o.d = 4) (he : a.e = 0) (hn : a.n ≠ 0) :
    a.n = (at_ ops i).insts.length ∧ (at_ ops (i + 1)).insts.length = (at_ ops i).insts.length + 1 ∧
    ∀ k : Nat, ((run St.zero ops).2.inst (at_ ops i).insts.length).words k ≠ ((run St.zero ops).2.inst ((at_ ops i).insts.length - 1)).words k → wroteAt ops i o.t k := by
  have hi := (List.getElem?_eq_some_iff.1 ho).1
  rw [ans_at ho] at ha
  cases ha
  rcases step_insts _ (at_ne ops i) o with ⟨_, h1, h2, h3, h4, h5, h6, h7⟩ | h
  · rw [← at_succ ho] at h7
    have hl : (at_ ops (i + 1)).insts.length = (at_ ops i).insts.length + 1 := by rw [h7, List.length_append]; rfl
    refine ⟨by rw [h1], hl, fun k hk => ?_⟩
    have e1 := inst_stays ops (i := i + 1) (m := (at_ ops i).insts.length) (by omega) (by omega)
    have e2 := inst_stays ops (i := i) (m := (at_ ops i).insts.length - 1) (by omega) (by have := at_ne ops i; omega)
    rw [e1, e2] at hk
    have e3 : (at_ ops (i + 1)).inst (at_ ops i).insts.length = made (at_ ops i) o.t.toNat := by
      unfold St.inst
      rw [h7, List.getD_eq_getElem?_getD, List.getElem?_append_right (by omega)]
      simp
    rw [e3] at hk
    refine wr_from ops i (by omega) o.t k ?_
    unfold made at hk
    have e4 : ((o.t.toNat : Nat) : Int) = o.t := by omega
    simp only [e4] at hk
    cases hm : mget (o.t, (k : Int)) (at_ ops i).wr with
    | some v => rfl
    | none =>
      rw [hm] at hk
      exact absurd rfl hk
  · exact absurd ⟨hd, he, hn⟩ h.1
theorem instants_other {ops : List Op} {i : Nat} {o : Op} (ho : ops[i]? = some o) {a : Ans} (ha : (ans ops)[i]? = some a) (h : ¬ (o.d = 4 ∧ a.e = 0 ∧ a.n ≠ 0)) :
    (at_ ops (i + 1)).insts.length = (at_ ops i).insts.length := by
  rw [ans_at ho] at ha
  cases ha
  rw [at_succ ho]
  rcases step_insts _ (at_ne ops i) o with ⟨h0, h1, _⟩ | h'
  · refine absurd ⟨h0, by rw [h1], ?_⟩ h
    rw [h1]
    have := at_ne ops i
    simp only
    omega
  · rw [h'.2]
end Tx
end Go.Proofs.Yteaeflmglppcdaa
