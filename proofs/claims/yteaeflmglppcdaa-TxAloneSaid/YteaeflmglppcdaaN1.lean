/- The states of a store behind the first operations; what one operation does to the instants. -/
import Derived.Test.YteaeflmglppcdaaM0
namespace Go.Proofs.Yteaeflmglppcdaa
open Tx
namespace Tx

theorem run_snoc (l : List Op) : ∀ (st : St) (o : Op), run st (l ++ [o]) = ((run st l).1 ++ [(step (run st l).2 o).1], (step (run st l).2 o).2) := by
  induction l with
  | nil => intro st o; rfl
  | cons x l ih => intro st o; simp only [List.cons_append, run, ih]
theorem length_run' (l : List Op) : ∀ (st : St), (run st l).1.length = l.length := by
  induction l with
  | nil => intro st; rfl
  | cons o l ih => intro st; simp [run, ih]
/-- The state behind the first i operations. -/
def at_ (ops : List Op) (i : Nat) : St := (run St.zero (ops.take i)).2
def ans (ops : List Op) : List Ans := (run St.zero ops).1
theorem at_zero (ops : List Op) : at_ ops 0 = St.zero := rfl
theorem at_all (ops : List Op) : at_ ops ops.length = (run St.zero ops).2 := by unfold at_; rw [List.take_length]
theorem run_take_succ {ops : List Op} {i : Nat} {o : Op} (h : ops[i]? = some o) : run St.zero (ops.take (i + 1)) = ((run St.zero (ops.take i)).1 ++ [(step (at_ ops i) o).1], (step (at_ ops i) o).2) := by
  have hlt := (List.getElem?_eq_some_iff.1 h).1
  rw [List.take_succ_eq_append_getElem hlt, (List.getElem?_eq_some_iff.1 h).2, run_snoc]
  rfl
theorem at_succ {ops : List Op} {i : Nat} {o : Op} (h : ops[i]? = some o) : at_ ops (i + 1) = (step (at_ ops i) o).2 := by
  show (run St.zero (ops.take (i + 1))).2 = _
  rw [run_take_succ h]
theorem run_split (l r : List Op) : ∀ (st : St), (run st (l ++ r)).1 = (run st l).1 ++ (run (run st l).2 r).1 := by
  induction l with
  | nil => intro st; rfl
  | cons x l ih => intro st; simp only [List.cons_append, run, ih]
theorem ans_take (ops : List Op) (i : Nat) : (run St.zero (ops.take i)).1 = (ans ops).take i := by
  unfold ans
  have h := run_split (ops.take i) (ops.drop i) St.zero
  rw [List.take_append_drop] at h
  rw [h]
  rcases Nat.le_total i ops.length with hi | hi
  · exact (List.take_left' (by rw [length_run', List.length_take]; omega)).symm
  · have e : ops.drop i = [] := List.drop_eq_nil_of_le hi
    have e2 : ((run St.zero (ops.take i)).1).take i = (run St.zero (ops.take i)).1 := List.take_of_length_le (by rw [length_run', List.length_take]; omega)
    rw [e]
    simp only [run, List.append_nil]
    exact e2.symm
theorem ans_at {ops : List Op} {i : Nat} {o : Op} (h : ops[i]? = some o) : (ans ops)[i]? = some (step (at_ ops i) o).1 := by
  have h1 := ans_take ops (i + 1)
  rw [run_take_succ h] at h1
  have hl : (run St.zero (ops.take i)).1.length = i := by
    have := (List.getElem?_eq_some_iff.1 h).1
    rw [length_run', List.length_take]; omega
  have h2 : ((ans ops).take (i + 1))[i]? = some (step (at_ ops i) o).1 := by
    rw [← h1]
    simp [List.getElem?_append_right, hl]
  rw [List.getElem?_take] at h2
  simpa using h2

/-- What an operation does to the instants: a commit that writes makes one; nothing else does. -/
theorem step_insts (st : St) (hne : 0 < st.insts.length) (o : Op) :
    (o.d = 4 ∧ (step st o).1 = ⟨0, st.insts.length⟩ ∧ 0 ≤ o.t ∧ o.t ≤ 15 ∧ (st.txs o.t.toNat).live = true ∧ (st.txs o.t.toNat).writes = true ∧ clash st o.t.toNat = false ∧ (step st o).2.insts = st.insts ++ [made st o.t.toNat]) ∨
    (¬ (o.d = 4 ∧ (step st o).1.e = 0 ∧ (step st o).1.n ≠ 0) ∧ (step st o).2.insts = st.insts) := by
  unfold step
  split
  · exact .inr ⟨fun h => by simp at h, rfl⟩
  · split
    · exact .inr ⟨fun h => by simp at h, rfl⟩
    · rename_i hw hf
      have h0 : 0 ≤ o.t ∧ o.t ≤ 15 := by
        simp only [fits, within, Bool.not_eq_true', Bool.not_eq_false, Bool.and_eq_true, decide_eq_true_eq] at hf
        exact hf.1.1
      unfold does
      dsimp only
      split
      · rename_i hd
        refine .inr ⟨fun h => by omega, ?_⟩
        unfold begin_
        split <;> rfl
      · split
        · exact .inr ⟨fun h => by simp at h, rfl⟩
        · rename_i hlv
          split
          · rename_i hd
            refine .inr ⟨fun h => by omega, ?_⟩
            unfold look
            split <;> rfl
          · split
            · rename_i hd
              exact .inr ⟨fun h => by omega, rfl⟩
            · split
              · rename_i hd
                refine .inr ⟨fun h => by omega, ?_⟩
                unfold put look
                split <;> rfl
              · split
                · rename_i hd
                  unfold commit
                  dsimp only
                  split
                  · exact .inr ⟨fun h => by simp at h, rfl⟩
                  · rename_i hwr
                    split
                    · exact .inr ⟨fun h => by simp at h, rfl⟩
                    · rename_i hcl
                      refine .inl ⟨hd, rfl, h0.1, h0.2, by simpa using hlv, by simpa using hwr, by simpa using hcl, rfl⟩
                · rename_i hd
                  exact .inr ⟨fun h => hd h.1, rfl⟩
theorem at_ne (ops : List Op) (i : Nat) : 0 < (at_ ops i).insts.length := by
  induction i with
  | zero => rw [at_zero]; decide
  | succ i ih =>
    cases h : ops[i]? with
    | none =>
      have hle := List.getElem?_eq_none_iff.1 h
      have e : at_ ops (i + 1) = at_ ops i := by
        unfold at_
        rw [List.take_of_length_le (by omega), List.take_of_length_le hle]
      rw [e]; exact ih
    | some o =>
      rw [at_succ h]
      rcases step_insts _ ih o with h1 | h1
      · rw [h1.2.2.2.2.2.2.2, List.length_append]; simp
      · rw [h1.2]; exact ih
/-- Instants stay as they are. -/
theorem insts_stay (ops : List Op) (i : Nat) : ∀ j, i ≤ j → j ≤ ops.length → (at_ ops i).insts <+: (at_ ops j).insts := by
  intro j hij hj
  induction j with
  | zero =>
    obtain rfl : i = 0 := by omega
    exact List.prefix_rfl
  | succ j ih =>
    rcases Nat.lt_or_ge j i with h | h
    · obtain rfl : i = j + 1 := by omega
      exact List.prefix_rfl
    · refine (ih h (by omega)).trans ?_
      have ho : ops[j]? = some ops[j] := List.getElem?_eq_getElem (by omega)
      rw [at_succ ho]
      rcases step_insts _ (at_ne ops j) ops[j] with h1 | h1
      · rw [h1.2.2.2.2.2.2.2]; exact List.prefix_append _ _
      · rw [h1.2]; exact List.prefix_rfl
theorem inst_stays (ops : List Op) {i m : Nat} (hi : i ≤ ops.length) (hm : m < (at_ ops i).insts.length) : (run St.zero ops).2.inst m = (at_ ops i).inst m := by
  have h := insts_stay ops i ops.length hi (Nat.le_refl _)
  rw [at_all] at h
  obtain ⟨r, hr⟩ := h
  unfold St.inst
  rw [← hr, List.getD_eq_getElem?_getD, List.getD_eq_getElem?_getD, List.getElem?_append_left hm]
end Tx
end Go.Proofs.Yteaeflmglppcdaa
