/- The serial order: what the loops of serial make, in plain Lean; the contract of serial. -/
import Derived.Test.YteaeflmglppcdaaE4
namespace Go.Proofs.Yteaeflmglppcdaa
open Go.RowKit Tx

namespace Tx
/-- The readers of an instant. -/
def readersOf (st : St) (i : Nat) : List Int := st.readers.filter fun r => decide ((st.txs r.toNat).inst = i)
def serialAt (st : St) (i : Nat) : List Int := (if 0 ≤ (st.inst i).by_ then [(st.inst i).by_] else []) ++ readersOf st i
def serial (st : St) : List Int := (List.range st.insts.length).flatMap (serialAt st)
end Tx

/-- The readers are transactions. -/
def Tidy (st : St) : Prop := ∀ r ∈ st.readers, 0 ≤ r ∧ r < 16
theorem Tidy.zero : Tidy St.zero := fun r hr => by simp [St.zero] at hr
theorem Tidy.step {st : St} (h : Tidy st) (o : Tx.Op) : Tidy (Tx.step st o).2 := by
  unfold Tx.step
  split
  · exact h
  · split
    · exact h
    · rename_i hf
      have hf2 : fits o = true := by simpa using hf
      have ht : 0 ≤ o.t ∧ o.t ≤ 15 := by
        simp only [fits, within, Bool.and_eq_true, decide_eq_true_eq] at hf2
        exact hf2.1.1
      unfold does
      simp only
      split
      · unfold begin_
        split <;> exact h
      · split
        · exact h
        · split
          · unfold Tx.look
            split <;> exact h
          · split
            · exact h
            · split
              · show ∀ r ∈ (Tx.look st o.t.toNat o.k.toNat).readers, _
                unfold Tx.look
                split <;> exact h
              · split
                · unfold Tx.commit
                  simp only
                  split
                  · intro r hr
                    simp only [List.mem_append, List.mem_singleton] at hr
                    rcases hr with hr | rfl
                    · exact h r hr
                    · omega
                  · split <;> exact h
                · exact h
theorem Tidy.run {l : List Tx.Op} : ∀ {st : St}, Tidy st → Tidy (Tx.run st l).2 := by
  induction l with
  | nil => intro st h; exact h
  | cons o l ih => intro st h; exact ih (h.step o)
end Go.Proofs.Yteaeflmglppcdaa
