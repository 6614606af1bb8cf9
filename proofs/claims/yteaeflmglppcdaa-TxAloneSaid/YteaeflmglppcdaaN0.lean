/- The plain law of TxNobody: without the operations of a transaction that is not committed all other answers are the same. -/
import Derived.Test.YteaeflmglppcdaaM0
namespace Go.Proofs.Yteaeflmglppcdaa
open Tx
namespace Tx

/-- Two stores that are the same but for one transaction. -/
structure Sim (t : Nat) (a b : St) : Prop where
  insts : a.insts = b.insts
  txs : ∀ i, i ≠ t → a.txs i = b.txs i
  wr : ∀ (i : Nat) (k : Int), i ≠ t → mget ((i : Int), k) a.wr = mget ((i : Int), k) b.wr

theorem Sim.refl (t : Nat) (a : St) : Sim t a a := ⟨rfl, fun _ _ => rfl, fun _ _ _ => rfl⟩
section
variable {t : Nat} {a b : St}
theorem Sim.inst (h : Sim t a b) (i : Nat) : a.inst i = b.inst i := by unfold St.inst; rw [h.insts]
theorem Sim.last_ (h : Sim t a b) : last a = last b := by unfold Tx.last; rw [h.insts]
theorem Sim.see_ (h : Sim t a b) {i : Nat} (hi : i ≠ t) (k : Nat) : see a i k = see b i k := by
  unfold see; rw [h.wr i k hi, h.txs i hi, h.inst]
theorem Sim.setTx (h : Sim t a b) (i : Nat) (x : Txn) : Sim t (a.setTx i x) (b.setTx i x) :=
  ⟨h.insts, fun j hj => by simp only [St.setTx]; split; rfl; exact h.txs j hj, h.wr⟩
/-- A turn of the one transaction. -/
theorem Sim.left (h : Sim t a b) (x : Txn) : Sim t (a.setTx t x) b :=
  ⟨h.insts, fun j hj => by simp only [St.setTx, if_neg hj]; exact h.txs j hj, h.wr⟩
theorem Sim.look_ (h : Sim t a b) {i : Nat} (hi : i ≠ t) (k : Nat) : Sim t (look a i k) (look b i k) := by
  unfold look; rw [h.wr i k hi, h.txs i hi]
  split
  · exact h
  · exact h.setTx _ _
theorem Sim.put_ (h : Sim t a b) {i : Nat} (hi : i ≠ t) (k : Nat) (n : Int) : Sim t (put a i k n) (put b i k n) := by
  unfold put
  refine ⟨h.insts, ?_, fun j q hj => ?_⟩
  · rw [h.txs i hi]; exact (h.setTx i _).txs
  · simp only [mget_mput]; rw [h.wr j q hj]
theorem Sim.putLeft (h : Sim t a b) (k : Nat) (n : Int) : Sim t (put a t k n) b := by
  unfold put
  refine ⟨h.insts, (h.left _).txs, fun j q hj => ?_⟩
  simp only [mget_mput]
  have : ¬ (((t : Int), (k : Int)) = ((j : Int), q)) := fun e => hj (by have := congrArg Prod.fst e; simp at this; omega)
  rw [if_neg this]; exact h.wr j q hj
theorem Sim.clash_ (h : Sim t a b) {i : Nat} (hi : i ≠ t) : clash a i = clash b i := by
  unfold clash behind
  rw [h.txs i hi, h.insts]
  simp only [h.inst]
theorem Sim.made_ (h : Sim t a b) {i : Nat} (hi : i ≠ t) : made a i = made b i := by
  unfold made
  rw [h.last_]
  simp only [h.wr i _ hi, h.inst]
theorem Sim.commit_ (h : Sim t a b) {i : Nat} (hi : i ≠ t) : (commit a i).1 = (commit b i).1 ∧ Sim t (commit a i).2 (commit b i).2 := by
  unfold commit
  simp only [h.txs i hi, h.clash_ hi, h.made_ hi, h.insts]
  split
  · exact ⟨rfl, h.insts, (h.setTx i _).txs, h.wr⟩
  · split
    · exact ⟨rfl, h.setTx i _⟩
    · exact ⟨rfl, rfl, (h.setTx i _).txs, h.wr⟩
theorem Sim.step_ (h : Sim t a b) (o : Op) (ho : o.t ≠ (t : Int)) : (step a o).1 = (step b o).1 ∧ Sim t (step a o).2 (step b o).2 := by
  unfold step
  split
  · exact ⟨by first | rfl | trivial, h⟩
  · split
    · exact ⟨by first | rfl | trivial, h⟩
    · rename_i hf
      have h0 : 0 ≤ o.t := by
        simp only [fits, within, Bool.not_eq_true', Bool.not_eq_false, Bool.and_eq_true, decide_eq_true_eq] at hf
        omega
      have hi : o.t.toNat ≠ t := by omega
      unfold does
      simp only [h.txs _ hi, h.see_ hi]
      split
      · unfold begin_
        simp only [h.txs _ hi, h.last_]
        split
        · exact ⟨by first | rfl | trivial, h⟩
        · exact ⟨by first | rfl | trivial, h.setTx _ _⟩
      · split
        · exact ⟨by first | rfl | trivial, h⟩
        · split
          · exact ⟨by first | rfl | trivial, h.look_ hi _⟩
          · split
            · exact ⟨by first | rfl | trivial, h.put_ hi _ _⟩
            · split
              · exact ⟨by first | rfl | trivial, (h.look_ hi _).put_ hi _ _⟩
              · split
                · exact h.commit_ hi
                · unfold abort
                  simp only [h.txs _ hi]
                  exact ⟨by first | rfl | trivial, h.setTx _ _⟩
theorem Sim.lookLeft (h : Sim t a b) (k : Nat) : Sim t (look a t k) b := by
  unfold look
  split
  · exact h
  · exact h.left _
/-- An operation of the one transaction that is no commit that is made. -/
theorem Sim.stepLeft (h : Sim t a b) (o : Op) (ho : o.t = (t : Int)) (hc : o.d = 4 → (step a o).1.e ≠ 0) : Sim t (step a o).2 b := by
  unfold step at hc ⊢
  split
  · exact h
  · rename_i hw
    rw [if_neg hw] at hc
    split
    · exact h
    · rename_i hf
      rw [if_neg hf] at hc
      have hi : o.t.toNat = t := by omega
      unfold does at hc ⊢
      rw [hi] at hc ⊢
      dsimp only at hc ⊢
      split
      · unfold begin_
        split
        · exact h
        · exact h.left _
      · rename_i h0
        rw [if_neg h0] at hc
        split
        · exact h
        · rename_i hl
          rw [if_neg hl] at hc
          split
          · exact h.lookLeft _
          · rename_i h1
            rw [if_neg h1] at hc
            split
            · exact h.putLeft _ _
            · rename_i h2
              rw [if_neg h2] at hc
              split
              · exact (h.lookLeft _).putLeft _ _
              · rename_i h3
                rw [if_neg h3] at hc
                split
                · rename_i h4
                  rw [if_pos h4] at hc
                  have hc' := hc h4
                  unfold commit at hc' ⊢
                  split
                  · rename_i hw
                    simp [hw] at hc'
                  · rename_i hw
                    split
                    · exact h.left _
                    · rename_i hcl
                      simp [hw, hcl] at hc'
                · exact h.left _
end
/-- What is not a transaction's. -/
def others (t : Nat) (z : List (Op × Ans)) : List (Op × Ans) := z.filter fun p => decide (p.1.t ≠ (t : Int))
theorem nobody (t : Nat) (ops : List Op) : ∀ (a b : St), Sim t a b → (∀ p ∈ ops.zip (run a ops).1, p.1.t = (t : Int) → p.1.d = 4 → p.2.e ≠ 0) →
    (run b ((others t (ops.zip (run a ops).1)).map Prod.fst)).1 = (others t (ops.zip (run a ops).1)).map Prod.snd ∧
    Sim t (run a ops).2 (run b ((others t (ops.zip (run a ops).1)).map Prod.fst)).2 := by
  induction ops with
  | nil => intro a b h _; exact ⟨rfl, h⟩
  | cons o r ih =>
    intro a b h hc
    simp only [run, List.zip_cons_cons] at hc ⊢
    by_cases ho : o.t = (t : Int)
    · have hs := h.stepLeft o ho (fun h4 => hc _ (List.mem_cons_self) ho h4)
      have := ih _ _ hs (fun p hp => hc p (List.mem_cons_of_mem _ hp))
      have e : others t ((o, (step a o).1) :: r.zip (run (step a o).2 r).1) = others t (r.zip (run (step a o).2 r).1) := by
        unfold others
        rw [List.filter_cons]
        simp [ho]
      rw [e]
      exact this
    · obtain ⟨h1, hs⟩ := h.step_ o ho
      have := ih _ _ hs (fun p hp => hc p (List.mem_cons_of_mem _ hp))
      have e : others t ((o, (step a o).1) :: r.zip (run (step a o).2 r).1) = (o, (step a o).1) :: others t (r.zip (run (step a o).2 r).1) := by
        unfold others
        rw [List.filter_cons]
        simp [ho]
      rw [e]
      simp only [List.map_cons, run]
      exact ⟨by rw [this.1, h1], this.2⟩
end Tx
end Go.Proofs.Yteaeflmglppcdaa
