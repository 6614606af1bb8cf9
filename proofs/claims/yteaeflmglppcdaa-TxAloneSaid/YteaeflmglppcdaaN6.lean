/- The sums of all that committed transactions added are the last words. -/
import Derived.Test.YteaeflmglppcdaaN5
namespace Go.Proofs.Yteaeflmglppcdaa
open Tx
namespace Tx
def partAt (st : St) (i : Nat) : List Int := (if 0 ≤ (st.inst i).by_ then [(st.inst i).by_] else []) ++ st.readers.filter fun r => decide ((st.txs r.toNat).inst = i)
theorem fold_readers {z : List (Op × Ans)} {st : St} (h : SumInv z st) (k : Nat) : ∀ (l : List Int), (∀ r ∈ l, r ∈ st.readers) → ∀ acc : Int, l.foldl (fun acc t => sumk t z k acc) acc = acc := by
  intro l
  induction l with
  | nil => intro _ acc; rfl
  | cons r l ih =>
    intro hr acc
    rw [List.foldl_cons]
    obtain ⟨t, rfl, _, _, hw⟩ := h.rdr r (hr r (List.mem_cons_self))
    have : sumk (t : Int) z k acc = acc := sumk_none (fun x hx e => h.noadd t hw x hx e.1) acc
    rw [this]
    exact ih (fun q hq => hr q (List.mem_cons_of_mem _ hq)) acc
theorem sums_fold {z : List (Op × Ans)} {st : St} (h : SumInv z st) (hs : Sound st) (k : Nat) (hk : k < 16) : ∀ m, m < st.insts.length → ((List.range (m + 1)).flatMap (partAt st)).foldl (fun acc t => sumk t z k acc) 0 = (st.inst m).words k := by
  intro m
  have hrd : ∀ i (acc : Int), (st.readers.filter fun r => decide ((st.txs r.toNat).inst = i)).foldl (fun acc t => sumk t z k acc) acc = acc := fun i acc =>
    fold_readers h k _ (fun r hr => (List.mem_filter.1 hr).1) acc
  induction m with
  | zero =>
    intro _
    have e : (List.range (0 + 1)).flatMap (partAt st) = partAt st 0 := by simp [List.range_succ]
    rw [e, h.first.2 k]
    unfold partAt
    rw [h.first.1, if_neg (by decide), List.nil_append]
    exact hrd 0 0
  | succ m ih =>
    intro hm
    rw [List.range_succ, List.flatMap_append, List.foldl_append, ih (by omega)]
    have e : [m + 1].flatMap (partAt st) = partAt st (m + 1) := by simp
    rw [e]
    obtain ⟨t, a1, _, _, a4⟩ := h.made (m + 1) (by omega) hm
    unfold partAt
    rw [a1, if_pos (by omega), List.foldl_append, hrd]
    exact (a4 k hk).symm
theorem sums_all (ops : List Op) (hd : ∀ o ∈ ops, o.d ≠ 2) (k : Nat) (hk : k < 16) :
    ((List.range (run St.zero ops).2.insts.length).flatMap (partAt (run St.zero ops).2)).foldl (fun acc t => sumk t (ops.zip (ans ops)) k acc) 0 = ((run St.zero ops).2.inst (last (run St.zero ops).2)).words k := by
  have hs := at_sound ops ops.length
  rw [at_all] at hs
  have h := sums_fold (sum_all ops hd) hs k hk (last (run St.zero ops).2) (by have := hs.ne; unfold last; omega)
  rw [show last (run St.zero ops).2 + 1 = (run St.zero ops).2.insts.length by have := hs.ne; unfold last; omega] at h
  exact h
/-- What is added has a key of its bounds. -/
theorem add_key {ops : List Op} {p : Op × Ans} (h : p ∈ ops.zip (ans ops)) (he : p.2.e = 0) (hd : p.1.d = 3) : 0 ≤ p.1.k ∧ p.1.k ≤ 15 := by
  obtain ⟨i, hi⟩ := List.getElem?_of_mem h
  rw [List.getElem?_zip_eq_some] at hi
  obtain ⟨h1, h2⟩ := hi
  rw [ans_at h1] at h2
  have hk := step_kind (at_ ops i) p.1
  have e : (step (at_ ops i) p.1).1 = p.2 := by simpa using h2
  rw [e] at hk
  generalize (step (at_ ops i) p.1).2 = s2 at *
  obtain ⟨o, a⟩ := p
  dsimp only at *
  cases hk with
  | refuse e he' => exact absurd he he'
  | begin_ => omega
  | read => omega
  | write => omega
  | add h0 h1 k0 k1 => exact ⟨k0, k1⟩
  | quiet => omega
  | clash => omega
  | made => omega
  | abort => omega
end Tx
end Go.Proofs.Yteaeflmglppcdaa
