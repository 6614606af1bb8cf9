/- The plain law of TxSums: what adding transactions leave. -/
import Derived.Test.YteaeflmglppcdaaN3
namespace Go.Proofs.Yteaeflmglppcdaa
open Tx
namespace Tx

/-- The operations of a transaction that were done. -/
def ownL (t : Int) (z : List (Op × Ans)) : List Op := (z.filter fun p => decide (p.1.t = t) && decide (p.2.e = 0)).map Prod.fst
def addk (k : Int) (acc : Int) (x : Op) : Int := if x.d = 3 ∧ x.k = k then w32 (acc + x.n) else acc
def sumk (t : Int) (z : List (Op × Ans)) (k : Int) (base : Int) : Int := (ownL t z).foldl (addk k) base
theorem ownL_snoc (t : Int) (z : List (Op × Ans)) (o : Op) (a : Ans) : ownL t (z ++ [(o, a)]) = ownL t z ++ if o.t = t ∧ a.e = 0 then [o] else [] := by
  unfold ownL
  rw [List.filter_append, List.map_append]
  by_cases h1 : o.t = t <;> by_cases h2 : a.e = 0 <;> simp [h1, h2]
theorem sumk_other {t : Int} {z : List (Op × Ans)} {o : Op} {a : Ans} (h : o.d ≠ 3) (k base : Int) : sumk t (z ++ [(o, a)]) k base = sumk t z k base := by
  unfold sumk
  rw [ownL_snoc, List.foldl_append]
  split
  · show addk k _ o = _
    unfold addk
    rw [if_neg (fun x => h x.1)]
  · rfl
theorem sumk_far {t : Int} {z : List (Op × Ans)} {o : Op} {a : Ans} (h : ¬ (o.t = t ∧ a.e = 0)) (k base : Int) : sumk t (z ++ [(o, a)]) k base = sumk t z k base := by
  unfold sumk
  rw [ownL_snoc, if_neg h, List.append_nil]
theorem sumk_none {t : Int} {z : List (Op × Ans)} {k : Int} (h : ∀ x ∈ ownL t z, ¬ (x.d = 3 ∧ x.k = k)) (base : Int) : sumk t z k base = base := by
  unfold sumk
  revert h base
  generalize ownL t z = l
  induction l with
  | nil => intro _ base; rfl
  | cons x l ih =>
    intro h base
    rw [List.foldl_cons]
    have : addk k base x = base := by
      unfold addk
      rw [if_neg (h x (List.mem_cons_self))]
    rw [this]
    exact ih (fun y hy => h y (List.mem_cons_of_mem _ hy)) base

structure SumInv (z : List (Op × Ans)) (st : St) : Prop where
  see : ∀ t : Nat, (st.txs t).begun = true → ∀ k : Nat, see st t k = sumk t z k ((st.inst (st.txs t).inst).words k)
  fresh : ∀ t : Nat, (st.txs t).begun = false → ownL t z = []
  noadd : ∀ t : Nat, (st.txs t).writes = false → ∀ x ∈ ownL t z, x.d ≠ 3
  nokey : ∀ t k : Nat, mget ((t : Int), (k : Int)) st.wr = none → ∀ x ∈ ownL t z, ¬ (x.d = 3 ∧ x.k = k)
  readk : ∀ t k : Nat, (mget ((t : Int), (k : Int)) st.wr).isSome = true → (st.txs t).read k = true
  same : ∀ m : Nat, 0 < m → m < st.insts.length → ∀ k : Nat, (st.inst m).wrote k = false → (st.inst m).words k = (st.inst (m - 1)).words k
  made : ∀ m : Nat, 0 < m → m < st.insts.length → ∃ t : Nat, (st.inst m).by_ = (t : Int) ∧ (st.txs t).over = true ∧ (st.txs t).begun = true ∧ ∀ k : Nat, k < 16 → (st.inst m).words k = sumk t z k ((st.inst (m - 1)).words k)
  first : (st.inst 0).by_ = -1 ∧ ∀ k, (st.inst 0).words k = 0
  rdr : ∀ r ∈ st.readers, ∃ t : Nat, r = (t : Int) ∧ (st.txs t).over = true ∧ (st.txs t).begun = true ∧ (st.txs t).writes = false
theorem SumInv.zero : SumInv [] St.zero where
  see := fun t h => by simp [St.zero, Txn.zero] at h
  fresh := fun _ _ => rfl
  noadd := fun _ _ x hx => by simp [ownL] at hx
  nokey := fun _ _ _ x hx => by simp [ownL] at hx
  readk := fun _ _ h => by simp [St.zero, mget] at h
  same := fun m h0 h1 => by simp [St.zero] at h1; omega
  made := fun m h0 h1 => by simp [St.zero] at h1; omega
  first := ⟨rfl, fun _ => rfl⟩
  rdr := fun r hr => by simp [St.zero] at hr
theorem setTx_txs (st : St) (t : Nat) (x : Txn) (i : Nat) : (st.setTx t x).txs i = if i = t then x else st.txs i := rfl
section
variable {z : List (Op × Ans)} {st : St}
/-- A refused operation. -/
theorem SumInv.refused (h : SumInv z st) (o : Op) (a : Ans) (he : a.e ≠ 0) : SumInv (z ++ [(o, a)]) st := by
  have h1 : ∀ t : Int, ownL t (z ++ [(o, a)]) = ownL t z := fun t => by rw [ownL_snoc, if_neg (fun x => he x.2), List.append_nil]
  have h2 : ∀ t k b : Int, sumk t (z ++ [(o, a)]) k b = sumk t z k b := fun t k b => by unfold sumk; rw [h1]
  exact ⟨fun t ht k => by rw [h2]; exact h.see t ht k, fun t ht => by rw [h1]; exact h.fresh t ht, fun t ht => by rw [h1]; exact h.noadd t ht, fun t k hk => by rw [h1]; exact h.nokey t k hk, h.readk, h.same,
    fun m h0 hm => by obtain ⟨t, a1, a2, a3, a4⟩ := h.made m h0 hm; exact ⟨t, a1, a2, a3, fun k hk => by rw [h2]; exact a4 k hk⟩, h.first, h.rdr⟩
/-- A turn of one transaction at work by an operation that adds nothing. -/
theorem SumInv.turn (h : SumInv z st) (T : Nat) (x : Txn) (o : Op) (a : Ans) (ht : o.t = (T : Int)) (hd : o.d ≠ 3) (hb : (st.txs T).begun = true) (ho : (st.txs T).over = false)
    (xb : x.begun = true) (xi : x.inst = (st.txs T).inst) (xw : x.writes = (st.txs T).writes) (xr : ∀ k, (st.txs T).read k = true → x.read k = true) : SumInv (z ++ [(o, a)]) (st.setTx T x) := by
  have hmem : ∀ (t : Nat) (y : Op), y ∈ ownL t (z ++ [(o, a)]) → y ∈ ownL t z ∨ y = o := fun t y hy => by
    rw [ownL_snoc, List.mem_append] at hy
    rcases hy with hy | hy
    · exact .inl hy
    · split at hy
      · exact .inr (by simpa using hy)
      · cases hy
  have hover : ∀ t : Nat, (st.txs t).over = true → t ≠ T := fun t h1 e => by subst e; rw [ho] at h1; cases h1
  refine ⟨fun t hbt k => ?_, fun t hbt => ?_, fun t hw y hy => ?_, fun t k hm y hy => ?_, fun t k hm => ?_, h.same, fun m h0 hm => ?_, h.first, fun r hr => ?_⟩
  · rw [sumk_other hd, see_setTx st T x t k (fun _ => xi)]
    show _ = sumk t z k ((st.inst ((if t = T then x else st.txs t).inst)).words k)
    by_cases e : t = T
    · subst e; rw [if_pos rfl, xi]; exact h.see t hb k
    · rw [if_neg e]
      rw [setTx_txs, if_neg e] at hbt
      exact h.see t hbt k
  · rw [setTx_txs] at hbt
    split at hbt
    · rw [xb] at hbt; cases hbt
    · rename_i e
      rw [ownL_snoc, if_neg (fun y => e (by have := y.1; omega)), List.append_nil]
      exact h.fresh t hbt
  · rcases hmem t y hy with hy | rfl
    · refine h.noadd t ?_ y hy
      rw [setTx_txs] at hw
      split at hw
      · rename_i e; subst e; rw [← xw]; exact hw
      · exact hw
    · exact hd
  · rcases hmem t y hy with hy | rfl
    · exact h.nokey t k hm y hy
    · exact fun e => hd e.1
  · rw [setTx_txs]
    have := h.readk t k hm
    split
    · rename_i e; subst e; exact xr k this
    · exact this
  · obtain ⟨t, a1, a2, a3, a4⟩ := h.made m h0 hm
    have e := hover t a2
    refine ⟨t, a1, by rw [setTx_txs, if_neg e]; exact a2, by rw [setTx_txs, if_neg e]; exact a3, fun k hk => by rw [sumk_other hd]; exact a4 k hk⟩
  · obtain ⟨t, a1, a2, a3, a4⟩ := h.rdr r hr
    have e := hover t a2
    exact ⟨t, a1, by rw [setTx_txs, if_neg e]; exact a2, by rw [setTx_txs, if_neg e]; exact a3, by rw [setTx_txs, if_neg e]; exact a4⟩
/-- A transaction begins. -/
theorem SumInv.begins (h : SumInv z st) (hs : Sound st) (T : Nat) (o : Op) (a : Ans) (ht : o.t = (T : Int)) (hd : o.d = 0) (hb : (st.txs T).begun = false) :
    SumInv (z ++ [(o, a)]) (st.setTx T { st.txs T with begun := true, inst := last st }) := by
  have hmem : ∀ (t : Nat) (y : Op), y ∈ ownL t (z ++ [(o, a)]) → y ∈ ownL t z ∨ y = o := fun t y hy => by
    rw [ownL_snoc, List.mem_append] at hy
    rcases hy with hy | hy
    · exact .inl hy
    · split at hy
      · exact .inr (by simpa using hy)
      · cases hy
  have hd3 : o.d ≠ 3 := by omega
  have hne : ∀ t : Nat, (st.txs t).begun = true → t ≠ T := fun t h1 e => by subst e; rw [hb] at h1; cases h1
  refine ⟨fun t hbt k => ?_, fun t hbt => ?_, fun t hw y hy => ?_, fun t k hm y hy => ?_, fun t k hm => ?_, h.same, fun m h0 hm => ?_, h.first, fun r hr => ?_⟩
  · rw [sumk_other hd3]
    by_cases e : t = T
    · subst e
      have hm : mget ((t : Int), (k : Int)) st.wr = none := by
        cases hm : mget ((t : Int), (k : Int)) st.wr with
        | none => rfl
        | some v =>
          have := hs.begun t k (by rw [hm]; rfl)
          rw [hb] at this; cases this
      have h1 : sumk t z k ((st.inst (last st)).words k) = (st.inst (last st)).words k := by unfold sumk; rw [h.fresh t hb]; rfl
      show (mget ((t : Int), (k : Int)) st.wr).getD ((st.inst ((if t = t then _ else st.txs t).inst)).words k) = sumk t z k ((st.inst ((if t = t then _ else st.txs t).inst)).words k)
      rw [hm, if_pos rfl]
      exact h1.symm
    · rw [see_setTx st T _ t k (fun e' => absurd e' e)]
      show _ = sumk t z k ((st.inst ((if t = T then _ else st.txs t).inst)).words k)
      rw [if_neg e]
      rw [setTx_txs, if_neg e] at hbt
      exact h.see t hbt k
  · rw [setTx_txs] at hbt
    split at hbt
    · cases hbt
    · rename_i e
      rw [ownL_snoc, if_neg (fun y => e (by have := y.1; omega)), List.append_nil]
      exact h.fresh t hbt
  · rcases hmem t y hy with hy | rfl
    · refine h.noadd t ?_ y hy
      rw [setTx_txs] at hw
      split at hw
      · rename_i e; subst e; exact hw
      · exact hw
    · exact hd3
  · rcases hmem t y hy with hy | rfl
    · exact h.nokey t k hm y hy
    · exact fun e => hd3 e.1
  · rw [setTx_txs]
    have := h.readk t k hm
    split
    · rename_i e; subst e; exact this
    · exact this
  · obtain ⟨t, a1, a2, a3, a4⟩ := h.made m h0 hm
    have e := hne t a3
    refine ⟨t, a1, by rw [setTx_txs, if_neg e]; exact a2, by rw [setTx_txs, if_neg e]; exact a3, fun k hk => by rw [sumk_other hd3]; exact a4 k hk⟩
  · obtain ⟨t, a1, a2, a3, a4⟩ := h.rdr r hr
    have e := hne t a3
    exact ⟨t, a1, by rw [setTx_txs, if_neg e]; exact a2, by rw [setTx_txs, if_neg e]; exact a3, by rw [setTx_txs, if_neg e]; exact a4⟩
theorem live_over {x : Txn} (h : x.live = true) : x.over = false := by
  unfold Txn.live at h
  simp at h
  exact h.2
theorem SumInv.reads (h : SumInv z st) (T K : Nat) (o : Op) (a : Ans) (ht : o.t = (T : Int)) (hd : o.d ≠ 3) (hl : (st.txs T).live = true) : SumInv (z ++ [(o, a)]) (look st T K) := by
  unfold look
  split
  · have := h.turn T (st.txs T) o a ht hd (live_begun hl) (live_over hl) (live_begun hl) rfl rfl (fun _ x => x)
    have e : st.setTx T (st.txs T) = st := by
      obtain ⟨i, x, w, r⟩ := st
      simp only [St.setTx, St.mk.injEq, and_true, true_and]
      funext j
      split
      · rename_i e; rw [e]
      · rfl
    rw [e] at this
    exact this
  · refine h.turn T _ o a ht hd (live_begun hl) (live_over hl) (live_begun hl) rfl rfl (fun k hk => ?_)
    show (if k = K then true else (st.txs T).read k) = true
    split
    · rfl
    · exact hk
theorem look_read (st : St) (T K : Nat) (hr : (mget ((T : Int), (K : Int)) st.wr).isSome = true → (st.txs T).read K = true) : ((look st T K).txs T).read K = true := by
  unfold look
  split
  · rename_i h; exact hr h
  · rw [setTx_txs, if_pos rfl]
    show (if K = K then true else _) = true
    rw [if_pos rfl]
theorem look_fields (st : St) (T K t : Nat) : ((look st T K).txs t).begun = (st.txs t).begun ∧ ((look st T K).txs t).over = (st.txs t).over ∧ ((look st T K).txs t).writes = (st.txs t).writes ∧ ((look st T K).txs t).inst = (st.txs t).inst ∧ (look st T K).insts = st.insts ∧ (look st T K).wr = st.wr := by
  unfold look
  split
  · exact ⟨rfl, rfl, rfl, rfl, rfl, rfl⟩
  · rw [setTx_txs]
    split
    · rename_i e; subst e; exact ⟨rfl, rfl, rfl, rfl, rfl, rfl⟩
    · exact ⟨rfl, rfl, rfl, rfl, rfl, rfl⟩
/-- A word is added to a key. -/
theorem SumInv.adds (h : SumInv z st) (T K : Nat) (o : Op) (a : Ans) (ht : o.t = (T : Int)) (hk : o.k = (K : Int)) (hd : o.d = 3) (he : a.e = 0) (hl : (st.txs T).live = true) (hread : (st.txs T).read K = true)
    : SumInv (z ++ [(o, a)]) (put st T K (w32 (Tx.see st T K + o.n))) := by
  have hmem : ∀ (t : Nat) (y : Op), y ∈ ownL t (z ++ [(o, a)]) → y ∈ ownL t z ∨ (t = T ∧ y = o) := fun t y hy => by
    rw [ownL_snoc, List.mem_append] at hy
    rcases hy with hy | hy
    · exact .inl hy
    · split at hy
      · rename_i e; exact .inr ⟨by have := e.1; omega, by simpa using hy⟩
      · cases hy
  have hfar : ∀ t : Nat, t ≠ T → ∀ k b : Int, sumk t (z ++ [(o, a)]) k b = sumk t z k b := fun t e k b => sumk_far (fun y => e (by have := y.1; omega)) k b
  have hover : ∀ t : Nat, (st.txs t).over = true → t ≠ T := fun t h1 e => by subst e; rw [live_over hl] at h1; cases h1
  have htx : ∀ t, ((put st T K (w32 (Tx.see st T K + o.n))).txs t) = if t = T then { st.txs T with writes := true } else st.txs t := fun t => rfl
  refine ⟨fun t hbt k => ?_, fun t hbt => ?_, fun t hw y hy => ?_, fun t k hm y hy => ?_, fun t k hm => ?_, h.same, fun m h0 hm => ?_, h.first, fun r hr => ?_⟩
  · rw [see_put, htx]
    by_cases e : t = T
    · subst e
      rw [if_pos rfl]
      have h1 := h.see t (live_begun hl) k
      show _ = sumk t (z ++ [(o, a)]) k ((st.inst (st.txs t).inst).words k)
      have h2 : sumk t (z ++ [(o, a)]) k ((st.inst (st.txs t).inst).words k) = addk k (sumk t z k ((st.inst (st.txs t).inst).words k)) o := by
        unfold sumk
        rw [ownL_snoc, if_pos ⟨ht, he⟩, List.foldl_append]
        rfl
      rw [h2, ← h1]
      unfold addk
      by_cases e2 : k = K
      · subst e2
        rw [if_pos ⟨rfl, rfl⟩, if_pos ⟨hd, hk⟩]
      · rw [if_neg (fun x => e2 x.2), if_neg (fun x => e2 (by have := x.2; omega))]
    · rw [if_neg (fun x => e x.1), if_neg e, hfar t e]
      rw [htx, if_neg e] at hbt
      exact h.see t hbt k
  · rw [htx] at hbt
    split at hbt
    · rw [show ({ st.txs T with writes := true } : Txn).begun = (st.txs T).begun from rfl, live_begun hl] at hbt; cases hbt
    · rename_i e
      rw [ownL_snoc, if_neg (fun y => e (by have := y.1; omega)), List.append_nil]
      exact h.fresh t hbt
  · rw [htx] at hw
    split at hw
    · cases hw
    · rename_i e
      rcases hmem t y hy with hy | ⟨e2, _⟩
      · exact h.noadd t hw y hy
      · exact absurd e2 e
  · unfold put at hm
    simp only [mget_mput] at hm
    split at hm
    · cases hm
    · rename_i e
      rcases hmem t y hy with hy | ⟨rfl, rfl⟩
      · exact h.nokey t k hm y hy
      · rintro ⟨_, e2⟩
        exact e (by rw [← e2, hk])
  · unfold put at hm
    simp only [mget_mput] at hm
    rw [htx]
    split at hm
    · rename_i e
      have e1 : T = t := by have := congrArg Prod.fst e; simp at this; omega
      have e2 : K = k := by have := congrArg Prod.snd e; simp at this; omega
      subst e1 e2
      rw [if_pos rfl]; exact hread
    · have := h.readk t k hm
      split
      · rename_i e; subst e; exact this
      · exact this
  · obtain ⟨t, a1, a2, a3, a4⟩ := h.made m h0 hm
    have e := hover t a2
    exact ⟨t, a1, by rw [htx, if_neg e]; exact a2, by rw [htx, if_neg e]; exact a3, fun k hk => by rw [hfar t e]; exact a4 k hk⟩
  · obtain ⟨t, a1, a2, a3, a4⟩ := h.rdr r hr
    have e := hover t a2
    exact ⟨t, a1, by rw [htx, if_neg e]; exact a2, by rw [htx, if_neg e]; exact a3, by rw [htx, if_neg e]; exact a4⟩
theorem SumInv.flat (h : SumInv z st) (k p : Nat) (hw : ∀ i, p < i → i < st.insts.length → (st.inst i).wrote k = false) : ∀ q, p ≤ q → q < st.insts.length → (st.inst q).words k = (st.inst p).words k := by
  intro q
  induction q with
  | zero => intro h1 _; rw [show p = 0 by omega]
  | succ q ih =>
    intro h1 h2
    rcases Nat.lt_or_ge q p with h3 | h3
    · rw [show p = q + 1 by omega]
    · rw [h.same (q + 1) (by omega) h2 k (hw (q + 1) (by omega) h2)]
      exact ih h3 (by omega)
/-- An instant is made. -/
theorem SumInv.makes (h : SumInv z st) (hs : Sound st) (T : Nat) (o : Op) (a : Ans) (ht : o.t = (T : Int)) (hd : o.d = 4) (hl : (st.txs T).live = true) (hc : clash st T = false) :
    SumInv (z ++ [(o, a)]) { st.setTx T { st.txs T with over := true, comm := true } with insts := st.insts ++ [Tx.made st T] } := by
  have hd3 : o.d ≠ 3 := by omega
  have h1 := h.turn T { st.txs T with over := true, comm := true } o a ht hd3 (live_begun hl) (live_over hl) (show (st.txs T).begun = true from live_begun hl) rfl rfl (fun _ x => x)
  have hin : ∀ m, m < st.insts.length → ({ st.setTx T { st.txs T with over := true, comm := true } with insts := st.insts ++ [Tx.made st T] } : St).inst m = st.inst m := fun m hm => by
    unfold St.inst
    rw [List.getD_eq_getElem?_getD, List.getD_eq_getElem?_getD, List.getElem?_append_left hm]
  have hlast : ({ st.setTx T { st.txs T with over := true, comm := true } with insts := st.insts ++ [Tx.made st T] } : St).inst st.insts.length = Tx.made st T := by
    unfold St.inst
    rw [List.getD_eq_getElem?_getD, List.getElem?_append_right (Nat.le_refl _)]
    simp
  have hne := hs.ne
  have hlen : (st.insts ++ [Tx.made st T]).length = st.insts.length + 1 := by simp
  have hin1 : ∀ t, ((st.setTx T { st.txs T with over := true, comm := true }).txs t).inst < st.insts.length := fun t => by
    rw [setTx_txs]
    split
    · exact hs.inst T
    · exact hs.inst t
  have hbeh : ∀ k, k < 16 → (st.txs T).read k = true → ∀ i, (st.txs T).inst < i → i < st.insts.length → (st.inst i).wrote k = false := fun k hk hr i h2 h3 => by
    unfold clash at hc
    have := List.any_eq_false.1 hc k (by simpa using hk)
    simp only [hr, Bool.true_and] at this
    unfold behind at this
    simp at this
    exact this i h3 h2
  refine ⟨fun t hbt k => ?_, h1.fresh, h1.noadd, h1.nokey, h1.readk, fun m h0 hm k hw => ?_, fun m h0 hm => ?_, ?_, h1.rdr⟩
  · have h2 := h1.see t hbt k
    have h3 := hin _ (hin1 t)
    show (mget ((t : Int), (k : Int)) st.wr).getD ((St.inst _ ((st.setTx T { st.txs T with over := true, comm := true }).txs t).inst).words k) = sumk t (z ++ [(o, a)]) k ((St.inst _ ((st.setTx T { st.txs T with over := true, comm := true }).txs t).inst).words k)
    rw [h3]
    exact h2
  · rw [hlen] at hm
    rcases Nat.lt_or_ge m st.insts.length with h2 | h2
    · rw [hin m h2] at hw
      rw [hin m h2, hin (m - 1) (by omega)]
      exact h.same m h0 h2 k hw
    · obtain rfl : m = st.insts.length := by omega
      rw [hlast] at hw
      rw [hlast, hin _ (by omega)]
      show (mget ((T : Int), (k : Int)) st.wr).getD ((st.inst (last st)).words k) = _
      have : mget ((T : Int), (k : Int)) st.wr = none := by
        replace hw : (mget ((T : Int), (k : Int)) st.wr).isSome = false := hw
        simpa using hw
      rw [this]
      rfl
  · rw [hlen] at hm
    rcases Nat.lt_or_ge m st.insts.length with h2 | h2
    · obtain ⟨t, a1, a2, a3, a4⟩ := h1.made m h0 h2
      refine ⟨t, by rw [hin m h2]; exact a1, a2, a3, fun k hk => ?_⟩
      rw [hin m h2, hin (m - 1) (by omega)]
      exact a4 k hk
    · obtain rfl : m = st.insts.length := by omega
      refine ⟨T, by rw [hlast]; rfl, by rw [setTx_txs, if_pos rfl], by rw [setTx_txs, if_pos rfl]; exact (show (st.txs T).begun = true from live_begun hl), fun k hk => ?_⟩
      rw [hlast, hin _ (by omega), sumk_other hd3]
      show (mget ((T : Int), (k : Int)) st.wr).getD ((st.inst (last st)).words k) = sumk T z k ((st.inst (last st)).words k)
      cases hm : mget ((T : Int), (k : Int)) st.wr with
      | none => exact (sumk_none (h.nokey T k hm) _).symm
      | some v =>
        have h3 := h.see T (live_begun hl) k
        have h4 := h.readk T k (by rw [hm]; rfl)
        have h5 := h.flat k (st.txs T).inst (hbeh k hk h4) (last st) (by have := hs.inst T; unfold last; omega) (by unfold last; omega)
        rw [h5, ← h3]
        unfold Tx.see
        rw [hm]
        first | rfl | done
  · rw [hin 0 hne]
    exact h.first
theorem SumInv.step_ (h : SumInv z st) (hs : Sound st) (o : Op) (hd : o.d ≠ 2) : SumInv (z ++ [(o, (step st o).1)]) (step st o).2 := by
  have hk := step_kind st o
  generalize step st o = y at *
  obtain ⟨a, s2⟩ := y
  dsimp only at *
  cases hk with
  | refuse e he => exact h.refused o _ he
  | begin_ h0 h1 hd0 hb => exact h.begins hs _ o _ (by omega) hd0 hb
  | read h0 h1 k0 k1 hd1 hl => exact h.reads _ _ o _ (by omega) (by omega) hl
  | write h0 h1 k0 k1 hd2 hl => exact absurd hd2 hd
  | add h0 h1 k0 k1 n0 n1 hd3 hl =>
    have h2 := h.reads o.t.toNat o.k.toNat ⟨0, o.t, 0, 0⟩ ⟨1, 0⟩ (by simp; omega) (by simp) hl
    have hz : ∀ t : Int, ownL t (z ++ [((⟨0, o.t, 0, 0⟩ : Op), (⟨1, 0⟩ : Ans))]) = ownL t z := fun t => by rw [ownL_snoc, if_neg (fun x => absurd x.2 (by decide)), List.append_nil]
    have hz2 : ∀ t k b : Int, sumk t (z ++ [((⟨0, o.t, 0, 0⟩ : Op), (⟨1, 0⟩ : Ans))]) k b = sumk t z k b := fun t k b => by unfold sumk; rw [hz]
    have h3 : SumInv z (look st o.t.toNat o.k.toNat) := ⟨fun t ht k => by rw [← hz2 t]; exact h2.see t ht k, fun t ht => by rw [← hz t]; exact h2.fresh t ht, fun t ht => by rw [← hz t]; exact h2.noadd t ht, fun t k hm => by rw [← hz t]; exact h2.nokey t k hm, h2.readk, h2.same,
      fun m m0 hm => by obtain ⟨t, a1, a2, a3, a4⟩ := h2.made m m0 hm; exact ⟨t, a1, a2, a3, fun k hk => by rw [← hz2 t]; exact a4 k hk⟩, h2.first, h2.rdr⟩
    have h4 := h3.adds o.t.toNat o.k.toNat o ⟨0, w32 (Tx.see st o.t.toNat o.k.toNat + o.n)⟩ (by omega) (by omega) hd3 rfl (by rw [look_live]; exact hl) (look_read st _ _ (h.readk _ _))
    have e : Tx.see (look st o.t.toNat o.k.toNat) o.t.toNat o.k.toNat = Tx.see st o.t.toNat o.k.toNat := by
      obtain ⟨_, _, _, e4, e5, e6⟩ := look_fields st o.t.toNat o.k.toNat o.t.toNat
      unfold Tx.see St.inst
      rw [e4, e5, e6]
    rw [e] at h4
    exact h4
  | quiet h0 h1 hd4 hl hw =>
    have h2 := h.turn o.t.toNat { st.txs o.t.toNat with over := true, comm := true } o ⟨0, 0⟩ (by omega) (by omega) (live_begun hl) (live_over hl) (show (st.txs o.t.toNat).begun = true from live_begun hl) rfl rfl (fun _ x => x)
    refine ⟨h2.see, h2.fresh, h2.noadd, h2.nokey, h2.readk, h2.same, h2.made, h2.first, fun r hr => ?_⟩
    rcases List.mem_append.1 hr with hr | hr
    · exact h2.rdr r hr
    · refine ⟨o.t.toNat, by simpa using hr, ?_, ?_, ?_⟩
      · show (if o.t.toNat = o.t.toNat then _ else _ : Txn).over = true
        rw [if_pos rfl]
      · show (if o.t.toNat = o.t.toNat then _ else _ : Txn).begun = true
        rw [if_pos rfl]; exact (show (st.txs o.t.toNat).begun = true from live_begun hl)
      · show (if o.t.toNat = o.t.toNat then _ else _ : Txn).writes = false
        rw [if_pos rfl]; exact hw
  | clash h0 h1 hd4 hl hw hc => exact h.turn _ _ o _ (by omega) (by omega) (live_begun hl) (live_over hl) (show (st.txs o.t.toNat).begun = true from live_begun hl) rfl rfl (fun _ x => x)
  | made h0 h1 hd4 hl hw hc => exact h.makes hs _ o _ (by omega) hd4 hl hc
  | abort h0 h1 hd5 hl => exact h.turn _ _ o _ (by omega) (by omega) (live_begun hl) (live_over hl) (show (st.txs o.t.toNat).begun = true from live_begun hl) rfl rfl (fun _ x => x)
end
theorem sum_at (ops : List Op) (hd : ∀ o ∈ ops, o.d ≠ 2) : ∀ i, i ≤ ops.length → SumInv ((ops.zip (ans ops)).take i) (at_ ops i) := by
  intro i
  induction i with
  | zero => intro _; exact SumInv.zero
  | succ i ih =>
    intro hi
    have ho : ops[i]? = some ops[i] := List.getElem?_eq_getElem (by omega)
    have ha := ans_at ho
    have hz : (ops.zip (ans ops))[i]? = some (ops[i], (step (at_ ops i) ops[i]).1) := by rw [List.getElem?_zip_eq_some]; exact ⟨ho, ha⟩
    have hlt := (List.getElem?_eq_some_iff.1 hz).1
    rw [List.take_succ_eq_append_getElem hlt, (List.getElem?_eq_some_iff.1 hz).2, at_succ ho]
    exact (ih (by omega)).step_ (at_sound ops i) _ (hd _ (List.getElem_mem (by omega)))
theorem sum_all (ops : List Op) (hd : ∀ o ∈ ops, o.d ≠ 2) : SumInv (ops.zip (ans ops)) (run St.zero ops).2 := by
  have h := sum_at ops hd ops.length (Nat.le_refl _)
  rw [at_all] at h
  rwa [List.take_of_length_le (by rw [List.length_zip]; omega)] at h
end Tx
end Go.Proofs.Yteaeflmglppcdaa
