/- The plain law of TxAlone, first part: one committed transaction, run again by itself. -/
import Derived.Test.YteaeflmglppcdaaN8
namespace Go.Proofs.Yteaeflmglppcdaa
open Tx
namespace Tx

theorem step_fits {A : St} {o : Op} (h : (step A o).1.e = 0) : ∀ st, step st o = does st o := by
  intro st
  unfold step at h ⊢
  split at h
  · cases h
  · split at h
    · cases h
    · rename_i h1 h2
      rw [if_neg h1, if_neg h2]
theorem look_txs (st : St) (T K i : Nat) (h : i ≠ T) : (look st T K).txs i = st.txs i := by
  unfold look
  split
  · rfl
  · rw [setTx_txs, if_neg h]
/-- Another transaction's operation. -/
theorem step_other (st : St) (o : Op) (T : Nat) (h : o.t ≠ (T : Int)) : (step st o).2.txs T = st.txs T ∧ ∀ k : Int, mget ((T : Int), k) (step st o).2.wr = mget ((T : Int), k) st.wr := by
  have hk := step_kind st o
  have tn : 0 ≤ o.t → T ≠ o.t.toNat := fun h0 e => h (by omega)
  have pw : 0 ≤ o.t → ∀ (s : St) (K : Nat) (n : Int), s.wr = st.wr → ∀ k : Int, mget ((T : Int), k) (put s o.t.toNat K n).wr = mget ((T : Int), k) st.wr := by
    intro h0 s K n e k
    unfold put
    simp only [mget_mput, e]
    rw [if_neg (fun e' => tn h0 (by have := congrArg Prod.fst e'; simp at this; omega))]
  generalize step st o = z at *
  obtain ⟨za, zs⟩ := z
  dsimp only at *
  cases hk with
  | refuse => exact ⟨rfl, fun _ => rfl⟩
  | begin_ h0 => exact ⟨by rw [setTx_txs, if_neg (tn h0)], fun _ => rfl⟩
  | read h0 => exact ⟨look_txs _ _ _ _ (tn h0), fun _ => by rw [look_wr]⟩
  | write h0 => exact ⟨by show (st.setTx _ _).txs T = _; rw [setTx_txs, if_neg (tn h0)], pw h0 _ _ _ rfl⟩
  | add h0 => exact ⟨by show ((look st _ _).setTx _ _).txs T = _; rw [setTx_txs, if_neg (tn h0), look_txs _ _ _ _ (tn h0)], pw h0 _ _ _ (look_wr _ _ _)⟩
  | quiet h0 => exact ⟨by show (st.setTx _ _).txs T = _; rw [setTx_txs, if_neg (tn h0)], fun _ => rfl⟩
  | clash h0 => exact ⟨by rw [setTx_txs, if_neg (tn h0)], fun _ => rfl⟩
  | made h0 => exact ⟨by show (st.setTx _ _).txs T = _; rw [setTx_txs, if_neg (tn h0)], fun _ => rfl⟩
  | abort h0 => exact ⟨by rw [setTx_txs, if_neg (tn h0)], fun _ => rfl⟩
theorem run_others (T : Nat) (L : List Op) : ∀ st : St, (∀ o ∈ L, o.t ≠ (T : Int)) → (run st L).2.txs T = st.txs T ∧ ∀ k : Int, mget ((T : Int), k) (run st L).2.wr = mget ((T : Int), k) st.wr := by
  induction L with
  | nil => intro st _; exact ⟨rfl, fun _ => rfl⟩
  | cons o L ih =>
    intro st h
    have h1 := step_other st o T (h o (List.mem_cons_self))
    have h2 := ih (step st o).2 (fun x hx => h x (List.mem_cons_of_mem _ hx))
    exact ⟨h2.1.trans h1.1, fun k => (h2.2 k).trans (h1.2 k)⟩
/-- What has begun stays so, with its instant; what is over stays so. -/
theorem step_stays (st : St) (o : Op) (T : Nat) : ((st.txs T).begun = true → ((step st o).2.txs T).begun = true ∧ ((step st o).2.txs T).inst = (st.txs T).inst) ∧ ((st.txs T).over = true → ((step st o).2.txs T).over = true) := by
  have hk := step_kind st o
  have gen : ∀ (s : St) (Q : Nat) (x : Txn), (s.txs T).begun = (st.txs T).begun ∧ (s.txs T).inst = (st.txs T).inst ∧ (s.txs T).over = (st.txs T).over →
      (Q = T → ((st.txs T).begun = true → x.begun = true ∧ x.inst = (st.txs T).inst) ∧ ((st.txs T).over = true → x.over = true)) →
      ((st.txs T).begun = true → ((s.setTx Q x).txs T).begun = true ∧ ((s.setTx Q x).txs T).inst = (st.txs T).inst) ∧ ((st.txs T).over = true → ((s.setTx Q x).txs T).over = true) := by
    intro s Q x hs hx
    rw [setTx_txs]
    split
    · rename_i e; exact hx e.symm
    · exact ⟨fun h => ⟨by rw [hs.1]; exact h, hs.2.1⟩, fun h => by rw [hs.2.2]; exact h⟩
  generalize step st o = z at *
  obtain ⟨za, zs⟩ := z
  dsimp only at *
  cases hk with
  | refuse => exact ⟨fun h => ⟨h, rfl⟩, fun h => h⟩
  | begin_ h0 h1 hd hb => exact gen st _ _ ⟨rfl, rfl, rfl⟩ (fun e => by subst e; exact ⟨fun h => (by rw [hb] at h; cases h), fun h => h⟩)
  | read =>
    obtain ⟨b1, b2, b3, b4, b5, b6⟩ := look_fields st o.t.toNat o.k.toNat T
    exact ⟨fun h => ⟨by rw [b1]; exact h, b4⟩, fun h => by rw [b2]; exact h⟩
  | write => exact gen st _ _ ⟨rfl, rfl, rfl⟩ (fun e => by subst e; exact ⟨fun h => ⟨h, rfl⟩, fun h => h⟩)
  | add =>
    obtain ⟨b1, b2, b3, b4, b5, b6⟩ := look_fields st o.t.toNat o.k.toNat T
    exact gen (look st _ _) _ _ ⟨b1, b4, b2⟩ (fun e => by
      rw [e] at b1 b2 b4 ⊢
      exact ⟨fun h => ⟨b1.trans h, b4⟩, fun h => b2.trans h⟩)
  | quiet => exact gen st _ _ ⟨rfl, rfl, rfl⟩ (fun e => by subst e; exact ⟨fun h => ⟨h, rfl⟩, fun _ => rfl⟩)
  | clash => exact gen st _ _ ⟨rfl, rfl, rfl⟩ (fun e => by subst e; exact ⟨fun h => ⟨h, rfl⟩, fun _ => rfl⟩)
  | made => exact gen st _ _ ⟨rfl, rfl, rfl⟩ (fun e => by subst e; exact ⟨fun h => ⟨h, rfl⟩, fun _ => rfl⟩)
  | abort => exact gen st _ _ ⟨rfl, rfl, rfl⟩ (fun e => by subst e; exact ⟨fun h => ⟨h, rfl⟩, fun _ => rfl⟩)
theorem at_stays (ops : List Op) (T i : Nat) : ∀ d, (((at_ ops i).txs T).begun = true → ((at_ ops (i + d)).txs T).begun = true ∧ ((at_ ops (i + d)).txs T).inst = ((at_ ops i).txs T).inst) ∧
    (((at_ ops i).txs T).over = true → ((at_ ops (i + d)).txs T).over = true) ∧ (∀ k : Nat, ((at_ ops i).txs T).read k = true → ((at_ ops (i + d)).txs T).read k = true) := by
  intro d
  induction d with
  | zero => exact ⟨fun h => ⟨h, rfl⟩, fun h => h, fun _ h => h⟩
  | succ d ih =>
    rcases Nat.lt_or_ge (i + d) ops.length with hi | hi
    · have ho : ops[i + d]? = some ops[i + d] := List.getElem?_eq_getElem hi
      have e := at_succ ho
      have h1 := step_stays (at_ ops (i + d)) ops[i + d] T
      rw [← e] at h1
      refine ⟨fun h => ?_, fun h => h1.2 (ih.2.1 h), fun k h => ?_⟩
      · obtain ⟨a1, a2⟩ := ih.1 h
        obtain ⟨a3, a4⟩ := h1.1 a1
        exact ⟨a3, a4.trans a2⟩
      · have h2 := (step_keeps (at_ ops (i + d)) ops[i + d] T k).1
        rw [← e] at h2
        exact h2 (ih.2.2 k h)
    · have e : at_ ops (i + (d + 1)) = at_ ops (i + d) := by unfold at_; rw [List.take_of_length_le hi, List.take_of_length_le (by omega)]
      rw [e]
      exact ih

/-- The states of both scripts, as far as one transaction goes. -/
structure Twin (A B S : St) (T : Nat) : Prop where
  begun : (B.txs T).begun = (A.txs T).begun
  overA : (A.txs T).over = false
  overB : (B.txs T).over = false
  writes : (B.txs T).writes = (A.txs T).writes
  wr : ∀ k : Int, mget ((T : Int), k) B.wr = mget ((T : Int), k) A.wr
  insts : B.insts = S.insts
  readers : B.readers = S.readers
  inst : (A.txs T).begun = true → (B.txs T).inst = last S
theorem Twin.live {A B S : St} {T : Nat} (h : Twin A B S T) : (B.txs T).live = (A.txs T).live := by
  unfold Txn.live
  rw [h.begun, h.overA, h.overB]
theorem Twin.setTx_ {A B S : St} {T : Nat} (h : Twin A B S T) (x y : Txn) (h1 : y.begun = x.begun) (h2 : x.over = false) (h3 : y.over = false) (h4 : y.writes = x.writes) (h5 : x.begun = true → y.inst = last S) : Twin (A.setTx T x) (B.setTx T y) S T := by
  refine ⟨?_, ?_, ?_, ?_, h.wr, h.insts, h.readers, ?_⟩ <;> simp only [setTx_txs, if_pos rfl]
  · exact h1
  · exact h2
  · exact h3
  · exact h4
  · exact h5
theorem look_case (st : St) (T K : Nat) : look st T K = st ∨ look st T K = st.setTx T ((st.txs T).setRead K) := by
  unfold look
  split
  · exact .inl rfl
  · exact .inr rfl
theorem Twin.look_ {A B S : St} {T : Nat} (h : Twin A B S T) (K : Nat) : Twin (look A T K) (look B T K) S T := by
  have e : (mget ((T : Int), (K : Int)) B.wr).isSome = (mget ((T : Int), (K : Int)) A.wr).isSome := by rw [h.wr]
  unfold look
  rw [e]
  split
  · exact h
  · exact h.setTx_ _ _ h.begun h.overA h.overB h.writes h.inst
theorem Twin.put_ {A B S : St} {T : Nat} (h : Twin A B S T) (K : Nat) (n : Int) : Twin (put A T K n) (put B T K n) S T := by
  have h1 := h.setTx_ { A.txs T with writes := true } { B.txs T with writes := true } h.begun h.overA h.overB rfl h.inst
  refine ⟨h1.begun, h1.overA, h1.overB, h1.writes, fun k => ?_, h1.insts, h1.readers, h1.inst⟩
  unfold put
  simp only [mget_mput, h.wr]
theorem Twin.step_ {A B S : St} {T : Nat} (h : Twin A B S T) (o : Op) (ht : o.t = (T : Int)) (he : (step A o).1.e = 0) (hov : ((step A o).2.txs T).over = false)
    (hsee : o.d = 1 ∨ o.d = 3 → see B T o.k.toNat = see A T o.k.toNat) :
    (step B o).1.e = 0 ∧ (o.d ≠ 0 → (step B o).1 = (step A o).1) ∧ Twin (step A o).2 (step B o).2 S T := by
  have eB := step_fits he B
  have hk := step_kind A o
  have eT : o.t.toNat = T := by omega
  rw [eB]
  unfold does
  dsimp only
  subst eT
  generalize step A o = z at *
  obtain ⟨za, zs⟩ := z
  dsimp only at *
  have hlast : last B = last S := by unfold last; rw [h.insts]
  cases hk with
  | refuse e hne => exact absurd he hne
  | begin_ h0 h1 hd hb =>
    rw [if_pos hd]
    unfold Tx.begin_
    rw [if_neg (by rw [h.begun, hb]; decide)]
    exact ⟨rfl, fun h => absurd hd h, h.setTx_ _ _ rfl h.overA h.overB h.writes (fun _ => hlast)⟩
  | read h0 h1 k0 k1 hd hl =>
    rw [if_neg (by omega), if_neg (by rw [h.live, hl]; decide), if_pos hd, hsee (.inl hd)]
    exact ⟨rfl, fun _ => rfl, h.look_ _⟩
  | write h0 h1 k0 k1 hd hl =>
    rw [if_neg (by omega), if_neg (by rw [h.live, hl]; decide), if_neg (by omega), if_pos hd]
    exact ⟨rfl, fun _ => rfl, h.put_ _ _⟩
  | add h0 h1 k0 k1 n0 n1 hd hl =>
    rw [if_neg (by omega), if_neg (by rw [h.live, hl]; decide), if_neg (by omega), if_neg (by omega), if_pos hd, hsee (.inr hd)]
    exact ⟨rfl, fun _ => rfl, (h.look_ _).put_ _ _⟩
  | quiet =>
    replace hov : ((A.setTx o.t.toNat { A.txs o.t.toNat with over := true, comm := true }).txs o.t.toNat).over = false := hov
    rw [setTx_txs, if_pos rfl] at hov; cases hov
  | clash => rw [setTx_txs, if_pos rfl] at hov; cases hov
  | made =>
    replace hov : ((A.setTx o.t.toNat { A.txs o.t.toNat with over := true, comm := true }).txs o.t.toNat).over = false := hov
    rw [setTx_txs, if_pos rfl] at hov; cases hov
  | abort => rw [setTx_txs, if_pos rfl] at hov; cases hov
/-- Another one's operation, or one that is refused. -/
theorem Twin.skip {A B S : St} {T : Nat} (h : Twin A B S T) (o : Op) (hn : ¬ (o.t = (T : Int) ∧ (step A o).1.e = 0)) (hov : ((step A o).2.txs T).over = false) : Twin (step A o).2 B S T := by
  by_cases ht : o.t = (T : Int)
  · have he : (step A o).1.e ≠ 0 := fun e => hn ⟨ht, e⟩
    have hk := step_kind A o
    have eT : o.t.toNat = T := by omega
    subst eT
    generalize step A o = z at *
    obtain ⟨za, zs⟩ := z
    dsimp only at *
    cases hk with
    | refuse => exact h
    | clash => rw [setTx_txs, if_pos rfl] at hov; cases hov
    | _ => exact absurd rfl he
  · obtain ⟨h1, h2⟩ := step_other A o T ht
    exact ⟨by rw [h1]; exact h.begun, by rw [h1]; exact h.overA, h.overB, by rw [h1]; exact h.writes, fun k => by rw [h2]; exact h.wr k, h.insts, h.readers, by rw [h1]; exact h.inst⟩
def ownB (t : Int) (z : List (Op × Ans)) : List Ans := (z.filter fun p => decide (p.1.t = t) && decide (p.2.e = 0)).map Prod.snd
theorem ownB_snoc (t : Int) (z : List (Op × Ans)) (o : Op) (a : Ans) : ownB t (z ++ [(o, a)]) = ownB t z ++ if o.t = t ∧ a.e = 0 then [a] else [] := by
  unfold ownB
  rw [List.filter_append, List.map_append]
  by_cases h1 : o.t = t <;> by_cases h2 : a.e = 0 <;> simp [h1, h2]
/-- Each answer is no error, and, but for those to a begin, the same. -/
inductive Match : List Op → List Ans → List Ans → Prop
  | nil : Match [] [] []
  | snoc {L : List Op} {P Q : List Ans} (h : Match L P Q) (o : Op) (p q : Ans) (h1 : p.e = 0) (h2 : o.d ≠ 0 → p = q) : Match (L ++ [o]) (P ++ [p]) (Q ++ [q])
theorem Match.lens {L : List Op} {P Q : List Ans} (h : Match L P Q) : P.length = L.length ∧ Q.length = L.length := by
  induction h with
  | nil => exact ⟨rfl, rfl⟩
  | snoc h o p q h1 h2 ih => simp [ih]
theorem Match.at_ {L : List Op} {P Q : List Ans} (h : Match L P Q) : ∀ (i : Nat) (o : Op), L[i]? = some o → ∃ p q, P[i]? = some p ∧ Q[i]? = some q ∧ p.e = 0 ∧ (o.d ≠ 0 → p = q) := by
  induction h with
  | nil => intro i o hi; simp at hi
  | snoc h o p q h1 h2 ih =>
    intro i x hi
    obtain ⟨l1, l2⟩ := h.lens
    rename_i L P Q
    rcases Nat.lt_trichotomy i L.length with hlt | heq | hgt
    · rw [List.getElem?_append_left hlt] at hi
      rw [List.getElem?_append_left (by omega), List.getElem?_append_left (by omega)]
      exact ih i x hi
    · rw [List.getElem?_append_right (by omega)] at hi
      rw [List.getElem?_append_right (by omega), List.getElem?_append_right (by omega)]
      have e0 : i - L.length = 0 := by omega
      rw [e0] at hi
      rw [l1, l2, e0]
      simp at hi
      subst hi
      exact ⟨p, q, rfl, rfl, h1, h2⟩
    · rw [List.getElem?_append_right (by omega)] at hi
      rw [List.getElem?_eq_none (by simp; omega)] at hi
      cases hi
theorem zip_take_succ {ops : List Op} {i : Nat} {o : Op} {a : Ans} (ho : ops[i]? = some o) (ha : (ans ops)[i]? = some a) : (ops.zip (ans ops)).take (i + 1) = (ops.zip (ans ops)).take i ++ [(o, a)] := by
  have hz : (ops.zip (ans ops))[i]? = some (o, a) := by rw [List.getElem?_zip_eq_some]; exact ⟨ho, ha⟩
  have hlt := (List.getElem?_eq_some_iff.1 hz).1
  rw [List.take_succ_eq_append_getElem hlt, (List.getElem?_eq_some_iff.1 hz).2]
/-- Up to the commit both scripts go together. -/
theorem twin_at {ops : List Op} {c T : Nat} {S : St} (hc : c < ops.length) (hl : ((at_ ops c).txs T).over = false) (hb : (S.txs T).begun = false ∧ (S.txs T).over = false ∧ (S.txs T).writes = false) (hw : ∀ k : Int, mget ((T : Int), k) S.wr = none)
    (base : ∀ K : Nat, K < 16 → ((at_ ops c).txs T).read K = true → ((at_ ops c).inst ((at_ ops c).txs T).inst).words K = (S.inst (last S)).words K) :
    ∀ i, i ≤ c → Twin (at_ ops i) (run S (ownL T ((ops.zip (ans ops)).take i))).2 S T ∧ Match (ownL T ((ops.zip (ans ops)).take i)) (run S (ownL T ((ops.zip (ans ops)).take i))).1 (ownB T ((ops.zip (ans ops)).take i)) := by
  intro i
  induction i with
  | zero =>
    intro _
    exact ⟨⟨hb.1, rfl, hb.2.1, hb.2.2, fun k => (hw k).trans rfl, rfl, rfl, fun h => by rw [at_zero] at h; cases h⟩, Match.nil⟩
  | succ i ih =>
    intro hi
    obtain ⟨h1, h2⟩ := ih (by omega)
    have ho : ops[i]? = some ops[i] := List.getElem?_eq_getElem (by omega)
    have ha := ans_at ho
    generalize ops[i] = o at *
    have hov : ((at_ ops (i + 1)).txs T).over = false := by
      cases h : ((at_ ops (i + 1)).txs T).over with
      | false => rfl
      | true =>
        have := (at_stays ops T (i + 1) (c - (i + 1))).2.1 h
        rw [show i + 1 + (c - (i + 1)) = c by omega, hl] at this
        cases this
    rw [at_succ ho] at hov
    rw [zip_take_succ ho ha, ownL_snoc, ownB_snoc, at_succ ho]
    by_cases hh : o.t = (T : Int) ∧ (step (at_ ops i) o).1.e = 0
    · rw [if_pos hh, if_pos hh, run_snoc]
      have h3 := h1.step_ o hh.1 hh.2 hov (fun hd => ?_)
      · exact ⟨h3.2.2, h2.snoc o _ _ h3.1 h3.2.1⟩
      · unfold Tx.see
        rw [h1.wr]
        cases hm : mget ((T : Int), (o.k.toNat : Int)) (at_ ops i).wr with
        | some v => rfl
        | none =>
          have hk := step_kind (at_ ops i) o
          have eT : o.t.toNat = T := by omega
          have hst := at_stays ops T i (c - i)
          rw [show i + (c - i) = c by omega] at hst
          have hst2 := at_stays ops T (i + 1) (c - (i + 1))
          rw [show i + 1 + (c - (i + 1)) = c by omega, at_succ ho] at hst2
          have he := hh.2
          subst eT
          have hfin : ∀ (hl : ((at_ ops i).txs o.t.toNat).live = true) (hr : ((at_ ops c).txs o.t.toNat).read o.k.toNat = true) (hk16 : o.k.toNat < 16),
              Option.getD (none : Option Int) (((run S (ownL o.t.toNat ((ops.zip (ans ops)).take i))).2.inst ((run S (ownL o.t.toNat ((ops.zip (ans ops)).take i))).2.txs o.t.toNat).inst).words o.k.toNat) = Option.getD none (((at_ ops i).inst ((at_ ops i).txs o.t.toNat).inst).words o.k.toNat) := by
            intro hl hr hk16
            show ((run S _).2.inst _).words _ = ((at_ ops i).inst _).words _
            rw [h1.inst (live_begun hl)]
            have e1 : (run S (ownL o.t.toNat ((ops.zip (ans ops)).take i))).2.inst (last S) = S.inst (last S) := by unfold St.inst; rw [h1.insts]
            rw [e1, ← base _ hk16 hr, (hst.1 (live_begun hl)).2]
            have hs := (at_sound ops i).inst o.t.toNat
            rw [← inst_stays ops (by omega) hs, ← inst_stays ops (i := c) (by omega) (by have := (insts_stay ops i c (by omega) (by omega)).length_le; omega)]
          have hrd : ((look (at_ ops i) o.t.toNat o.k.toNat).txs o.t.toNat).read o.k.toNat = true := look_read _ _ _ (by rw [hm]; intro h; cases h)
          clear hov
          generalize step (at_ ops i) o = z at *
          obtain ⟨za, zs⟩ := z
          dsimp only at *
          cases hk with
          | refuse e hne => exact absurd he hne
          | read h0 h1 k0 k1 hd hl => exact hfin hl (hst2.2.2 _ hrd) (by omega)
          | add h0 h1 k0 k1 n0 n1 hd hl =>
            refine hfin hl (hst2.2.2 _ ?_) (by omega)
            show (((look (at_ ops i) o.t.toNat o.k.toNat).setTx o.t.toNat _).txs o.t.toNat).read _ = true
            rw [setTx_txs, if_pos rfl]
            exact hrd
          | _ => omega
    · rw [if_neg hh, if_neg hh, List.append_nil, List.append_nil]
      exact ⟨h1.skip o hh hov, h2⟩
/-- Where an instant comes from. -/
theorem made_from (ops : List Op) : ∀ i, i ≤ ops.length → ∀ m, 0 < m → m < (at_ ops i).insts.length → ∃ (c T : Nat) (o : Op), c < i ∧ ops[c]? = some o ∧ o.t = (T : Int) ∧ o.d = 4 ∧ (at_ ops c).insts.length = m ∧ ((at_ ops c).txs T).live = true ∧
    ((at_ ops c).txs T).writes = true ∧ clash (at_ ops c) T = false ∧ (step (at_ ops c) o).1 = ⟨0, (m : Int)⟩ ∧ (at_ ops i).inst m = Tx.made (at_ ops c) T := by
  intro i
  induction i with
  | zero => intro _ m h0 hm; rw [at_zero] at hm; simp [St.zero] at hm; omega
  | succ i ih =>
    intro hi m h0 hm
    have ho : ops[i]? = some ops[i] := List.getElem?_eq_getElem (by omega)
    have hne := at_ne ops i
    have keep : (at_ ops (i + 1)).insts = (at_ ops i).insts → ∃ (c T : Nat) (o : Op), c < i + 1 ∧ ops[c]? = some o ∧ o.t = (T : Int) ∧ o.d = 4 ∧ (at_ ops c).insts.length = m ∧ ((at_ ops c).txs T).live = true ∧
        ((at_ ops c).txs T).writes = true ∧ clash (at_ ops c) T = false ∧ (step (at_ ops c) o).1 = ⟨0, (m : Int)⟩ ∧ (at_ ops (i + 1)).inst m = Tx.made (at_ ops c) T := by
      intro e
      rw [e] at hm
      obtain ⟨c, T, o, h1, h2, h3, h4, h5, h6, h7, h8, h9, h10⟩ := ih (by omega) m h0 hm
      exact ⟨c, T, o, by omega, h2, h3, h4, h5, h6, h7, h8, h9, by rw [← h10]; unfold St.inst; rw [e]⟩
    have e := at_succ ho
    have hk := step_kind (at_ ops i) ops[i]
    generalize hs : step (at_ ops i) ops[i] = z at *
    obtain ⟨za, zs⟩ := z
    dsimp only at *
    cases hk with
    | refuse => exact keep (by rw [e])
    | begin_ => exact keep (by rw [e]; rfl)
    | read => exact keep (by rw [e]; rcases look_case (at_ ops i) ops[i].t.toNat ops[i].k.toNat with h | h <;> rw [h] <;> rfl)
    | write => exact keep (by rw [e]; rfl)
    | add => exact keep (by rw [e]; show (look (at_ ops i) ops[i].t.toNat ops[i].k.toNat).insts = _; rcases look_case (at_ ops i) ops[i].t.toNat ops[i].k.toNat with h | h <;> rw [h] <;> rfl)
    | quiet => exact keep (by rw [e]; rfl)
    | clash => exact keep (by rw [e]; rfl)
    | abort => exact keep (by rw [e]; rfl)
    | made q0 q1 hd hl hw hc =>
      rw [e] at hm
      have hlen : ((at_ ops i).insts ++ [Tx.made (at_ ops i) ops[i].t.toNat]).length = (at_ ops i).insts.length + 1 := by simp
      replace hm : m < ((at_ ops i).insts ++ [Tx.made (at_ ops i) ops[i].t.toNat]).length := hm
      rw [hlen] at hm
      rcases Nat.lt_or_ge m (at_ ops i).insts.length with hlt | hge
      · obtain ⟨c, T, o, h1, h2, h3, h4, h5, h6, h7, h8, h9, h10⟩ := ih (by omega) m h0 hlt
        refine ⟨c, T, o, by omega, h2, h3, h4, h5, h6, h7, h8, h9, ?_⟩
        rw [← h10, e]
        exact inst_old ((at_ ops i).setTx _ _) _ m hlt
      · obtain rfl : m = (at_ ops i).insts.length := by omega
        refine ⟨i, ops[i].t.toNat, ops[i], by omega, ho, by omega, hd, rfl, hl, hw, hc, by rw [hs], ?_⟩
        rw [e]
        exact inst_new ((at_ ops i).setTx _ _) _
/-- Where a reader comes from. -/
theorem reader_from (ops : List Op) : ∀ i, i ≤ ops.length → (∀ r ∈ (at_ ops i).readers, ∃ (c T : Nat) (o : Op), c < i ∧ ops[c]? = some o ∧ r = (T : Int) ∧ o.t = (T : Int) ∧ o.d = 4 ∧ ((at_ ops c).txs T).live = true ∧
    ((at_ ops c).txs T).writes = false ∧ (step (at_ ops c) o).1 = ⟨0, 0⟩ ∧ ((at_ ops i).txs T).over = true) ∧ (at_ ops i).readers.Nodup := by
  intro i
  induction i with
  | zero => intro _; exact ⟨fun r hr => by rw [at_zero] at hr; simp [St.zero] at hr, List.nodup_nil⟩
  | succ i ih =>
    intro hi
    obtain ⟨ih1, ih2⟩ := ih (by omega)
    have ho : ops[i]? = some ops[i] := List.getElem?_eq_getElem (by omega)
    have ov : ∀ T : Nat, ((at_ ops i).txs T).over = true → ((at_ ops (i + 1)).txs T).over = true := fun T h => (at_stays ops T i 1).2.1 h
    have keep : (at_ ops (i + 1)).readers = (at_ ops i).readers → (∀ r ∈ (at_ ops (i + 1)).readers, ∃ (c T : Nat) (o : Op), c < i + 1 ∧ ops[c]? = some o ∧ r = (T : Int) ∧ o.t = (T : Int) ∧ o.d = 4 ∧ ((at_ ops c).txs T).live = true ∧
        ((at_ ops c).txs T).writes = false ∧ (step (at_ ops c) o).1 = ⟨0, 0⟩ ∧ ((at_ ops (i + 1)).txs T).over = true) ∧ (at_ ops (i + 1)).readers.Nodup := by
      intro e
      rw [e]
      refine ⟨fun r hr => ?_, ih2⟩
      obtain ⟨c, T, o, h1, h2, h3, h4, h5, h6, h7, h8, h9⟩ := ih1 r hr
      exact ⟨c, T, o, by omega, h2, h3, h4, h5, h6, h7, h8, ov T h9⟩
    have e := at_succ ho
    have hk := step_kind (at_ ops i) ops[i]
    generalize hs : step (at_ ops i) ops[i] = z at *
    obtain ⟨za, zs⟩ := z
    dsimp only at *
    cases hk with
    | refuse => exact keep (by rw [e])
    | begin_ => exact keep (by rw [e]; rfl)
    | read => exact keep (by rw [e]; rcases look_case (at_ ops i) ops[i].t.toNat ops[i].k.toNat with h | h <;> rw [h] <;> rfl)
    | write => exact keep (by rw [e]; rfl)
    | add => exact keep (by rw [e]; show (look (at_ ops i) ops[i].t.toNat ops[i].k.toNat).readers = _; rcases look_case (at_ ops i) ops[i].t.toNat ops[i].k.toNat with h | h <;> rw [h] <;> rfl)
    | clash => exact keep (by rw [e]; rfl)
    | abort => exact keep (by rw [e]; rfl)
    | made => exact keep (by rw [e]; rfl)
    | quiet q0 q1 hd hl hw =>
      have er : (at_ ops (i + 1)).readers = (at_ ops i).readers ++ [(ops[i].t.toNat : Int)] := by rw [e]
      have eo : ((at_ ops (i + 1)).txs ops[i].t.toNat).over = true := by
        rw [e]
        show (((at_ ops i).setTx _ _).txs _).over = true
        rw [setTx_txs, if_pos rfl]
      rw [er]
      refine ⟨fun r hr => ?_, ?_⟩
      · rcases List.mem_append.1 hr with hr | hr
        · obtain ⟨c, T, o, h1, h2, h3, h4, h5, h6, h7, h8, h9⟩ := ih1 r hr
          exact ⟨c, T, o, by omega, h2, h3, h4, h5, h6, h7, h8, ov T h9⟩
        · exact ⟨i, ops[i].t.toNat, ops[i], by omega, ho, by simpa using hr, by omega, hd, hl, hw, by rw [hs], eo⟩
      · rw [List.nodup_append]
        refine ⟨ih2, by simp, fun a ha b hb => ?_⟩
        have : b = (ops[i].t.toNat : Int) := by simpa using hb
        subst this
        intro e2
        obtain ⟨c, T, o, h1, h2, h3, h4, h5, h6, h7, h8, h9⟩ := ih1 a ha
        have : T = ops[i].t.toNat := by omega
        subst this
        have := live_over hl
        rw [h9] at this; cases this
/-- Behind its commit a transaction does nothing more. -/
theorem over_none {ops : List Op} {T c : Nat} (h1 : ((at_ ops c).txs T).over = true) (h2 : ((at_ ops c).txs T).begun = true) : ∀ d, ownL T ((ops.zip (ans ops)).take (c + d)) = ownL T ((ops.zip (ans ops)).take c) ∧ ownB T ((ops.zip (ans ops)).take (c + d)) = ownB T ((ops.zip (ans ops)).take c) := by
  intro d
  induction d with
  | zero => exact ⟨rfl, rfl⟩
  | succ d ih =>
    rcases Nat.lt_or_ge (c + d) ops.length with hi | hi
    · have ho : ops[c + d]? = some ops[c + d] := List.getElem?_eq_getElem hi
      have ha := ans_at ho
      have hs := at_stays ops T c d
      rw [show c + (d + 1) = (c + d) + 1 by omega, zip_take_succ ho ha, ownL_snoc, ownB_snoc]
      have hn : ¬ (ops[c + d].t = (T : Int) ∧ (step (at_ ops (c + d)) ops[c + d]).1.e = 0) := by
        rintro ⟨ht, he⟩
        have eT : ops[c + d].t.toNat = T := by omega
        have ho2 := hs.2.1 h1
        have hb2 := (hs.1 h2).1
        have hk := step_kind (at_ ops (c + d)) ops[c + d]
        generalize step (at_ ops (c + d)) ops[c + d] = z at *
        obtain ⟨za, zs⟩ := z
        dsimp only at *
        rw [← eT] at ho2 hb2
        cases hk with
        | refuse e hne => exact hne he
        | begin_ q0 q1 hd hb => rw [hb2] at hb; cases hb
        | read q0 q1 k0 k1 hd hl => rw [live_over hl] at ho2; cases ho2
        | write q0 q1 k0 k1 hd hl => rw [live_over hl] at ho2; cases ho2
        | add q0 q1 k0 k1 n0 n1 hd hl => rw [live_over hl] at ho2; cases ho2
        | quiet q0 q1 hd hl => rw [live_over hl] at ho2; cases ho2
        | clash q0 q1 hd hl => rw [live_over hl] at ho2; cases ho2
        | made q0 q1 hd hl => rw [live_over hl] at ho2; cases ho2
        | abort q0 q1 hd hl => rw [live_over hl] at ho2; cases ho2
      rw [if_neg hn, if_neg hn, List.append_nil, List.append_nil]
      exact ih
    · have e : (ops.zip (ans ops)).take (c + (d + 1)) = (ops.zip (ans ops)).take (c + d) := by
        have hz : (ops.zip (ans ops)).length ≤ c + d := by rw [List.length_zip]; omega
        rw [List.take_of_length_le hz, List.take_of_length_le (by omega)]
      rw [e]
      exact ih
/-- All that a committed transaction did. -/
theorem own_all {ops : List Op} {T c : Nat} {o : Op} (ho : ops[c]? = some o) (ht : o.t = (T : Int)) (hd : o.d = 4) (hl : ((at_ ops c).txs T).live = true) (he : (step (at_ ops c) o).1.e = 0) :
    ownL T (ops.zip (ans ops)) = ownL T ((ops.zip (ans ops)).take c) ++ [o] ∧ ownB T (ops.zip (ans ops)) = ownB T ((ops.zip (ans ops)).take c) ++ [(step (at_ ops c) o).1] := by
  have hlt := (List.getElem?_eq_some_iff.1 ho).1
  have ha := ans_at ho
  have eT : o.t.toNat = T := by omega
  have e := at_succ ho
  have h1 : ((at_ ops (c + 1)).txs T).over = true := by
    have hk := step_kind (at_ ops c) o
    rw [e]
    generalize step (at_ ops c) o = z at *
    obtain ⟨za, zs⟩ := z
    dsimp only at *
    subst eT
    cases hk with
    | refuse e hne => exact absurd he hne
    | quiet => show (((at_ ops c).setTx _ _).txs _).over = true; rw [setTx_txs, if_pos rfl]
    | clash => rw [setTx_txs, if_pos rfl]
    | made => show (((at_ ops c).setTx _ _).txs _).over = true; rw [setTx_txs, if_pos rfl]
    | _ => omega
  have h2 : ((at_ ops (c + 1)).txs T).begun = true := ((at_stays ops T c 1).1 (live_begun hl)).1
  have h3 := over_none h1 h2 (ops.length - (c + 1))
  have hz : (ops.zip (ans ops)).take (c + 1 + (ops.length - (c + 1))) = ops.zip (ans ops) := List.take_of_length_le (by rw [List.length_zip]; omega)
  rw [hz, zip_take_succ ho ha, ownL_snoc, ownB_snoc, if_pos ⟨ht, he⟩, if_pos ⟨ht, he⟩] at h3
  exact h3
/-- A commit of one that runs by itself. -/
theorem Twin.commit_ {A B S : St} {T : Nat} (h : Twin A B S T) (o : Op) (ht : o.t = (T : Int)) (hd : o.d = 4) (he : (step A o).1.e = 0) (hl : (A.txs T).live = true) :
    ((A.txs T).writes = false → (step B o) = (⟨0, 0⟩, { B.setTx T { B.txs T with over := true, comm := true } with readers := B.readers ++ [(T : Int)] })) ∧
    ((A.txs T).writes = true → (step B o) = (⟨0, S.insts.length⟩, { B.setTx T { B.txs T with over := true, comm := true } with insts := B.insts ++ [Tx.made B T] })) := by
  have eT : o.t.toNat = T := by omega
  have eB : step B o = commit B T := by
    rw [step_fits he B]
    unfold does
    dsimp only
    rw [eT, if_neg (by omega), if_neg (by rw [h.live, hl]; decide), if_neg (by omega), if_neg (by omega), if_neg (by omega), if_pos hd]
  rw [eB]
  unfold commit
  dsimp only
  rw [h.writes]
  refine ⟨fun hw => by rw [hw]; rfl, fun hw => ?_⟩
  rw [hw]
  have hc : clash B T = false := by
    unfold clash
    rw [List.any_eq_false]
    intro k _
    have : behind B k (B.txs T).inst = false := by
      unfold behind
      rw [List.any_eq_false]
      intro i hi
      have h1 := List.mem_range.1 hi
      have h2 := h.inst (live_begun hl)
      have : ¬ (B.txs T).inst < i := by rw [h2]; unfold last; rw [h.insts] at h1; omega
      simp [this]
    simp [this]
  rw [hc, ← h.insts]
  rfl
theorem Match.app {L L' : List Op} {P P' Q Q' : List Ans} (h : Match L P Q) (h' : Match L' P' Q') : Match (L ++ L') (P ++ P') (Q ++ Q') := by
  induction h' with
  | nil => simpa using h
  | snoc h2 o p q h3 h4 ih =>
    rw [← List.append_assoc, ← List.append_assoc, ← List.append_assoc]
    exact ih.snoc o p q h3 h4
/-- Untouched yet. -/
def Fresh (S : St) (T : Nat) : Prop := ((S.txs T).begun = false ∧ (S.txs T).over = false ∧ (S.txs T).writes = false) ∧ ∀ k : Int, mget ((T : Int), k) S.wr = none
theorem own_mine {t : Int} {z : List (Op × Ans)} {o : Op} (h : o ∈ ownL t z) : o.t = t := by
  unfold ownL at h
  rw [List.mem_map] at h
  obtain ⟨p, hp, rfl⟩ := h
  have := (List.mem_filter.1 hp).2
  simp at this
  exact this.1
theorem Fresh.run_ {S : St} {T' : Nat} (h : Fresh S T') {L : List Op} {t : Int} (hL : ∀ o ∈ L, o.t = t) (hne : t ≠ (T' : Int)) : Fresh (run S L).2 T' := by
  obtain ⟨h1, h2⟩ := run_others T' L S (fun o ho => by rw [hL o ho]; exact hne)
  unfold Fresh
  rw [h1]
  exact ⟨h.1, fun k => (h2 k).trans (h.2 k)⟩
/-- One that wrote, run by itself. -/
theorem replay_w {ops : List Op} {m : Nat} {S : St} {T : Nat} (h0 : 0 < m) (hm : m < (run St.zero ops).2.insts.length) (hby : ((run St.zero ops).2.inst m).by_ = (T : Int)) (hn : S.insts.length = m)
    (hw : ∀ j, j < m → ∀ k, (S.inst j).words k = ((run St.zero ops).2.inst j).words k) (hf : Fresh S T) :
    Match (ownL T (ops.zip (ans ops))) (run S (ownL T (ops.zip (ans ops)))).1 (ownB T (ops.zip (ans ops))) ∧
    ∃ X : Inst, (run S (ownL T (ops.zip (ans ops)))).2.insts = S.insts ++ [X] ∧ (∀ k, X.words k = ((run St.zero ops).2.inst m).words k) ∧ ∃ L o, ownL T (ops.zip (ans ops)) = L ++ [o] ∧ o.d = 4 := by
  have hm' : m < (at_ ops ops.length).insts.length := by rw [at_all]; exact hm
  obtain ⟨c, T', o, hc, ho, ht, hd, hlen, hl, hwr, hcl, ha, hmd⟩ := made_from ops ops.length (Nat.le_refl _) m h0 hm'
  rw [at_all] at hmd
  rw [hmd] at hby
  have eT : T' = T := by have : (T' : Int) = (T : Int) := hby; omega
  subst eT
  have he : (step (at_ ops c) o).1.e = 0 := by rw [ha]
  -- the words of the instants ahead
  have hold : ∀ j, j < m → (run St.zero ops).2.inst j = (at_ ops c).inst j := fun j hj => inst_stays ops (by omega) (by omega)
  have flat : ∀ (K : Nat) (p : Nat), (∀ j, p < j → j < m → ((run St.zero ops).2.inst j).wrote K = false) → ∀ q, p ≤ q → q < m → ((run St.zero ops).2.inst q).words K = ((run St.zero ops).2.inst p).words K := by
    intro K p hq q
    induction q with
    | zero => intro h1 _; rw [show p = 0 by omega]
    | succ q ih =>
      intro h1 h2
      rcases Nat.lt_or_ge q p with h3 | h3
      · rw [show p = q + 1 by omega]
      · rw [← ih h3 (by omega)]
        have hw2 := hq (q + 1) (by omega) h2
        obtain ⟨c2, T2, o2, b1, b2, b3, b4, b5, b6, b7, b8, b9, b10⟩ := made_from ops ops.length (Nat.le_refl _) (q + 1) (by omega) (by omega)
        rw [at_all] at b10
        rw [b10] at hw2 ⊢
        have hnone : mget ((T2 : Int), (K : Int)) (at_ ops c2).wr = none := by
          replace hw2 : (mget ((T2 : Int), (K : Int)) (at_ ops c2).wr).isSome = false := hw2
          simpa using hw2
        show (mget ((T2 : Int), (K : Int)) (at_ ops c2).wr).getD _ = _
        rw [hnone]
        show ((at_ ops c2).inst (last (at_ ops c2))).words K = _
        have : last (at_ ops c2) = q := by unfold last; omega
        rw [this, inst_stays ops (i := c2) (by omega) (by omega)]
  have hlS : last S = m - 1 := by unfold last; omega
  have base : ∀ K : Nat, K < 16 → ((at_ ops c).txs T').read K = true → ((at_ ops c).inst ((at_ ops c).txs T').inst).words K = (S.inst (last S)).words K := by
    intro K hK hr
    have hin : ((at_ ops c).txs T').inst < m := by rw [← hlen]; exact (at_sound ops c).inst T'
    rw [hlS, hw _ (by omega), ← hold _ hin]
    refine (flat K _ (fun j h1 h2 => ?_) (m - 1) (by omega) (by omega)).symm
    unfold clash at hcl
    have := List.any_eq_false.1 hcl K (by simpa using hK)
    simp only [hr, Bool.true_and] at this
    unfold behind at this
    simp at this
    rw [hold j h2]
    exact this j (by omega) h1
  obtain ⟨tw, mt⟩ := twin_at hc (live_over hl) hf.1 hf.2 base c (Nat.le_refl _)
  obtain ⟨e1, e2⟩ := own_all ho ht hd hl he
  rw [e1, e2, run_snoc]
  have hcm := (tw.commit_ o ht hd he hl).2 hwr
  rw [hcm]
  refine ⟨mt.snoc o _ _ rfl (fun _ => ?_), Tx.made (run S (ownL T' ((ops.zip (ans ops)).take c))).2 T', ?_, fun k => ?_, _, o, rfl, hd⟩
  · rw [ha, hn]
  · show (run S _).2.insts ++ _ = _
    rw [tw.insts]
  · rw [hmd]
    show (mget _ _).getD _ = (mget _ _).getD _
    rw [tw.wr]
    have e3 : last (run S (ownL T' ((ops.zip (ans ops)).take c))).2 = m - 1 := by unfold last; rw [tw.insts]; omega
    have e4 : (run S (ownL T' ((ops.zip (ans ops)).take c))).2.inst (m - 1) = S.inst (m - 1) := by unfold St.inst; rw [tw.insts]
    have e5 : last (at_ ops c) = m - 1 := by unfold last; omega
    rw [e3, e4, e5, hw _ (by omega), hold _ (by omega)]
/-- One that wrote nothing, run by itself. -/
theorem replay_r {ops : List Op} {S : St} {T : Nat} (hr : (T : Int) ∈ (run St.zero ops).2.readers) (hn : ((run St.zero ops).2.txs T).inst + 1 = S.insts.length)
    (hw : ∀ j, j < S.insts.length → ∀ k, (S.inst j).words k = ((run St.zero ops).2.inst j).words k) (hf : Fresh S T) :
    Match (ownL T (ops.zip (ans ops))) (run S (ownL T (ops.zip (ans ops)))).1 (ownB T (ops.zip (ans ops))) ∧
    (run S (ownL T (ops.zip (ans ops)))).2.insts = S.insts ∧ ∃ L o, ownL T (ops.zip (ans ops)) = L ++ [o] ∧ o.d = 4 := by
  have hr' : (T : Int) ∈ (at_ ops ops.length).readers := by rw [at_all]; exact hr
  obtain ⟨c, T', o, hc, ho, eT', ht, hd, hl, hwr, ha, hov⟩ := (reader_from ops ops.length (Nat.le_refl _)).1 _ hr'
  have eT : T' = T := by omega
  subst eT
  have he : (step (at_ ops c) o).1.e = 0 := by rw [ha]
  have hin := (at_sound ops c).inst T'
  have hst := (at_stays ops T' c (ops.length - c)).1 (live_begun hl)
  rw [show c + (ops.length - c) = ops.length by omega, at_all] at hst
  have hlS : last S = ((at_ ops c).txs T').inst := by unfold last; rw [← hst.2]; omega
  have base : ∀ K : Nat, K < 16 → ((at_ ops c).txs T').read K = true → ((at_ ops c).inst ((at_ ops c).txs T').inst).words K = (S.inst (last S)).words K := by
    intro K _ _
    rw [hlS, hw _ (by rw [← hst.2]; omega), inst_stays ops (i := c) (by omega) hin]
  obtain ⟨tw, mt⟩ := twin_at hc (live_over hl) hf.1 hf.2 base c (Nat.le_refl _)
  obtain ⟨e1, e2⟩ := own_all ho ht hd hl he
  rw [e1, e2, run_snoc]
  have hcm := (tw.commit_ o ht hd he hl).1 hwr
  rw [hcm]
  exact ⟨mt.snoc o _ _ rfl (fun _ => by rw [ha]), tw.insts, _, o, rfl, hd⟩
/-- A list of transactions, in the order of the instants. -/
inductive Track (st : St) : Nat → List Int → Prop
  | nil : Track st st.insts.length []
  | writer {n : Nat} {r : List Int} (T : Nat) (h0 : 0 < n) (hn : n < st.insts.length) (hby : (st.inst n).by_ = (T : Int)) (h : Track st (n + 1) r) : Track st n ((T : Int) :: r)
  | reader {n : Nat} {r : List Int} (T : Nat) (hr : (T : Int) ∈ st.readers) (hi : (st.txs T).inst + 1 = n) (h : Track st n r) : Track st n ((T : Int) :: r)
theorem track_run {ops : List Op} : ∀ {n : Nat} {ts : List Int}, Track (run St.zero ops).2 n ts → ts.Nodup → ∀ S : St, S.insts.length = n → (∀ j, j < n → ∀ k, (S.inst j).words k = ((run St.zero ops).2.inst j).words k) → (∀ T : Nat, (T : Int) ∈ ts → Fresh S T) →
    Match (ts.flatMap fun t => ownL t (ops.zip (ans ops))) (run S (ts.flatMap fun t => ownL t (ops.zip (ans ops)))).1 (ts.flatMap fun t => ownB t (ops.zip (ans ops))) ∧
    (run S (ts.flatMap fun t => ownL t (ops.zip (ans ops)))).2.insts.length = (run St.zero ops).2.insts.length ∧
    (∀ j, j < (run St.zero ops).2.insts.length → ∀ k, ((run S (ts.flatMap fun t => ownL t (ops.zip (ans ops)))).2.inst j).words k = ((run St.zero ops).2.inst j).words k) ∧
    ∀ t ∈ ts, ∃ L o, ownL t (ops.zip (ans ops)) = L ++ [o] ∧ o.d = 4 := by
  intro n ts h
  induction h with
  | nil => intro _ S hn hw _; exact ⟨Match.nil, hn, hw, fun t ht => by cases ht⟩
  | @writer n r T h0 hm hby h ih =>
    intro hnd S hn hw hf
    obtain ⟨hnot, hnd2⟩ := List.nodup_cons.1 hnd
    obtain ⟨m1, X, e1, e2, e3⟩ := replay_w h0 hm hby hn hw (hf T (List.mem_cons_self))
    rw [List.flatMap_cons, List.flatMap_cons, run_split]
    have gen : ∀ (l r : List Op) (st : St), (run st (l ++ r)).2 = (run (run st l).2 r).2 := by
      intro l
      induction l with
      | nil => intro r st; rfl
      | cons o l ih => intro r st; exact ih r _
    rw [gen]
    have g1 : ∀ j, j < n + 1 → ∀ k, ((run S (ownL T (ops.zip (ans ops)))).2.inst j).words k = ((run St.zero ops).2.inst j).words k := by
      intro j hj k
      have e4 : (run S (ownL T (ops.zip (ans ops)))).2.inst j = if j < S.insts.length then S.inst j else if j = S.insts.length then X else Inst.zero := by
        unfold St.inst
        rw [e1, List.getD_eq_getElem?_getD, List.getD_eq_getElem?_getD]
        split
        · rename_i hlt
          rw [List.getElem?_append_left hlt]
        · rw [List.getElem?_append_right (by omega)]
          split
          · rename_i e; rw [e]; simp
          · rw [List.getElem?_eq_none (by simp; omega)]; rfl
      rw [e4]
      split
      · exact hw j (by omega) k
      · rw [if_pos (by omega)]
        have : j = n := by omega
        subst this
        exact e2 k
    have g2 : ∀ T' : Nat, (T' : Int) ∈ r → Fresh (run S (ownL T (ops.zip (ans ops)))).2 T' := fun T' hT' =>
      (hf T' (List.mem_cons_of_mem _ hT')).run_ (fun o ho => own_mine ho) (fun e => hnot (by rw [e]; exact hT'))
    obtain ⟨b1, b2, b3, b4⟩ := ih hnd2 (run S (ownL T (ops.zip (ans ops)))).2 (by rw [e1]; simp [hn]) g1 g2
    refine ⟨m1.app b1, b2, b3, fun t ht => ?_⟩
    rcases List.mem_cons.1 ht with rfl | ht
    · exact e3
    · exact b4 t ht
  | @reader n r T hr hi h ih =>
    intro hnd S hn hw hf
    obtain ⟨hnot, hnd2⟩ := List.nodup_cons.1 hnd
    obtain ⟨m1, e1, e3⟩ := replay_r hr (by omega) (by rw [hn]; exact hw) (hf T (List.mem_cons_self))
    rw [List.flatMap_cons, List.flatMap_cons, run_split]
    have gen : ∀ (l r : List Op) (st : St), (run st (l ++ r)).2 = (run (run st l).2 r).2 := by
      intro l
      induction l with
      | nil => intro r st; rfl
      | cons o l ih => intro r st; exact ih r _
    rw [gen]
    have g1 : ∀ j, j < n → ∀ k, ((run S (ownL T (ops.zip (ans ops)))).2.inst j).words k = ((run St.zero ops).2.inst j).words k := by
      intro j hj k
      have e4 : (run S (ownL T (ops.zip (ans ops)))).2.inst j = S.inst j := by unfold St.inst; rw [e1]
      rw [e4]
      exact hw j hj k
    have g2 : ∀ T' : Nat, (T' : Int) ∈ r → Fresh (run S (ownL T (ops.zip (ans ops)))).2 T' := fun T' hT' =>
      (hf T' (List.mem_cons_of_mem _ hT')).run_ (fun o ho => own_mine ho) (fun e => hnot (by rw [e]; exact hT'))
    obtain ⟨b1, b2, b3, b4⟩ := ih hnd2 (run S (ownL T (ops.zip (ans ops)))).2 (by rw [e1]; exact hn) g1 g2
    refine ⟨m1.app b1, b2, b3, fun t ht => ?_⟩
    rcases List.mem_cons.1 ht with rfl | ht
    · exact e3
    · exact b4 t ht
/-- The notes of TxLoses are there at every place. -/
theorem linv_at (ops : List Op) : ∀ i, i ≤ ops.length → ∃ I W C d, LInv (at_ ops i) I W C d := by
  intro i
  induction i with
  | zero => intro _; exact ⟨_, _, _, _, LInv.zero⟩
  | succ i ih =>
    intro hi
    obtain ⟨I, W, C, d, h⟩ := ih (by omega)
    have ho : ops[i]? = some ops[i] := List.getElem?_eq_getElem (by omega)
    have ha := ans_at ho
    by_cases he : (step (at_ ops i) ops[i]).1.e = 0 ∨ (step (at_ ops i) ops[i]).1.e = 10
    · by_cases h0 : ops[i].d = 0
      · exact ⟨_, _, _, _, loses_begin h ho ha he h0⟩
      · by_cases h3 : ops[i].d = 3 ∨ ops[i].d = 2
        · exact ⟨_, _, _, _, loses_wrote h ho ha he h3⟩
        · by_cases h4 : ops[i].d = 4
          · by_cases he0 : (step (at_ ops i) ops[i]).1.e = 0
            · exact ⟨_, _, _, _, loses_commit h ho ha he0 h4⟩
            · exact ⟨_, _, _, _, (loses_clash h ho ha he he0 h4).2⟩
          · exact ⟨_, _, _, _, loses_other h ho ha ⟨h0, fun e => h3 (.inr e), fun e => h3 (.inl e), h4⟩⟩
    · exact ⟨_, _, _, _, loses_skip h ho ha ⟨fun e => he (.inl e), fun e => he (.inr e)⟩⟩
theorem track_readers {st : St} {n : Nat} {r rest : List Int} (hr : ∀ t ∈ r, ∃ T : Nat, t = (T : Int) ∧ (T : Int) ∈ st.readers ∧ (st.txs T).inst + 1 = n) (h : Track st n rest) : Track st n (r ++ rest) := by
  induction r with
  | nil => exact h
  | cons t r ih =>
    obtain ⟨T, rfl, h1, h2⟩ := hr t (List.mem_cons_self)
    exact .reader T h1 h2 (ih (fun t ht => hr t (List.mem_cons_of_mem _ ht)))
section
variable {st : St} {I : List (Int × Int)} {W : List (Int × Bool)} {C : List (Int × Int)} {d : Nat}
theorem LCore.part_readers (h : LCore st I W C d) (m : Nat) : ∀ t ∈ st.readers.filter (fun r => decide ((st.txs r.toNat).inst = m)), ∃ T : Nat, t = (T : Int) ∧ (T : Int) ∈ st.readers ∧ (st.txs T).inst + 1 = m + 1 := fun t ht => by
  obtain ⟨h1, h2⟩ := List.mem_filter.1 ht
  obtain ⟨T, e, _⟩ := h.rdr t h1
  subst e
  simp only [Int.toNat_natCast, decide_eq_true_eq] at h2
  exact ⟨T, rfl, h1, by omega⟩
theorem track_from (h : LCore st I W C d) : ∀ (q m : Nat), 0 < m → m + q = st.insts.length → Track st m ((List.range' m q).flatMap (partAt st)) := by
  intro q
  induction q with
  | zero => intro m _ hm; rw [show m = st.insts.length by omega]; exact .nil
  | succ q ih =>
    intro m h0 hm
    rw [List.range'_succ, List.flatMap_cons]
    obtain ⟨T, a1, a2⟩ := h.made m h0 (by omega)
    have e : partAt st m = (T : Int) :: st.readers.filter (fun r => decide ((st.txs r.toNat).inst = m)) := by
      unfold partAt
      rw [a1, if_pos (by omega)]
      rfl
    rw [e, List.cons_append]
    exact .writer T h0 (by omega) a1 (track_readers (h.part_readers m) (ih (m + 1) (by omega) (by omega)))
theorem track_all (h : LCore st I W C d) (hne : 0 < st.insts.length) : Track st 1 ((List.range st.insts.length).flatMap (partAt st)) := by
  rw [List.range_eq_range']
  obtain ⟨q, hq⟩ : ∃ q, st.insts.length = q + 1 := ⟨st.insts.length - 1, by omega⟩
  rw [hq, List.range'_succ, List.flatMap_cons]
  have e : partAt st 0 = st.readers.filter (fun r => decide ((st.txs r.toNat).inst = 0)) := by
    unfold partAt
    rw [h.first, if_neg (by decide), List.nil_append]
  rw [e]
  exact track_readers (h.part_readers 0) (track_from h q 1 (by omega) (by omega))
theorem part_mem (h : LCore st I W C d) {m : Nat} (hm : m < st.insts.length) {t : Int} (ht : t ∈ partAt st m) :
    (0 < m ∧ mget t C = some (m : Int)) ∨ (mget t C = some 0 ∧ (st.txs t.toNat).inst = m) := by
  unfold partAt at ht
  rcases List.mem_append.1 ht with ht | ht
  · left
    by_cases h0 : m = 0
    · subst h0
      rw [h.first, if_neg (by decide)] at ht
      cases ht
    · obtain ⟨T, a1, a2, a3, a4, a5, a6, a7⟩ := h.made m (by omega) hm
      rw [a1, if_pos (by omega)] at ht
      have : t = (T : Int) := by simpa using ht
      subst this
      exact ⟨by omega, a7⟩
  · right
    refine ⟨h.readers_at m t ht, ?_⟩
    have := (List.mem_filter.1 ht).2
    simpa using this
theorem serial_nodup (h : LCore st I W C d) (hr : st.readers.Nodup) : ((List.range st.insts.length).flatMap (partAt st)).Nodup := by
  unfold List.Nodup
  rw [List.pairwise_flatMap]
  refine ⟨fun m hm => ?_, ?_⟩
  · have hm' := List.mem_range.1 hm
    unfold partAt
    rw [List.pairwise_append]
    refine ⟨by split <;> simp, ?_, fun x hx y hy => ?_⟩
    · exact List.Pairwise.filter _ hr
    · by_cases h0 : m = 0
      · subst h0
        rw [h.first, if_neg (by decide)] at hx
        cases hx
      · obtain ⟨T, a1, a2, a3, a4, a5, a6, a7⟩ := h.made m (by omega) hm'
        rw [a1, if_pos (by omega)] at hx
        have e1 : x = (T : Int) := by simpa using hx
        have e2 := h.readers_at m y hy
        intro e
        rw [← e, e1, a7] at e2
        have : (m : Int) = 0 := by simpa using e2
        omega
  · have hlt : (List.range st.insts.length).Pairwise (· < ·) := List.pairwise_lt_range
    refine List.Pairwise.imp_of_mem ?_ hlt
    intro a b ha hb hab x hx y hy e
    subst e
    have ha' := List.mem_range.1 ha
    have hb' := List.mem_range.1 hb
    rcases part_mem h ha' hx with ⟨p1, p2⟩ | ⟨p1, p2⟩ <;> rcases part_mem h hb' hy with ⟨q1, q2⟩ | ⟨q1, q2⟩
    · rw [p2] at q2
      have : (a : Int) = b := by simpa using q2
      omega
    · rw [p2] at q1
      have : (a : Int) = 0 := by simpa using q1
      omega
    · rw [p1] at q2
      have : (0 : Int) = b := by simpa using q2
      omega
    · omega
end
theorem length_own_flat (ts : List Int) (hnd : ts.Nodup) (z : List (Op × Ans)) : (ts.flatMap fun t => ownL t z).length ≤ z.length := by
  induction z with
  | nil =>
    have : (ts.flatMap fun t => ownL t []) = [] := by
      rw [List.flatMap_eq_nil_iff]
      intro t _
      rfl
    rw [this]
    exact Nat.le_refl _
  | cons p z ih =>
    have key : ∀ ts : List Int, ts.Nodup → (ts.flatMap fun t => ownL t (p :: z)).length ≤ (ts.flatMap fun t => ownL t z).length + (if p.1.t ∈ ts then 1 else 0) := by
      intro ts
      induction ts with
      | nil => intro _; exact Nat.zero_le _
      | cons t r ihr =>
        intro hnd
        obtain ⟨h1, h2⟩ := List.nodup_cons.1 hnd
        have h3 := ihr h2
        rw [List.flatMap_cons, List.flatMap_cons, List.length_append, List.length_append]
        have h4 : (ownL t (p :: z)).length ≤ (ownL t z).length + if p.1.t = t then 1 else 0 := by
          unfold ownL
          rw [List.filter_cons]
          by_cases e : p.1.t = t
          · rw [if_pos e]
            split
            · simp
            · omega
          · rw [if_neg (by simp [e]), if_neg e]
            exact Nat.le_refl _
        by_cases e : p.1.t = t
        · rw [if_pos e] at h4
          rw [if_neg (by rw [e]; exact h1)] at h3
          rw [if_pos (by rw [e]; exact List.mem_cons_self)]
          omega
        · rw [if_neg e] at h4
          have : (if p.1.t ∈ r then 1 else 0) ≤ (if p.1.t ∈ t :: r then 1 else 0) := by
            by_cases hm : p.1.t ∈ r
            · rw [if_pos hm, if_pos (List.mem_cons_of_mem _ hm)]; exact Nat.le_refl _
            · rw [if_neg hm]; exact Nat.zero_le _
          omega
    have h1 := key ts hnd
    rw [List.length_cons]
    have : (if p.1.t ∈ ts then 1 else 0) ≤ 1 := by split <;> omega
    omega
/-- The law of the script of committed transactions. -/
theorem alone_law (ops : List Op) (sr : List Int) (hsr : (List.range (run St.zero ops).2.insts.length).flatMap (partAt (run St.zero ops).2) = sr) :
    (sr.flatMap fun t => ownL t (ops.zip (ans ops))).length ≤ ops.length ∧
    Match (sr.flatMap fun t => ownL t (ops.zip (ans ops))) (ans (sr.flatMap fun t => ownL t (ops.zip (ans ops)))) (sr.flatMap fun t => ownB t (ops.zip (ans ops))) ∧
    last (run St.zero (sr.flatMap fun t => ownL t (ops.zip (ans ops)))).2 = last (run St.zero ops).2 ∧
    (∀ k, ((run St.zero (sr.flatMap fun t => ownL t (ops.zip (ans ops)))).2.inst (last (run St.zero ops).2)).words k = ((run St.zero ops).2.inst (last (run St.zero ops).2)).words k) ∧
    ∀ t ∈ sr, ∃ L o, ownL t (ops.zip (ans ops)) = L ++ [o] ∧ o.d = 4 := by
  obtain ⟨I, W, C, d, h⟩ := linv_at ops ops.length (Nat.le_refl _)
  rw [at_all] at h
  have hne : 0 < (run St.zero ops).2.insts.length := by have := at_ne ops ops.length; rwa [at_all] at this
  have hrn : (run St.zero ops).2.readers.Nodup := by have := (reader_from ops ops.length (Nat.le_refl _)).2; rwa [at_all] at this
  have ht := track_all h.core hne
  have hnd := serial_nodup h.core hrn
  rw [hsr] at ht hnd
  have h0 : (run St.zero ops).2.inst 0 = Inst.zero := inst_stays ops (i := 0) (m := 0) (Nat.zero_le _) (by rw [at_zero]; decide)
  obtain ⟨b1, b2, b3, b4⟩ := track_run ht hnd St.zero rfl (fun j hj k => by
    obtain rfl : j = 0 := by omega
    rw [h0]; rfl) (fun T _ => ⟨⟨rfl, rfl, rfl⟩, fun k => rfl⟩)
  refine ⟨?_, b1, by unfold last; rw [b2], fun k => b3 _ (by unfold last; omega) k, b4⟩
  have := length_own_flat sr hnd (ops.zip (ans ops))
  rw [List.length_zip] at this
  omega
theorem flat_len {α : Type} (f : Int → List α) {ts : List Int} {j : Nat} {t : Int} (h : ts[j]? = some t) : ((ts.take (j + 1)).flatMap f).length = ((ts.take j).flatMap f).length + (f t).length := by
  have hlt := (List.getElem?_eq_some_iff.1 h).1
  rw [List.take_succ_eq_append_getElem hlt, (List.getElem?_eq_some_iff.1 h).2, List.flatMap_append, List.length_append]
  simp
theorem flat_at {α : Type} (f : Int → List α) {ts : List Int} {j : Nat} {t : Int} (h : ts[j]? = some t) {i : Nat} {x : α} (hx : (f t)[i]? = some x) : (ts.flatMap f)[((ts.take j).flatMap f).length + i]? = some x := by
  have hlt := (List.getElem?_eq_some_iff.1 h).1
  have hi := (List.getElem?_eq_some_iff.1 hx).1
  have e : ts = ts.take j ++ t :: ts.drop (j + 1) := by
    rw [← (List.getElem?_eq_some_iff.1 h).2, ← List.drop_eq_getElem_cons hlt, List.take_append_drop]
  have e2 : ts.flatMap f = (ts.take j).flatMap f ++ (f t ++ (ts.drop (j + 1)).flatMap f) := by
    conv => lhs; rw [e]
    rw [List.flatMap_append, List.flatMap_cons]
  rw [e2, List.getElem?_append_right (by omega), Nat.add_sub_cancel_left, List.getElem?_append_left hi]
  exact hx
end Tx
end Go.Proofs.Yteaeflmglppcdaa
