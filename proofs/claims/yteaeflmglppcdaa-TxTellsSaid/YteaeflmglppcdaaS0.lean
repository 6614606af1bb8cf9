/- The reference in plain Lean: what it notes beside the state, its serial order, and that this is the store's. -/
import Derived.Test.YteaeflmglppcdaaM0
namespace Go.Proofs.Yteaeflmglppcdaa
open Go.RowKit Tx

/-- The plain state, with what the reference notes beside it: the instant that a transaction made, and how many commits there were ahead of its own. -/
structure XS where
  st : St
  made : Nat → Nat
  turn : Nat → Nat
  commits : Nat
def wr16 (st : St) (t : Nat) : Bool := (List.range 16).any fun k => (mget ((t : Int), (k : Int)) st.wr).isSome
def XS.zero : XS := { st := St.zero, made := fun _ => 0, turn := fun _ => 0, commits := 0 }
/-- A transaction is committed. -/
def xcommit (X : XS) (t : Nat) : XS :=
  { st := (Tx.commit X.st t).2, made := fun i => if i = t ∧ wr16 X.st t = true then X.st.insts.length else X.made i, turn := fun i => if i = t then X.commits else X.turn i, commits := X.commits + 1 }
/-- Is an operation a commit that is made? -/
def isC (X : XS) (o : Tx.Op) : Bool :=
  Tx.within o.d 0 5 && fits o && decide (o.d = 4) && (X.st.txs o.t.toNat).live && !(wr16 X.st o.t.toNat && Tx.clash X.st o.t.toNat)
def xstep (X : XS) (o : Tx.Op) : XS := if isC X o then xcommit X o.t.toNat else { X with st := (Tx.step X.st o).2 }
def xrun (X : XS) : List Tx.Op → XS
  | [] => X
  | o :: r => xrun (xstep X o) r
theorem xstep_st (X : XS) (o : Tx.Op) : (xstep X o).st = (Tx.step X.st o).2 := by
  unfold xstep
  split
  · rename_i h
    unfold isC at h
    simp only [Bool.and_eq_true, decide_eq_true_eq] at h
    obtain ⟨⟨⟨⟨h1, h2⟩, h3⟩, h4⟩, _⟩ := h
    unfold Tx.step does
    simp only [h2, h3, h4, xcommit, Bool.not_true, Bool.false_eq_true, if_false, if_true]
    rfl
  · rfl
theorem xrun_st (l : List Tx.Op) : ∀ X : XS, (xrun X l).st = (Tx.run X.st l).2 := by
  induction l with
  | nil => intro X; rfl
  | cons o l ih => intro X; unfold xrun; rw [ih, xstep_st]; rfl
theorem xrun_snoc (l : List Tx.Op) (o : Tx.Op) : ∀ X : XS, xrun X (l ++ [o]) = xstep (xrun X l) o := by
  induction l with
  | nil => intro X; rfl
  | cons p l ih => intro X; exact ih _
/-- The committed transactions that wrote nothing, whose turn is n. -/
def qAt (X : XS) (n : Nat) (p : Nat → Bool) : List Int := (List.range 16).flatMap fun t => if (X.st.txs t).comm && X.made t == 0 && X.turn t == n && p t then [(t : Int)] else []
def xquiet (X : XS) (i : Nat) : List Int := (List.range X.commits).flatMap fun n => qAt X n fun t => (X.st.txs t).inst == i
def xmade (X : XS) (i : Nat) : List Int := (List.range 16).flatMap fun t => if X.made t == i then [(t : Int)] else []
def xserial (X : XS) : List Int := xquiet X 0 ++ (List.range (X.st.insts.length - 1)).flatMap fun i => xmade X (i + 1) ++ xquiet X (i + 1)
/-- What stays true. -/
structure XInv (X : XS) : Prop where
  wr : ∀ t, (X.st.txs t).writes = wr16 X.st t
  fresh : ∀ t, (X.st.txs t).over = false → X.made t = 0 ∧ (X.st.txs t).comm = false
  lt : ∀ t, X.made t < X.st.insts.length
  ne : 0 < X.st.insts.length
  turn : ∀ t, (X.st.txs t).comm = true → X.turn t < X.commits
  zero : (X.st.inst 0).by_ = -1
  by_ : ∀ i, 0 < i → i < X.st.insts.length → 0 ≤ (X.st.inst i).by_ ∧ xmade X i = [(X.st.inst i).by_]
  rd : X.st.readers = (List.range X.commits).flatMap fun n => qAt X n fun _ => true
theorem flat_one (n t : Nat) (h : t < n) : ((List.range n).flatMap fun i => if i = t then [(i : Int)] else []) = [(t : Int)] := by
  induction n with
  | zero => omega
  | succ n ih =>
    rw [List.range_succ, List.flatMap_append]
    simp only [List.flatMap_cons, List.flatMap_nil, List.append_nil]
    by_cases e : n = t
    · subst e
      rw [if_pos rfl]
      have : ((List.range n).flatMap fun i => if i = n then [(i : Int)] else []) = [] := by
        rw [List.flatMap_eq_nil_iff]
        intro i hi
        have := List.mem_range.1 hi
        rw [if_neg (by omega)]
      rw [this]; rfl
    · rw [if_neg e, ih (by omega), List.append_nil]
theorem flat_congr {α β : Type} (l : List α) (f g : α → List β) (h : ∀ a ∈ l, f a = g a) : l.flatMap f = l.flatMap g := by
  induction l with
  | nil => rfl
  | cons a l ih => rw [List.flatMap_cons, List.flatMap_cons, h a (List.mem_cons_self), ih fun b hb => h b (List.mem_cons_of_mem _ hb)]
theorem XInv.begin0 : XInv XS.zero := by
  refine ⟨fun t => ?_, fun t _ => ⟨rfl, rfl⟩, fun t => by show 0 < 1; omega, by show 0 < 1; omega, fun t h => (by cases h), rfl, fun i h1 h2 => ?_, rfl⟩
  · show false = _
    unfold wr16
    symm
    rw [List.any_eq_false]
    intro k _
    simp [XS.zero, St.zero, mget]
  · have : i < 1 := h2
    omega
/-- An operation that commits nothing. -/
theorem XInv.other {X : XS} {s : St} (h : XInv X) (e1 : s.insts = X.st.insts) (e2 : s.readers = X.st.readers) (e3 : ∀ t, (s.txs t).comm = (X.st.txs t).comm)
    (e4 : ∀ t, (X.st.txs t).over = true → (s.txs t).over = true) (e5 : ∀ t, (s.txs t).writes = wr16 s t) : XInv { X with st := s } := by
  have ei : ∀ i, s.inst i = X.st.inst i := fun i => by unfold St.inst; rw [e1]
  have eq : ∀ n p, qAt { X with st := s } n p = qAt X n p := fun n p => by
    unfold qAt
    refine flat_congr _ _ _ fun t _ => ?_
    simp only [e3]
  refine ⟨e5, fun t ht => ?_, fun t => ?_, ?_, fun t ht => ?_, ?_, fun i h1 h2 => ?_, ?_⟩
  · have : (X.st.txs t).over = false := by
      cases ho : (X.st.txs t).over with
      | false => rfl
      | true => have := e4 t ho; simp only at ht; rw [ht] at this; cases this
    exact ⟨(h.fresh t this).1, (e3 t).trans (h.fresh t this).2⟩
  · show X.made t < s.insts.length
    rw [e1]; exact h.lt t
  · show 0 < s.insts.length
    rw [e1]; exact h.ne
  · exact h.turn t ((e3 t).symm.trans ht)
  · show (s.inst 0).by_ = -1
    rw [ei]; exact h.zero
  · show 0 ≤ (s.inst i).by_ ∧ xmade X i = [(s.inst i).by_]
    rw [ei]
    exact h.by_ i h1 (by rw [← e1]; exact h2)
  · show s.readers = _
    rw [e2, h.rd]
    simp only [eq]
theorem wr16_setTx (st : St) (t i : Nat) (x : Txn) : wr16 (st.setTx t x) i = wr16 st i := rfl
theorem writes_set {st : St} (hw : ∀ t, (st.txs t).writes = wr16 st t) (t : Nat) (x : Txn) (hx : x.writes = (st.txs t).writes) : ∀ i, ((st.setTx t x).txs i).writes = wr16 (st.setTx t x) i := fun i => by
  rw [wr16_setTx]
  show (if i = t then x else st.txs i).writes = _
  split
  · rename_i e; rw [hx, e]; exact hw t
  · exact hw i
theorem mget_put_isSome (st : St) (t k i j : Nat) (n : Int) : (mget ((i : Int), (j : Int)) (Tx.put st t k n).wr).isSome = (decide (i = t ∧ j = k) || (mget ((i : Int), (j : Int)) st.wr).isSome) := by
  unfold Tx.put
  simp only [mget_mput]
  by_cases e : i = t ∧ j = k
  · rw [if_pos (by rw [e.1, e.2]), decide_eq_true e]
    rfl
  · rw [if_neg (fun e' => e (by have h1 := congrArg Prod.fst e'; have h2 := congrArg Prod.snd e'; simp at h1 h2; omega)), decide_eq_false e]
    rfl
theorem writes_put {st : St} (hw : ∀ t, (st.txs t).writes = wr16 st t) (t k : Nat) (n : Int) (hk : k < 16) : ∀ i, ((Tx.put st t k n).txs i).writes = wr16 (Tx.put st t k n) i := fun i => by
  have e0 : ((Tx.put st t k n).txs i).writes = if i = t then true else (st.txs i).writes := by
    show (if i = t then _ else st.txs i).writes = _
    split <;> rfl
  rw [e0]
  by_cases e : i = t
  · subst e
    rw [if_pos rfl]
    symm
    unfold wr16
    rw [List.any_eq_true]
    exact ⟨k, List.mem_range.2 hk, by rw [mget_put_isSome]; simp⟩
  · rw [if_neg e, hw i]
    unfold wr16
    congr 1
    funext j
    rw [mget_put_isSome, decide_eq_false (fun h => e h.1)]
    rfl
theorem look_facts (st : St) (t k : Nat) : (Tx.look st t k).insts = st.insts ∧ (Tx.look st t k).readers = st.readers ∧ (∀ i, ((Tx.look st t k).txs i).comm = (st.txs i).comm) ∧ (∀ i, ((Tx.look st t k).txs i).over = (st.txs i).over) ∧
    (∀ i, ((Tx.look st t k).txs i).writes = (st.txs i).writes) ∧ (Tx.look st t k).wr = st.wr ∧ ∀ i, ((Tx.look st t k).txs i).inst = (st.txs i).inst := by
  unfold Tx.look
  split
  · exact ⟨rfl, rfl, fun _ => rfl, fun _ => rfl, fun _ => rfl, rfl, fun _ => rfl⟩
  · have tx : ∀ i, (st.setTx t ((st.txs t).setRead k)).txs i = if i = t then (st.txs t).setRead k else st.txs i := fun i => rfl
    refine ⟨rfl, rfl, fun i => ?_, fun i => ?_, fun i => ?_, rfl, fun i => ?_⟩ <;>
    · rw [tx]
      split
      · rename_i e; rw [e]; rfl
      · rfl
theorem XInv.commit {X : XS} {t : Nat} (h : XInv X) (ht : t < 16) (ho : (X.st.txs t).over = false) (hc : (wr16 X.st t && Tx.clash X.st t) = false) : XInv (xcommit X t) := by
  obtain ⟨hm0, hcm0⟩ := h.fresh t ho
  have tx : ∀ (s : St) (b : Bool) i, (s.setTx t { s.txs t with over := true, comm := b }).txs i = if i = t then { s.txs t with over := true, comm := b } else s.txs i := fun _ _ _ => rfl
  cases hwr : wr16 X.st t with
  | false =>
    have hw : (X.st.txs t).writes = false := (h.wr t).trans hwr
    have e : xcommit X t = { st := { X.st.setTx t { X.st.txs t with over := true, comm := true } with readers := X.st.readers ++ [(t : Int)] }, made := X.made, turn := fun i => if i = t then X.commits else X.turn i, commits := X.commits + 1 } := by
      unfold xcommit Tx.commit
      simp only [hw, hwr, Bool.not_false, if_true]
      congr 1
      funext i
      rw [if_neg (fun h => by cases h.2)]
    rw [e]
    have hq : ∀ n p, n < X.commits → qAt { st := { X.st.setTx t { X.st.txs t with over := true, comm := true } with readers := X.st.readers ++ [(t : Int)] }, made := X.made, turn := fun i => if i = t then X.commits else X.turn i, commits := X.commits + 1 } n p = qAt X n p := fun n p hn => by
      unfold qAt
      refine flat_congr _ _ _ fun i _ => ?_
      simp only [tx]
      by_cases ei : i = t
      · subst ei
        have : (X.commits == n) = false := by simp; omega
        simp [hcm0, this]
      · simp only [if_neg ei]
    refine ⟨fun i => ?_, fun i hi => ?_, fun i => h.lt i, h.ne, fun i hi => ?_, h.zero, fun i h1 h2 => h.by_ i h1 h2, ?_⟩
    · exact writes_set h.wr t { X.st.txs t with over := true, comm := true } rfl i
    · simp only [tx] at hi ⊢
      by_cases ei : i = t
      · rw [if_pos ei] at hi; cases hi
      · rw [if_neg ei] at hi ⊢; exact h.fresh i hi
    · simp only [tx] at hi ⊢
      by_cases ei : i = t
      · rw [if_pos ei]; omega
      · rw [if_neg ei] at hi ⊢
        have := h.turn i hi
        omega
    · show X.st.readers ++ [(t : Int)] = (List.range (X.commits + 1)).flatMap _
      rw [List.range_succ, List.flatMap_append, h.rd]
      congr 1
      · exact flat_congr _ _ _ fun n hn => (hq n _ (List.mem_range.1 hn)).symm
      · simp only [List.flatMap_cons, List.flatMap_nil, List.append_nil]
        unfold qAt
        rw [← flat_one 16 t ht]
        refine flat_congr _ _ _ fun i _ => ?_
        simp only [tx]
        by_cases ei : i = t
        · subst ei
          simp [hm0]
        · simp only [if_neg ei]
          cases hci : (X.st.txs i).comm with
          | false => simp
          | true =>
            have := h.turn i hci
            have : (X.turn i == X.commits) = false := by simp; omega
            simp [this]
  | true =>
    have hw : (X.st.txs t).writes = true := (h.wr t).trans hwr
    have hcl : Tx.clash X.st t = false := by rw [hwr] at hc; simpa using hc
    have e : xcommit X t = { st := { X.st.setTx t { X.st.txs t with over := true, comm := true } with insts := X.st.insts ++ [Tx.made X.st t] }, made := fun i => if i = t then X.st.insts.length else X.made i, turn := fun i => if i = t then X.commits else X.turn i, commits := X.commits + 1 } := by
      unfold xcommit Tx.commit
      simp only [hw, hwr, hcl, Bool.not_true, Bool.false_eq_true, if_false]
      congr 1
      funext i
      simp
    rw [e]
    have hne := h.ne
    have hq : ∀ n p, qAt { st := { X.st.setTx t { X.st.txs t with over := true, comm := true } with insts := X.st.insts ++ [Tx.made X.st t] }, made := fun i => if i = t then X.st.insts.length else X.made i, turn := fun i => if i = t then X.commits else X.turn i, commits := X.commits + 1 } n p = if n < X.commits then qAt X n p else [] := fun n p => by
      split
      · unfold qAt
        refine flat_congr _ _ _ fun i _ => ?_
        simp only [tx]
        by_cases ei : i = t
        · subst ei
          have : (X.st.insts.length == 0) = false := by simp; exact List.ne_nil_of_length_pos hne
          simp [hcm0, this]
        · simp only [if_neg ei]
      · rename_i hn
        unfold qAt
        rw [List.flatMap_eq_nil_iff]
        intro i _
        simp only [tx]
        by_cases ei : i = t
        · subst ei
          have : (X.st.insts.length == 0) = false := by simp; exact List.ne_nil_of_length_pos hne
          simp [this]
        · simp only [if_neg ei]
          cases hci : (X.st.txs i).comm with
          | false => simp
          | true =>
            have := h.turn i hci
            have : (X.turn i == n) = false := by simp; omega
            simp [this]
    have ins : ∀ i, i < X.st.insts.length → ({ X.st.setTx t { X.st.txs t with over := true, comm := true } with insts := X.st.insts ++ [Tx.made X.st t] } : St).inst i = X.st.inst i := fun i hi => by
      unfold St.inst
      simp only [List.getD_eq_getElem?_getD]
      rw [List.getElem?_append_left hi]
    refine ⟨fun i => ?_, fun i hi => ?_, fun i => ?_, ?_, fun i hi => ?_, ?_, fun i h1 h2 => ?_, ?_⟩
    · exact writes_set h.wr t { X.st.txs t with over := true, comm := true } rfl i
    · simp only [tx] at hi ⊢
      by_cases ei : i = t
      · rw [if_pos ei] at hi; cases hi
      · rw [if_neg ei] at hi ⊢; rw [if_neg ei]; exact h.fresh i hi
    · simp only [List.length_append, List.length_singleton]
      split
      · omega
      · have := h.lt i; omega
    · simp
    · simp only [tx] at hi ⊢
      by_cases ei : i = t
      · rw [if_pos ei]; omega
      · rw [if_neg ei] at hi ⊢
        have := h.turn i hi
        omega
    · rw [ins 0 hne]; exact h.zero
    · simp only [List.length_append, List.length_singleton] at h2
      by_cases ei : i = X.st.insts.length
      · have e1 : ({ X.st.setTx t { X.st.txs t with over := true, comm := true } with insts := X.st.insts ++ [Tx.made X.st t] } : St).inst i = Tx.made X.st t := by
          unfold St.inst
          simp only [List.getD_eq_getElem?_getD]
          rw [ei, List.getElem?_append_right (Nat.le_refl _)]
          simp
        rw [e1]
        have e2 : (Tx.made X.st t).by_ = (t : Int) := rfl
        rw [e2]
        refine ⟨by omega, ?_⟩
        unfold xmade
        rw [← flat_one 16 t ht]
        refine flat_congr _ _ _ fun j _ => ?_
        dsimp only
        by_cases ej : j = t
        · subst ej
          simp [ei]
        · simp only [if_neg ej]
          have := h.lt j
          have : (X.made j == i) = false := by simp; omega
          simp [this]
      · have hlt : i < X.st.insts.length := by omega
        rw [ins i hlt]
        obtain ⟨g1, g2⟩ := h.by_ i h1 hlt
        refine ⟨g1, ?_⟩
        rw [← g2]
        unfold xmade
        refine flat_congr _ _ _ fun j _ => ?_
        dsimp only
        by_cases ej : j = t
        · subst ej
          have n1 : (X.st.insts.length == i) = false := by simp; omega
          have n2 : (X.made j == i) = false := by rw [hm0]; simp; omega
          simp [n1, n2]
        · simp only [if_neg ej]
    · show X.st.readers = (List.range (X.commits + 1)).flatMap _
      rw [List.range_succ, List.flatMap_append, h.rd]
      simp only [List.flatMap_cons, List.flatMap_nil, List.append_nil, hq]
      rw [if_neg (Nat.lt_irrefl _), List.append_nil]
      exact flat_congr _ _ _ fun n hn => by rw [if_pos (List.mem_range.1 hn)]
theorem XInv.step {X : XS} (h : XInv X) (o : Tx.Op) : XInv (xstep X o) := by
  unfold xstep
  split
  · rename_i hC
    unfold isC at hC
    simp only [Bool.and_eq_true, decide_eq_true_eq, Bool.not_eq_true'] at hC
    obtain ⟨⟨⟨⟨h1, h2⟩, h3⟩, h4⟩, h5⟩ := hC
    have ht : 0 ≤ o.t ∧ o.t ≤ 15 := by
      simp only [fits, Tx.within, Bool.and_eq_true, decide_eq_true_eq] at h2
      exact h2.1.1
    refine h.commit (by omega) ?_ h5
    unfold Txn.live at h4
    simp only [Bool.and_eq_true, Bool.not_eq_true'] at h4
    exact h4.2
  · rename_i hC
    have same : XInv { X with st := X.st } := h
    have setx : ∀ (t : Nat) (x : Txn), x.writes = (X.st.txs t).writes → x.comm = (X.st.txs t).comm → ((X.st.txs t).over = true → x.over = true) → XInv { X with st := X.st.setTx t x } := fun t x hw hc ho =>
      h.other rfl rfl (fun i => by
        show (if i = t then x else X.st.txs i).comm = _
        split
        · rename_i e; rw [e]; exact hc
        · rfl) (fun i hi => by
        show (if i = t then x else X.st.txs i).over = _
        split
        · rename_i e; rw [e] at hi; exact ho hi
        · exact hi) (writes_set h.wr t x hw)
    unfold Tx.step
    split
    · exact same
    · rename_i hd
      split
      · exact same
      · rename_i hf
        have hd2 : Tx.within o.d 0 5 = true := by simpa using hd
        have hf2 : fits o = true := by simpa using hf
        unfold does
        simp only
        split
        · unfold begin_
          split
          · exact same
          · exact setx _ _ rfl rfl (fun h => h)
        · split
          · exact same
          · rename_i hl
            have hl2 : (X.st.txs o.t.toNat).live = true := by simpa using hl
            obtain ⟨k1, k2, k3, k4, k5, k6, _⟩ := look_facts X.st o.t.toNat o.k.toNat
            have hwl : ∀ t, ((Tx.look X.st o.t.toNat o.k.toNat).txs t).writes = wr16 (Tx.look X.st o.t.toNat o.k.toNat) t := fun t => by
              rw [k5, h.wr t]; unfold wr16; rw [k6]
            have put_tx : ∀ (s : St) (t k : Nat) (n : Int) i, (Tx.put s t k n).txs i = if i = t then { s.txs t with writes := true } else s.txs i := fun _ _ _ _ _ => rfl
            have hkey : keyed o.d = true → o.k.toNat < 16 := fun hk => by
              simp only [fits, Tx.within, hk, Bool.and_eq_true, Bool.not_true, Bool.false_or, decide_eq_true_eq] at hf2
              omega
            split
            · exact h.other k1 k2 k3 (fun t ht => (k4 t).trans ht) hwl
            · split
              · rename_i e
                refine h.other rfl rfl (fun i => ?_) (fun i hi => ?_) (writes_put h.wr _ _ _ (hkey (by rw [e]; rfl)))
                · rw [put_tx]
                  split
                  · rename_i e2; rw [e2]
                  · rfl
                · rw [put_tx]
                  split
                  · rename_i e2; rw [e2] at hi; exact hi
                  · exact hi
              · split
                · rename_i e
                  refine h.other k1 k2 (fun i => ?_) (fun i hi => ?_) (writes_put hwl _ _ _ (hkey (by rw [e]; rfl)))
                  · rw [put_tx]
                    split
                    · rename_i e2; rw [e2]; exact k3 _
                    · exact k3 _
                  · rw [put_tx]
                    split
                    · rename_i e2; rw [e2] at hi; exact (k4 _).trans hi
                    · exact (k4 _).trans hi
                · split
                  · rename_i e
                    have hcl : (wr16 X.st o.t.toNat && Tx.clash X.st o.t.toNat) = true := by
                      unfold isC at hC
                      rw [hd2, hf2, hl2, decide_eq_true e] at hC
                      simpa using hC
                    simp only [Bool.and_eq_true] at hcl
                    unfold Tx.commit
                    simp only [(h.wr _).trans hcl.1, hcl.2, Bool.not_true, Bool.false_eq_true, if_false, if_true]
                    exact setx _ _ ((h.wr _).trans hcl.1).symm rfl (fun _ => rfl)
                  · exact setx _ _ rfl rfl (fun _ => rfl)
theorem XInv.run (l : List Tx.Op) : ∀ {X : XS}, XInv X → XInv (xrun X l) := by
  induction l with
  | nil => intro X h; exact h
  | cons o l ih => intro X h; exact ih (h.step o)
theorem filter_flat {α : Type} (p : Int → Bool) (f : α → List Int) (l : List α) : (l.flatMap f).filter p = l.flatMap fun a => (f a).filter p := by
  induction l with
  | nil => rfl
  | cons a l ih => rw [List.flatMap_cons, List.flatMap_cons, List.filter_append, ih]
theorem XInv.quiet {X : XS} (h : XInv X) (i : Nat) : xquiet X i = X.st.readers.filter fun r => decide ((X.st.txs r.toNat).inst = i) := by
  rw [h.rd, filter_flat]
  unfold xquiet
  refine flat_congr _ _ _ fun n _ => ?_
  unfold qAt
  rw [filter_flat]
  refine flat_congr _ _ _ fun t _ => ?_
  simp only [Bool.and_true]
  by_cases hc : ((X.st.txs t).comm && X.made t == 0 && X.turn t == n) = true
  · rw [hc]
    by_cases hi : (X.st.txs t).inst = i
    · simp [hi]
    · have : ((X.st.txs t).inst == i) = false := by simpa using hi
      simp [hi]
  · have hc2 : ((X.st.txs t).comm && X.made t == 0 && X.turn t == n) = false := by simpa using hc
    rw [hc2]
    simp
/-- The serial order of the reference is that of the store. -/
theorem XInv.serial {X : XS} (h : XInv X) :
    xserial X = (List.range X.st.insts.length).flatMap fun i => (if 0 ≤ (X.st.inst i).by_ then [(X.st.inst i).by_] else []) ++ X.st.readers.filter fun r => decide ((X.st.txs r.toNat).inst = i) := by
  obtain ⟨n, hn⟩ : ∃ n, X.st.insts.length = n + 1 := ⟨X.st.insts.length - 1, by have := h.ne; omega⟩
  unfold xserial
  rw [hn, List.range_succ_eq_map, List.flatMap_cons, h.zero, if_neg (by decide), List.nil_append, h.quiet, List.flatMap_map, Nat.add_sub_cancel]
  congr 1
  refine flat_congr _ _ _ fun i hi => ?_
  have hi2 := List.mem_range.1 hi
  obtain ⟨g1, g2⟩ := h.by_ (i + 1) (by omega) (by omega)
  rw [g2, if_pos g1, h.quiet]
end Go.Proofs.Yteaeflmglppcdaa
