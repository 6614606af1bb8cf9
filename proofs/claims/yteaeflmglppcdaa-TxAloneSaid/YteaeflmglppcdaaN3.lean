/- The plain law of TxSees: what a transaction sees. -/
import Derived.Test.YteaeflmglppcdaaN2
namespace Go.Proofs.Yteaeflmglppcdaa
open Tx
namespace Tx

/-- What stays true of a store. -/
structure Sound (st : St) : Prop where
  ne : 0 < st.insts.length
  inst : ∀ t, (st.txs t).inst < st.insts.length
  begun : ∀ (t : Nat) (k : Int), (mget ((t : Int), k) st.wr).isSome = true → (st.txs t).begun = true
theorem Sound.zero : Sound St.zero := ⟨by decide, fun _ => (by simp [St.zero, Txn.zero]), fun t k h => by simp [St.zero, mget] at h⟩
theorem Sound.setTx {st : St} (h : Sound st) (t : Nat) (x : Txn) (hi : x.inst < st.insts.length) (hb : (st.txs t).begun = true → x.begun = true) : Sound (st.setTx t x) := by
  refine ⟨h.ne, fun i => ?_, fun i k hm => ?_⟩
  · show ((if i = t then x else st.txs i).inst) < st.insts.length
    split
    · exact hi
    · exact h.inst i
  · show (if i = t then x else st.txs i).begun = true
    have := h.begun i k hm
    split
    · rename_i e; subst e; exact hb this
    · exact this
theorem Sound.look_ {st : St} (h : Sound st) (t k : Nat) : Sound (look st t k) := by
  unfold look
  split
  · exact h
  · exact h.setTx t _ (h.inst t) (fun x => x)
theorem Sound.put_ {st : St} (h : Sound st) (t k : Nat) (n : Int) (hb : (st.txs t).begun = true) : Sound (put st t k n) := by
  have h1 := h.setTx t { st.txs t with writes := true } (h.inst t) (fun x => x)
  refine ⟨h.ne, h1.inst, fun i q hm => ?_⟩
  unfold put at hm
  simp only [mget_mput] at hm
  split at hm
  · rename_i e
    have : t = i := by have := congrArg Prod.fst e; simp at this; omega
    subst this
    show (if t = t then _ else st.txs t).begun = true
    rw [if_pos rfl]; exact hb
  · exact h1.begun i q hm
theorem live_begun {x : Txn} (h : x.live = true) : x.begun = true := by
  unfold Txn.live at h
  simp at h
  exact h.1
theorem look_begun (st : St) (t k i : Nat) : ((look st t k).txs i).begun = (st.txs i).begun := by
  unfold look
  split
  · rfl
  · show (if i = t then _ else st.txs i).begun = _
    split
    · rename_i e; subst e; rfl
    · rfl
theorem Sound.step_ {st : St} (h : Sound st) (o : Op) : Sound (step st o).2 := by
  have hk := step_kind st o
  generalize step st o = z at *
  obtain ⟨za, zs⟩ := z
  dsimp only at *
  cases hk with
  | refuse => exact h
  | begin_ => exact h.setTx _ _ (by have := h.ne; show last st < _; unfold last; omega) (fun _ => rfl)
  | read => exact h.look_ _ _
  | write h0 h1 k0 k1 hd hl => exact h.put_ _ _ _ (live_begun hl)
  | add h0 h1 k0 k1 n0 n1 hd hl => exact (h.look_ _ _).put_ _ _ _ (by rw [look_begun]; exact live_begun hl)
  | quiet =>
    have := h.setTx o.t.toNat { st.txs o.t.toNat with over := true, comm := true } (h.inst _) (fun x => x)
    exact ⟨this.ne, this.inst, this.begun⟩
  | clash => exact h.setTx _ _ (h.inst _) (fun x => x)
  | made =>
    have := h.setTx o.t.toNat { st.txs o.t.toNat with over := true, comm := true } (h.inst _) (fun x => x)
    refine ⟨by have := h.ne; rw [List.length_append]; omega, fun i => ?_, this.begun⟩
    rw [List.length_append]
    exact Nat.lt_of_lt_of_le (this.inst i) (Nat.le_add_right _ _)
  | abort => exact h.setTx _ _ (h.inst _) (fun x => x)
theorem at_sound (ops : List Op) : ∀ i, Sound (at_ ops i) := by
  intro i
  induction i with
  | zero => exact Sound.zero
  | succ i ih =>
    cases h : ops[i]? with
    | none =>
      have hle := List.getElem?_eq_none_iff.1 h
      have e : at_ ops (i + 1) = at_ ops i := by
        unfold at_
        rw [List.take_of_length_le (by omega), List.take_of_length_le hle]
      rw [e]; exact ih
    | some o => rw [at_succ h]; exact ih.step_ o

def words16 (st : St) (t : Nat) : List Int := (List.range 16).map (see st t)
/-- The law's notes: for each transaction at work what it sees. -/
structure Sees (st : St) (f : Int → Option (List Int)) : Prop where
  len : ∀ t ws, f t = some ws → ws.length = 16
  live : ∀ t : Nat, (st.txs t).live = true → f t = some (words16 st t)
def updf (f : Int → Option (List Int)) (t : Int) (ws : List Int) : Int → Option (List Int) := fun i => if i = t then some ws else f i
theorem Sees.zero : Sees St.zero (fun _ => none) := ⟨fun _ _ h => (by cases h), fun t h => by simp [St.zero, Txn.zero, Txn.live] at h⟩
theorem see_setTx (st : St) (t : Nat) (x : Txn) (i k : Nat) (hx : i = t → x.inst = (st.txs t).inst) : see (st.setTx t x) i k = see st i k := by
  show (mget ((i : Int), (k : Int)) st.wr).getD ((st.inst ((if i = t then x else st.txs i).inst)).words k) = _
  split
  · rename_i e; subst e; rw [hx rfl]; rfl
  · rfl
theorem words_setTx (st : St) (t : Nat) (x : Txn) (i : Nat) (hx : i = t → x.inst = (st.txs t).inst) : words16 (st.setTx t x) i = words16 st i := by
  unfold words16
  refine List.map_congr_left fun k _ => see_setTx st t x i k hx
theorem live_setTx (st : St) (t : Nat) (x : Txn) (i : Nat) (h : ((st.setTx t x).txs i).live = true) (hx : x.live = true → (st.txs t).live = true) : (st.txs i).live = true := by
  replace h : (if i = t then x else st.txs i).live = true := h
  split at h
  · rename_i e; subst e; exact hx h
  · exact h
/-- A turn of a transaction that ends it, or marks what it read. -/
theorem Sees.setTx {st : St} {f : Int → Option (List Int)} (h : Sees st f) (t : Nat) (x : Txn) (hx : x.inst = (st.txs t).inst) (hl : x.live = true → (st.txs t).live = true) : Sees (st.setTx t x) f :=
  ⟨h.len, fun i hi => by rw [words_setTx st t x i (fun _ => hx)]; exact h.live i (live_setTx st t x i hi hl)⟩
theorem Sees.look_ {st : St} {f : Int → Option (List Int)} (h : Sees st f) (t k : Nat) : Sees (look st t k) f := by
  unfold look
  split
  · exact h
  · exact h.setTx t _ rfl (fun x => x)
theorem see_put (st : St) (t k : Nat) (n : Int) (i q : Nat) : see (put st t k n) i q = if i = t ∧ q = k then n else see st i q := by
  unfold put see
  simp only [mget_mput]
  by_cases h : i = t ∧ q = k
  · obtain ⟨rfl, rfl⟩ := h
    simp
  · rw [if_neg h]
    have : ¬ (((t : Int), (k : Int)) = ((i : Int), (q : Int))) := fun e => h ⟨by have := congrArg Prod.fst e; simp at this; omega, by have := congrArg Prod.snd e; simp at this; omega⟩
    rw [if_neg this]
    congr 1
    show (st.inst ((if i = t then _ else st.txs i).inst)).words q = _
    split
    · rename_i e; subst e; rfl
    · rfl
theorem words_put (st : St) (t k : Nat) (n : Int) (i : Nat) : words16 (put st t k n) i = if i = t then (words16 st t).set k n else words16 st i := by
  unfold words16
  split
  · rename_i e
    subst e
    refine List.ext_getElem (by simp) fun q h1 h2 => ?_
    simp only [List.getElem_map, List.getElem_range, List.getElem_set]
    rw [see_put]
    by_cases e : k = q
    · subst e; simp
    · rw [if_neg (fun h => e h.2.symm), if_neg e]
  · rename_i e
    refine List.map_congr_left fun q _ => ?_
    rw [see_put, if_neg (fun h => e h.1)]
theorem Sees.put_ {st : St} {f : Int → Option (List Int)} (h : Sees st f) (t k : Nat) (n : Int) (hl : (st.txs t).live = true) : Sees (put st t k n) (updf f t ((words16 st t).set k n)) := by
  refine ⟨fun i ws hi => ?_, fun i hi => ?_⟩
  · unfold updf at hi
    split at hi
    · cases hi; simp [words16]
    · exact h.len i ws hi
  · rw [words_put]
    unfold updf
    by_cases e : i = t
    · subst e; simp
    · rw [if_neg e, if_neg (by omega)]
      refine h.live i ?_
      have : ((put st t k n).txs i).live = (st.txs i).live := by
        show (if i = t then _ else st.txs i).live = _
        rw [if_neg e]
      rw [← this]; exact hi
theorem words_look (st : St) (t k i : Nat) : words16 (look st t k) i = words16 st i := by
  unfold look
  split
  · rfl
  · exact words_setTx st t _ i (fun _ => rfl)
theorem look_live (st : St) (t k i : Nat) : ((look st t k).txs i).live = (st.txs i).live := by
  unfold look
  split
  · rfl
  · show (if i = t then _ else st.txs i).live = _
    split
    · rename_i e; subst e; rfl
    · rfl
theorem Sees.more {st : St} {f : Int → Option (List Int)} (h : Sees st f) (hs : Sound st) (x : Inst) (r : List Int) : Sees { st with insts := st.insts ++ [x], readers := r } f := by
  refine ⟨h.len, fun i hi => ?_⟩
  rw [h.live i hi]
  congr 1
  unfold words16
  refine List.map_congr_left fun k _ => ?_
  unfold see St.inst
  rw [List.getD_eq_getElem?_getD, List.getD_eq_getElem?_getD, List.getElem?_append_left (hs.inst i)]

section
variable {ops : List Op} {i : Nat} {o : Op} {a : Ans} {f : Int → Option (List Int)}
theorem sees_error (h : Sees (at_ ops i) f) (ho : ops[i]? = some o) (ha : (ans ops)[i]? = some a) (he : a.e ≠ 0) : Sees (at_ ops (i + 1)) f := by
  rw [ans_at ho] at ha
  cases ha
  rw [at_succ ho]
  have hk := step_kind (at_ ops i) o
  generalize step (at_ ops i) o = z at *
  obtain ⟨za, zs⟩ := z
  dsimp only at *
  cases hk with
  | refuse => exact h
  | clash => exact h.setTx _ _ rfl (fun x => by simp [Txn.live] at x)
  | begin_ => exact absurd rfl he
  | read => exact absurd rfl he
  | write => exact absurd rfl he
  | add => exact absurd rfl he
  | quiet => exact absurd rfl he
  | made => exact absurd rfl he
  | abort => exact absurd rfl he
theorem sees_end (h : Sees (at_ ops i) f) (ho : ops[i]? = some o) (ha : (ans ops)[i]? = some a) (hd : o.d ≠ 0 ∧ o.d ≠ 1 ∧ o.d ≠ 2 ∧ o.d ≠ 3) : Sees (at_ ops (i + 1)) f := by
  by_cases he : a.e ≠ 0
  · exact sees_error h ho ha he
  · rw [ans_at ho] at ha
    cases ha
    rw [at_succ ho]
    have hs := at_sound ops i
    have hk := step_kind (at_ ops i) o
    generalize step (at_ ops i) o = z at *
    obtain ⟨za, zs⟩ := z
    dsimp only at *
    cases hk with
    | refuse e h => exact absurd h he
    | clash => exact absurd (by decide) he
    | begin_ => exact absurd (by assumption) hd.1
    | read => exact absurd (by assumption) hd.2.1
    | write => exact absurd (by assumption) hd.2.2.1
    | add => exact absurd (by assumption) hd.2.2.2
    | quiet =>
      have := h.setTx o.t.toNat { (at_ ops i).txs o.t.toNat with over := true, comm := true } rfl (fun x => by simp [Txn.live] at x)
      exact ⟨this.len, this.live⟩
    | made =>
      have h1 := h.setTx o.t.toNat { (at_ ops i).txs o.t.toNat with over := true, comm := true } rfl (fun x => by simp [Txn.live] at x)
      have h2 := hs.setTx o.t.toNat { (at_ ops i).txs o.t.toNat with over := true, comm := true } (hs.inst _) (fun x => x)
      exact h1.more h2 _ _
    | abort => exact h.setTx _ _ rfl (fun x => by simp [Txn.live] at x)
theorem sees_begin (h : Sees (at_ ops i) f) (ho : ops[i]? = some o) (ha : (ans ops)[i]? = some a) (he : a.e = 0) (hd : o.d = 0) :
    ∃ n : Nat, a.n = n ∧ n < (run St.zero ops).2.insts.length ∧ Sees (at_ ops (i + 1)) (updf f o.t ((List.range 16).map ((run St.zero ops).2.inst n).words)) := by
  have hi := (List.getElem?_eq_some_iff.1 ho).1
  have hne := at_ne ops i
  have hst := inst_stays ops (i := i) (m := last (at_ ops i)) (by omega) (by unfold last; omega)
  have hle : (at_ ops i).insts.length ≤ (run St.zero ops).2.insts.length := by
    have := (insts_stay ops i ops.length (by omega) (Nat.le_refl _)).length_le
    rwa [at_all] at this
  rw [ans_at ho] at ha
  cases ha
  rw [at_succ ho]
  have hs := at_sound ops i
  have hk := step_kind (at_ ops i) o
  generalize step (at_ ops i) o = z at *
  obtain ⟨za, zs⟩ := z
  dsimp only at *
  cases hk with
  | refuse e h => exact absurd he h
  | clash => exact absurd he (by decide)
  | begin_ h0 h1 _ hb =>
    refine ⟨last (at_ ops i), rfl, by unfold last; omega, fun t ws ht => ?_, fun t ht => ?_⟩
    · unfold updf at ht
      split at ht
      · cases ht; simp
      · exact h.len t ws ht
    · unfold updf
      by_cases e : t = o.t.toNat
      · rw [if_pos (by omega)]
        congr 1
        unfold words16
        refine List.map_congr_left fun k _ => ?_
        unfold see
        have hm : mget ((t : Int), (k : Int)) (at_ ops i).wr = none := by
          cases hm : mget ((t : Int), (k : Int)) (at_ ops i).wr with
          | none => rfl
          | some v =>
            have := hs.begun t k (by rw [hm]; rfl)
            rw [e, hb] at this
            cases this
        show _ = (mget ((t : Int), (k : Int)) (at_ ops i).wr).getD (((at_ ops i).inst ((if t = o.t.toNat then _ else (at_ ops i).txs t).inst)).words k)
        rw [hm, if_pos e, hst]
        rfl
      · rw [if_neg (by omega), words_setTx _ _ _ _ (fun e' => absurd e' e)]
        refine h.live t ?_
        have : (((at_ ops i).setTx o.t.toNat { (at_ ops i).txs o.t.toNat with begun := true, inst := last (at_ ops i) }).txs t) = (at_ ops i).txs t := by
          show (if t = o.t.toNat then _ else (at_ ops i).txs t) = _
          rw [if_neg e]
        rw [this] at ht
        exact ht
  | read => omega
  | write => omega
  | add => omega
  | quiet => omega
  | made => omega
  | abort => omega
theorem sees_read (h : Sees (at_ ops i) f) (ho : ops[i]? = some o) (ha : (ans ops)[i]? = some a) (he : a.e = 0) (hd : o.d = 1) :
    ∃ ws, f o.t = some ws ∧ 0 ≤ o.k ∧ o.k ≤ 15 ∧ ws[o.k.toNat]? = some a.n ∧ Sees (at_ ops (i + 1)) f := by
  rw [ans_at ho] at ha
  cases ha
  rw [at_succ ho]
  have hk := step_kind (at_ ops i) o
  generalize step (at_ ops i) o = z at *
  obtain ⟨za, zs⟩ := z
  dsimp only at *
  cases hk with
  | refuse e h => exact absurd he h
  | clash => exact absurd he (by decide)
  | read h0 h1 k0 k1 hd hl =>
    have := h.live o.t.toNat hl
    rw [show ((o.t.toNat : Nat) : Int) = o.t by omega] at this
    refine ⟨_, this, k0, k1, ?_, h.look_ _ _⟩
    unfold words16
    rw [List.getElem?_map, List.getElem?_range (by omega)]
    rfl
  | begin_ => omega
  | write => omega
  | add => omega
  | quiet => omega
  | made => omega
  | abort => omega
theorem sees_write (h : Sees (at_ ops i) f) (ho : ops[i]? = some o) (ha : (ans ops)[i]? = some a) (he : a.e = 0) (hd : o.d = 2) :
    ∃ ws, f o.t = some ws ∧ 0 ≤ o.k ∧ o.k ≤ 15 ∧ Sees (at_ ops (i + 1)) (updf f o.t (ws.set o.k.toNat o.n)) := by
  rw [ans_at ho] at ha
  cases ha
  rw [at_succ ho]
  have hk := step_kind (at_ ops i) o
  generalize step (at_ ops i) o = z at *
  obtain ⟨za, zs⟩ := z
  dsimp only at *
  cases hk with
  | refuse e h => exact absurd he h
  | clash => exact absurd he (by decide)
  | write h0 h1 k0 k1 hd hl =>
    have h2 := h.live o.t.toNat hl
    have e : ((o.t.toNat : Nat) : Int) = o.t := by omega
    rw [e] at h2
    refine ⟨_, h2, k0, k1, ?_⟩
    have h3 := h.put_ o.t.toNat o.k.toNat o.n hl
    rw [e] at h3
    exact h3
  | begin_ => omega
  | read => omega
  | add => omega
  | quiet => omega
  | made => omega
  | abort => omega
theorem sees_add (h : Sees (at_ ops i) f) (ho : ops[i]? = some o) (ha : (ans ops)[i]? = some a) (he : a.e = 0) (hd : o.d = 3) :
    ∃ ws x, f o.t = some ws ∧ 0 ≤ o.k ∧ o.k ≤ 15 ∧ ws[o.k.toNat]? = some x ∧ a.n = w32 (x + o.n) ∧ Sees (at_ ops (i + 1)) (updf f o.t (ws.set o.k.toNat (w32 (x + o.n)))) := by
  rw [ans_at ho] at ha
  cases ha
  rw [at_succ ho]
  have hk := step_kind (at_ ops i) o
  generalize step (at_ ops i) o = z at *
  obtain ⟨za, zs⟩ := z
  dsimp only at *
  cases hk with
  | refuse e h => exact absurd he h
  | clash => exact absurd he (by decide)
  | add h0 h1 k0 k1 n0 n1 hd hl =>
    have h2 := h.live o.t.toNat hl
    have e : ((o.t.toNat : Nat) : Int) = o.t := by omega
    rw [e] at h2
    refine ⟨_, see (at_ ops i) o.t.toNat o.k.toNat, h2, k0, k1, ?_, rfl, ?_⟩
    · unfold words16
      rw [List.getElem?_map, List.getElem?_range (by omega)]
      rfl
    · have h3 := (h.look_ o.t.toNat o.k.toNat).put_ o.t.toNat o.k.toNat (w32 (see (at_ ops i) o.t.toNat o.k.toNat + o.n)) (by rw [look_live]; exact hl)
      rw [words_look, e] at h3
      exact h3
  | begin_ => omega
  | read => omega
  | write => omega
  | quiet => omega
  | made => omega
  | abort => omega
end
end Tx
end Go.Proofs.Yteaeflmglppcdaa
