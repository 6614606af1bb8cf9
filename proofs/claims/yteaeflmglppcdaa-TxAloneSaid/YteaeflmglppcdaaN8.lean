/- The plain law of TxLoses: what the notes of its first loop say; those that read and write a key; the serial order. -/
import Derived.Test.YteaeflmglppcdaaN6
namespace Go.Proofs.Yteaeflmglppcdaa
open Tx
namespace Tx

theorem step_ten (st : St) (o : Op) (h : (step st o).1.e = 10) : o.d = 4 := by
  unfold step at h
  split at h
  · cases h
  · split at h
    · cases h
    · unfold does at h
      dsimp only at h
      split at h
      · unfold Tx.begin_ at h
        split at h <;> cases h
      · split at h
        · cases h
        · split at h
          · cases h
          · split at h
            · cases h
            · split at h
              · cases h
              · split at h
                · rename_i hd; exact hd
                · cases h
/-- What the notes say, but for those of the commits. -/
structure LCore (st : St) (I : List (Int × Int)) (W : List (Int × Bool)) (C : List (Int × Int)) (done : Nat) : Prop where
  inst : ∀ T : Nat, (st.txs T).begun = true → mget (T : Int) I = some ((st.txs T).inst : Int)
  wrote : ∀ T : Nat, (st.txs T).writes = true → mget (T : Int) W = some true
  first : (st.inst 0).by_ = -1
  made : ∀ m, 0 < m → m < st.insts.length → ∃ T : Nat, (st.inst m).by_ = (T : Int) ∧ (st.txs T).over = true ∧ (st.txs T).begun = true ∧ (st.txs T).inst < m ∧
    (∀ k, k < 16 → (st.txs T).read k = true → ∀ i, (st.txs T).inst < i → i < m → (st.inst i).wrote k = false) ∧
    (∀ k : Nat, (st.inst m).wrote k = (mget ((T : Int), (k : Int)) st.wr).isSome) ∧ mget (T : Int) C = some (m : Int)
  rdr : ∀ r ∈ st.readers, ∃ T : Nat, r = (T : Int) ∧ (st.txs T).over = true ∧ (st.txs T).begun = true ∧ mget (T : Int) C = some 0
  done : done + 1 = st.insts.length + st.readers.length
def Com (st : St) (C : List (Int × Int)) : Prop := ∀ t n, mget t C = some n → n = 0 ∨ ∃ m : Nat, n = (m : Int) ∧ 0 < m ∧ m < st.insts.length ∧ (st.inst m).by_ = t
theorem LCore.zero : LCore St.zero [] [] [] 0 where
  inst := fun T h => by simp [St.zero, Txn.zero] at h
  wrote := fun T h => by simp [St.zero, Txn.zero] at h
  first := rfl
  made := fun m h0 h1 => by simp [St.zero] at h1; omega
  rdr := fun r hr => by simp [St.zero] at hr
  done := rfl
theorem Com.zero (st : St) : Com st [] := fun t n h => by simp [mget] at h
section
variable {st : St} {I : List (Int × Int)} {W : List (Int × Bool)} {C : List (Int × Int)} {d : Nat}
/-- A transaction that is not over, or has not begun, is not in the notes of the commits. -/
theorem LCore.note (h : LCore st I W C d) (T : Nat) (hT : (st.txs T).over = false ∨ (st.txs T).begun = false) (v : Int) : LCore st I W (mput (T : Int) v C) d := by
  have hne : ∀ T' : Nat, (st.txs T').over = true → (st.txs T').begun = true → (T : Int) ≠ (T' : Int) := fun T' h1 h2 e => by
    have : T = T' := by omega
    subst this
    rcases hT with hT | hT
    · rw [hT] at h1; cases h1
    · rw [hT] at h2; cases h2
  refine ⟨h.inst, h.wrote, h.first, fun m h0 hm => ?_, fun r hr => ?_, h.done⟩
  · obtain ⟨T', a1, a2, a3, a4, a5, a6, a7⟩ := h.made m h0 hm
    exact ⟨T', a1, a2, a3, a4, a5, a6, by rw [mget_mput, if_neg (hne T' a2 a3)]; exact a7⟩
  · obtain ⟨T', a1, a2, a3, a4⟩ := h.rdr r hr
    exact ⟨T', a1, a2, a3, by rw [mget_mput, if_neg (hne T' a2 a3)]; exact a4⟩
/-- One transaction, that is not over or has not begun, goes on. -/
theorem LCore.move (h : LCore st I W C d) (T : Nat) (hT : (st.txs T).over = false ∨ (st.txs T).begun = false) {st' : St} {I' : List (Int × Int)} {W' : List (Int × Bool)}
    (e1 : st'.insts = st.insts) (e2 : st'.readers = st.readers) (e3 : ∀ i, i ≠ T → st'.txs i = st.txs i) (e4 : ∀ (t : Nat) (k : Int), t ≠ T → mget ((t : Int), k) st'.wr = mget ((t : Int), k) st.wr)
    (hI : (st'.txs T).begun = true → mget (T : Int) I' = some ((st'.txs T).inst : Int)) (hI2 : ∀ i : Nat, i ≠ T → mget (i : Int) I' = mget (i : Int) I)
    (hW : (st'.txs T).writes = true → mget (T : Int) W' = some true) (hW2 : ∀ i : Nat, i ≠ T → mget (i : Int) W' = mget (i : Int) W) : LCore st' I' W' C d := by
  have hne : ∀ T' : Nat, (st.txs T').over = true → (st.txs T').begun = true → T' ≠ T := fun T' h1 h2 e => by
    subst e
    rcases hT with hT | hT
    · rw [hT] at h1; cases h1
    · rw [hT] at h2; cases h2
  have ei : ∀ m, st'.inst m = st.inst m := fun m => by unfold St.inst; rw [e1]
  refine ⟨fun t ht => ?_, fun t ht => ?_, by rw [ei]; exact h.first, fun m h0 hm => ?_, fun r hr => ?_, by rw [e1, e2]; exact h.done⟩
  · by_cases e : t = T
    · subst e; exact hI ht
    · rw [e3 t e] at ht ⊢
      rw [hI2 t e]; exact h.inst t ht
  · by_cases e : t = T
    · subst e; exact hW ht
    · rw [e3 t e] at ht
      rw [hW2 t e]; exact h.wrote t ht
  · rw [e1] at hm
    obtain ⟨T', a1, a2, a3, a4, a5, a6, a7⟩ := h.made m h0 hm
    have e := hne T' a2 a3
    refine ⟨T', by rw [ei]; exact a1, by rw [e3 _ e]; exact a2, by rw [e3 _ e]; exact a3, by rw [e3 _ e]; exact a4, fun k hk hr i h1 h2 => ?_, fun k => by rw [ei, e4 _ _ e]; exact a6 k, a7⟩
    rw [e3 _ e] at hr h1
    rw [ei]; exact a5 k hk hr i h1 h2
  · rw [e2] at hr
    obtain ⟨T', a1, a2, a3, a4⟩ := h.rdr r hr
    have e := hne T' a2 a3
    exact ⟨T', a1, by rw [e3 _ e]; exact a2, by rw [e3 _ e]; exact a3, a4⟩
theorem LCore.reader (h : LCore st I W C d) (T : Nat) (h1 : (st.txs T).over = true) (h2 : (st.txs T).begun = true) (h3 : mget (T : Int) C = some 0) : LCore { st with readers := st.readers ++ [(T : Int)] } I W C (d + 1) := by
  refine ⟨h.inst, h.wrote, h.first, h.made, fun r hr => ?_, by have := h.done; simp only [List.length_append, List.length_singleton]; omega⟩
  rcases List.mem_append.1 hr with hr | hr
  · exact h.rdr r hr
  · exact ⟨T, by simpa using hr, h1, h2, h3⟩
theorem inst_old (st : St) (X : Inst) (m : Nat) (hm : m < st.insts.length) : ({ st with insts := st.insts ++ [X] } : St).inst m = st.inst m := by
  unfold St.inst
  rw [List.getD_eq_getElem?_getD, List.getD_eq_getElem?_getD, List.getElem?_append_left hm]
theorem inst_new (st : St) (X : Inst) : ({ st with insts := st.insts ++ [X] } : St).inst st.insts.length = X := by
  unfold St.inst
  rw [List.getD_eq_getElem?_getD, List.getElem?_append_right (Nat.le_refl _)]
  simp
theorem LCore.more (h : LCore st I W C d) (hne : 0 < st.insts.length) (T : Nat) (X : Inst) (h1 : (st.txs T).over = true) (h2 : (st.txs T).begun = true) (h3 : mget (T : Int) C = some (st.insts.length : Int))
    (h4 : (st.txs T).inst < st.insts.length) (h5 : ∀ k, k < 16 → (st.txs T).read k = true → ∀ i, (st.txs T).inst < i → i < st.insts.length → (st.inst i).wrote k = false)
    (h6 : X.by_ = (T : Int)) (h7 : ∀ k : Nat, X.wrote k = (mget ((T : Int), (k : Int)) st.wr).isSome) : LCore { st with insts := st.insts ++ [X] } I W C (d + 1) := by
  have hlen : (st.insts ++ [X]).length = st.insts.length + 1 := by simp
  refine ⟨h.inst, h.wrote, by rw [inst_old st X 0 hne]; exact h.first, fun m h0 hm => ?_, h.rdr, by have := h.done; show d + 1 + 1 = (st.insts ++ [X]).length + _; rw [hlen]; show d + 1 + 1 = st.insts.length + 1 + st.readers.length; omega⟩
  replace hm : m < (st.insts ++ [X]).length := hm
  rw [hlen] at hm
  rcases Nat.lt_or_ge m st.insts.length with hlt | hge
  · obtain ⟨T', a1, a2, a3, a4, a5, a6, a7⟩ := h.made m h0 hlt
    refine ⟨T', by rw [inst_old st X m hlt]; exact a1, a2, a3, a4, fun k hk hr i q1 q2 => ?_, fun k => by rw [inst_old st X m hlt]; exact a6 k, a7⟩
    rw [inst_old st X i (by omega)]
    exact a5 k hk hr i q1 q2
  · obtain rfl : m = st.insts.length := by omega
    refine ⟨T, by rw [inst_new]; exact h6, h1, h2, h4, fun k hk hr i q1 q2 => ?_, fun k => by rw [inst_new]; exact h7 k, h3⟩
    rw [inst_old st X i q2]
    exact h5 k hk hr i q1 q2
theorem Com.put0 (h : Com st C) (T : Int) : Com st (mput T 0 C) := fun t n hm => by
  rw [mget_mput] at hm
  split at hm
  · cases hm; exact .inl rfl
  · exact h t n hm
theorem Com.more (h : Com st C) (X : Inst) : Com { st with insts := st.insts ++ [X] } (mput X.by_ (st.insts.length : Int) C) := fun t n hm => by
  rw [mget_mput] at hm
  split at hm
  · cases hm
    rename_i e
    by_cases h0 : st.insts.length = 0
    · left; omega
    · right
      exact ⟨st.insts.length, rfl, by omega, by show _ < (st.insts ++ [X]).length; simp, by rw [inst_new]; exact e⟩
  · rcases h t n hm with h1 | ⟨m, a1, a2, a3, a4⟩
    · exact .inl h1
    · exact .inr ⟨m, a1, a2, by show _ < (st.insts ++ [X]).length; simp; omega, by rw [inst_old st X m a3]; exact a4⟩
theorem Com.same (h : Com st C) {st' : St} (e : st'.insts = st.insts) : Com st' C := fun t n hm => by
  rcases h t n hm with h1 | ⟨m, a1, a2, a3, a4⟩
  · exact .inl h1
  · exact .inr ⟨m, a1, a2, by rw [e]; exact a3, by unfold St.inst at a4 ⊢; rw [e]; exact a4⟩
/-- What the notes say. -/
structure LInv (st : St) (I : List (Int × Int)) (W : List (Int × Bool)) (C : List (Int × Int)) (d : Nat) : Prop where
  core : LCore st I W C d
  com : Com st C
theorem LInv.zero : LInv St.zero [] [] [] 0 := ⟨LCore.zero, Com.zero _⟩
/-- A transaction at work goes on, and the notes stay. -/
theorem LInv.turn (h : LInv st I W C d) (T : Nat) (x : Txn) (hl : (st.txs T).live = true) (xb : x.begun = true) (xi : x.inst = (st.txs T).inst) (xw : x.writes = (st.txs T).writes) : LInv (st.setTx T x) I W C d :=
  ⟨h.core.move T (.inl (live_over hl)) rfl rfl (fun i hi => by rw [setTx_txs, if_neg hi]) (fun _ _ _ => rfl)
    (fun _ => by rw [setTx_txs, if_pos rfl, xi]; exact h.core.inst T (live_begun hl)) (fun _ _ => rfl) (fun hw => by rw [setTx_txs, if_pos rfl, xw] at hw; exact h.core.wrote T hw) (fun _ _ => rfl), h.com.same rfl⟩
theorem LInv.look_ (h : LInv st I W C d) (T K : Nat) (hl : (st.txs T).live = true) : LInv (look st T K) I W C d := by
  unfold look
  split
  · exact h
  · exact h.turn T _ hl (show (st.txs T).begun = true from live_begun hl) rfl rfl
theorem LInv.put_ (h : LInv st I W C d) (T K : Nat) (n : Int) (hl : (st.txs T).live = true) : LInv (put st T K n) I (mput (T : Int) true W) C d := by
  refine ⟨h.core.move T (.inl (live_over hl)) rfl rfl (fun i hi => ?_) (fun t k ht => ?_) (fun _ => ?_) (fun _ _ => rfl) (fun _ => by rw [mget_mput, if_pos rfl]) (fun i hi => by rw [mget_mput, if_neg (by omega)]), h.com.same rfl⟩
  · show (st.setTx T _).txs i = _
    rw [setTx_txs, if_neg hi]
  · unfold put
    simp only [mget_mput]
    rw [if_neg (fun e => ht (by have := congrArg Prod.fst e; simp at this; omega))]
  · have e : (put st T K n).txs T = { st.txs T with writes := true } := by show (st.setTx T _).txs T = _; rw [setTx_txs, if_pos rfl]
    rw [e]
    exact h.core.inst T (live_begun hl)
theorem LInv.begins (h : LInv st I W C d) (hs : Sound st) (T : Nat) (hb : (st.txs T).begun = false) (hw0 : (st.txs T).writes = false) :
    LInv (st.setTx T { st.txs T with begun := true, inst := last st }) (mput (T : Int) (last st : Int) I) W C d :=
  ⟨h.core.move T (.inr hb) rfl rfl (fun i hi => by rw [setTx_txs, if_neg hi]) (fun _ _ _ => rfl) (fun _ => by rw [mget_mput, if_pos rfl, setTx_txs, if_pos rfl]) (fun i hi => by rw [mget_mput, if_neg (by omega)])
    (fun hw => by rw [setTx_txs, if_pos rfl] at hw; replace hw : (st.txs T).writes = true := hw; rw [hw0] at hw; cases hw) (fun _ _ => rfl), h.com.same rfl⟩
theorem LInv.quiets (h : LInv st I W C d) (T : Nat) (hl : (st.txs T).live = true) :
    LInv { st.setTx T { st.txs T with over := true, comm := true } with readers := st.readers ++ [(T : Int)] } I W (mput (T : Int) 0 C) (d + 1) := by
  have h1 : LInv st I W (mput (T : Int) 0 C) d := ⟨h.core.note T (.inl (live_over hl)) 0, h.com.put0 T⟩
  have h2 := h1.turn T { st.txs T with over := true, comm := true } hl (show (st.txs T).begun = true from live_begun hl) rfl rfl
  exact ⟨h2.core.reader T (by rw [setTx_txs, if_pos rfl]) (by rw [setTx_txs, if_pos rfl]; exact (live_begun hl : (st.txs T).begun = true)) (by rw [mget_mput, if_pos rfl]), h2.com.same rfl⟩
theorem LInv.makes (h : LInv st I W C d) (hs : Sound st) (T : Nat) (hl : (st.txs T).live = true) (hc : clash st T = false) :
    LInv { st.setTx T { st.txs T with over := true, comm := true } with insts := st.insts ++ [Tx.made st T] } I W (mput (T : Int) (st.insts.length : Int) C) (d + 1) := by
  have h1 : LCore st I W (mput (T : Int) (st.insts.length : Int) C) d := h.core.note T (.inl (live_over hl)) _
  have h2 := h1.move T (.inl (live_over hl)) (st' := st.setTx T { st.txs T with over := true, comm := true }) (I' := I) (W' := W) rfl rfl (fun i hi => by rw [setTx_txs, if_neg hi]) (fun _ _ _ => rfl)
    (fun _ => by rw [setTx_txs, if_pos rfl]; exact h.core.inst T (live_begun hl)) (fun _ _ => rfl) (fun hw => by rw [setTx_txs, if_pos rfl] at hw; exact h.core.wrote T hw) (fun _ _ => rfl)
  have hbeh : ∀ k, k < 16 → (st.txs T).read k = true → ∀ i, (st.txs T).inst < i → i < st.insts.length → (st.inst i).wrote k = false := fun k hk hr i h2 h3 => by
    unfold clash at hc
    have := List.any_eq_false.1 hc k (by simpa using hk)
    simp only [hr, Bool.true_and] at this
    unfold behind at this
    simp at this
    exact this i h3 h2
  refine ⟨h2.more hs.ne T (Tx.made st T) (by rw [setTx_txs, if_pos rfl]) (by rw [setTx_txs, if_pos rfl]; exact (live_begun hl : (st.txs T).begun = true)) (by rw [mget_mput, if_pos rfl]; rfl) (by rw [setTx_txs, if_pos rfl]; exact hs.inst T)
    (fun k hk hr => by rw [setTx_txs, if_pos rfl] at hr ⊢; exact hbeh k hk hr) rfl (fun k => rfl), ?_⟩
  exact (h.com.same (st' := st.setTx T { st.txs T with over := true, comm := true }) rfl).more (Tx.made st T)
end
/-- What writes has begun. -/
theorem writes_begun (ops : List Op) : ∀ i, ∀ T : Nat, ((at_ ops i).txs T).begun = false → ((at_ ops i).txs T).writes = false := by
  intro i
  induction i with
  | zero => intro T _; rfl
  | succ i ih =>
    intro T hT
    rcases Nat.lt_or_ge i ops.length with hi | hi
    · have ho : ops[i]? = some ops[i] := List.getElem?_eq_getElem hi
      rw [at_succ ho] at hT ⊢
      have hk := step_kind (at_ ops i) ops[i]
      generalize step (at_ ops i) ops[i] = z at *
      obtain ⟨za, zs⟩ := z
      dsimp only at *
      have gen : ∀ (Q : Nat) (x : Txn), (x.begun = true ∨ (x.begun = ((at_ ops i).txs Q).begun ∧ x.writes = ((at_ ops i).txs Q).writes)) → (((at_ ops i).setTx Q x).txs T).begun = false → (((at_ ops i).setTx Q x).txs T).writes = false := by
        intro Q x hx hb
        rw [setTx_txs] at hb ⊢
        split at hb
        · rename_i e
          rw [if_pos e]
          rcases hx with hx | ⟨h1, h2⟩
          · rw [hx] at hb; cases hb
          · subst e; rw [h2]; exact ih T (by rw [← h1]; exact hb)
        · rename_i e
          rw [if_neg e]; exact ih T hb
      have lk : ∀ (Q K : Nat), ((look (at_ ops i) Q K).txs T).begun = false → ((look (at_ ops i) Q K).txs T).writes = false := by
        intro Q K hb
        unfold look at hb ⊢
        split
        · rename_i e; rw [if_pos e] at hb; exact ih T hb
        · rename_i e; rw [if_neg e] at hb; exact gen Q _ (.inr ⟨rfl, rfl⟩) hb
      cases hk with
      | refuse e he => exact ih T hT
      | begin_ h0 h1 hd hb => exact gen _ _ (.inl rfl) hT
      | read => exact lk _ _ hT
      | write h0 h1 k0 k1 hd hl => exact gen _ _ (.inl (show ((at_ ops i).txs ops[i].t.toNat).begun = true from live_begun hl)) hT
      | add h0 h1 k0 k1 n0 n1 hd hl =>
        have hT' : (((look (at_ ops i) ops[i].t.toNat ops[i].k.toNat).setTx ops[i].t.toNat { (look (at_ ops i) ops[i].t.toNat ops[i].k.toNat).txs ops[i].t.toNat with writes := true }).txs T).begun = false := hT
        show (((look (at_ ops i) ops[i].t.toNat ops[i].k.toNat).setTx ops[i].t.toNat { (look (at_ ops i) ops[i].t.toNat ops[i].k.toNat).txs ops[i].t.toNat with writes := true }).txs T).writes = false
        rw [setTx_txs] at hT' ⊢
        split at hT'
        · replace hT' : ((look (at_ ops i) ops[i].t.toNat ops[i].k.toNat).txs ops[i].t.toNat).begun = false := hT'
          rw [look_begun, live_begun hl] at hT'; cases hT'
        · rename_i e
          rw [if_neg e]
          exact lk _ _ hT'
      | quiet h0 h1 hd hl hw => exact gen _ _ (.inl (show ((at_ ops i).txs ops[i].t.toNat).begun = true from live_begun hl)) hT
      | clash h0 h1 hd hl hw hc => exact gen _ _ (.inl (show ((at_ ops i).txs ops[i].t.toNat).begun = true from live_begun hl)) hT
      | made h0 h1 hd hl hw hc => exact gen _ _ (.inl (show ((at_ ops i).txs ops[i].t.toNat).begun = true from live_begun hl)) hT
      | abort h0 h1 hd hl => exact gen _ _ (.inl (show ((at_ ops i).txs ops[i].t.toNat).begun = true from live_begun hl)) hT
    · have : at_ ops (i + 1) = at_ ops i := by unfold at_; rw [List.take_of_length_le hi, List.take_of_length_le (by omega)]
      rw [this] at hT ⊢
      exact ih T hT
section
variable {ops : List Op} {i : Nat} {o : Op} {a : Ans} {I : List (Int × Int)} {W : List (Int × Bool)} {C : List (Int × Int)} {d : Nat}
theorem loses_skip (h : LInv (at_ ops i) I W C d) (ho : ops[i]? = some o) (ha : (ans ops)[i]? = some a) (he : a.e ≠ 0 ∧ a.e ≠ 10) : LInv (at_ ops (i + 1)) I W C d := by
  rw [ans_at ho] at ha
  cases ha
  rw [at_succ ho]
  have hk := step_kind (at_ ops i) o
  generalize step (at_ ops i) o = z at *
  obtain ⟨za, zs⟩ := z
  dsimp only at *
  cases hk with
  | refuse => exact h
  | clash => exact absurd rfl he.2
  | _ => exact absurd rfl he.1
theorem loses_begin (h : LInv (at_ ops i) I W C d) (ho : ops[i]? = some o) (ha : (ans ops)[i]? = some a) (he : a.e = 0 ∨ a.e = 10) (hd : o.d = 0) : LInv (at_ ops (i + 1)) (mput o.t a.n I) W C d := by
  rw [ans_at ho] at ha
  cases ha
  rw [at_succ ho]
  have hk := step_kind (at_ ops i) o
  have h10 := step_ten (at_ ops i) o
  have hwb := writes_begun ops i
  have hs := at_sound ops i
  generalize step (at_ ops i) o = z at *
  obtain ⟨za, zs⟩ := z
  dsimp only at *
  cases hk with
  | refuse e hne =>
    rcases he with he | he
    · exact absurd he hne
    · have := h10 he; omega
  | begin_ h0 h1 hd hb =>
    have := h.begins hs o.t.toNat hb (hwb _ hb)
    rwa [Int.toNat_of_nonneg h0] at this
  | _ => omega
theorem loses_wrote (h : LInv (at_ ops i) I W C d) (ho : ops[i]? = some o) (ha : (ans ops)[i]? = some a) (he : a.e = 0 ∨ a.e = 10) (hd : o.d = 3 ∨ o.d = 2) : LInv (at_ ops (i + 1)) I (mput o.t true W) C d := by
  rw [ans_at ho] at ha
  cases ha
  rw [at_succ ho]
  have hk := step_kind (at_ ops i) o
  have h10 := step_ten (at_ ops i) o
  generalize step (at_ ops i) o = z at *
  obtain ⟨za, zs⟩ := z
  dsimp only at *
  cases hk with
  | refuse e hne =>
    rcases he with he | he
    · exact absurd he hne
    · have := h10 he; omega
  | write h0 h1 k0 k1 hd hl =>
    have := h.put_ o.t.toNat o.k.toNat o.n hl
    rwa [Int.toNat_of_nonneg h0] at this
  | add h0 h1 k0 k1 n0 n1 hd hl =>
    have := (h.look_ o.t.toNat o.k.toNat hl).put_ o.t.toNat o.k.toNat (w32 (Tx.see (at_ ops i) o.t.toNat o.k.toNat + o.n)) (by rw [look_live]; exact hl)
    rwa [Int.toNat_of_nonneg h0] at this
  | _ => omega
theorem loses_commit (h : LInv (at_ ops i) I W C d) (ho : ops[i]? = some o) (ha : (ans ops)[i]? = some a) (he : a.e = 0) (hd : o.d = 4) : LInv (at_ ops (i + 1)) I W (mput o.t a.n C) (d + 1) := by
  rw [ans_at ho] at ha
  cases ha
  rw [at_succ ho]
  have hk := step_kind (at_ ops i) o
  have hs := at_sound ops i
  generalize step (at_ ops i) o = z at *
  obtain ⟨za, zs⟩ := z
  dsimp only at *
  cases hk with
  | refuse e hne => exact absurd he hne
  | clash => cases he
  | quiet h0 h1 hd hl hw =>
    have := h.quiets o.t.toNat hl
    rwa [Int.toNat_of_nonneg h0] at this ⊢
  | made h0 h1 hd hl hw hc =>
    have := h.makes hs o.t.toNat hl hc
    rwa [Int.toNat_of_nonneg h0] at this
  | _ => omega
theorem loses_clash (h : LInv (at_ ops i) I W C d) (ho : ops[i]? = some o) (ha : (ans ops)[i]? = some a) (he : a.e = 0 ∨ a.e = 10) (he2 : a.e ≠ 0) (hd : o.d = 4) : mget o.t W = some true ∧ LInv (at_ ops (i + 1)) I W C d := by
  rw [ans_at ho] at ha
  cases ha
  rw [at_succ ho]
  replace he : (step (at_ ops i) o).1.e = 10 := by omega
  clear he2
  have hcl : StepK (at_ ops i) o ⟨10, 0⟩ (step (at_ ops i) o).2 → (step (at_ ops i) o).1 = ⟨10, 0⟩ → mget o.t W = some true ∧ LInv (step (at_ ops i) o).2 I W C d := fun _ _ => by
    unfold step at he ⊢
    split at he
    · cases he
    · split at he
      · cases he
      · rename_i h1 hf
        rw [if_neg h1, if_neg hf]
        simp only [fits, within, Bool.not_eq_true', Bool.not_eq_false, Bool.and_eq_true, decide_eq_true_eq, Bool.or_eq_true] at hf
        have h0 := hf.1.1.1
        unfold does at he ⊢
        dsimp only at he ⊢
        have e0 : ¬ o.d = 0 := by omega
        have e1 : ¬ o.d = 1 := by omega
        have e2 : ¬ o.d = 2 := by omega
        have e3 : ¬ o.d = 3 := by omega
        rw [if_neg e0] at he ⊢
        split at he
        · cases he
        · rename_i hlv
          have hl : ((at_ ops i).txs o.t.toNat).live = true := by simpa using hlv
          rw [if_neg hlv]
          rw [if_neg e1, if_neg e2, if_neg e3, if_pos hd]
          unfold commit at he ⊢
          dsimp only at he ⊢
          split at he
          · cases he
          · rename_i hw
            rw [if_neg hw]
            have hw2 : ((at_ ops i).txs o.t.toNat).writes = true := by simpa using hw
            split at he
            · rename_i hc
              rw [if_pos hc]
              have := h.core.wrote _ hw2
              rw [Int.toNat_of_nonneg h0] at this
              exact ⟨this, h.turn _ _ hl (show ((at_ ops i).txs o.t.toNat).begun = true from live_begun hl) rfl rfl⟩
            · cases he
  have hk := step_kind (at_ ops i) o
  have e10 : (step (at_ ops i) o).1 = ⟨10, 0⟩ := by
    generalize step (at_ ops i) o = z at *
    obtain ⟨⟨ze, zn⟩, zs⟩ := z
    dsimp only at *
    subst he
    cases hk <;> rfl
  rw [e10] at hk
  exact hcl hk e10
theorem loses_other (h : LInv (at_ ops i) I W C d) (ho : ops[i]? = some o) (ha : (ans ops)[i]? = some a) (hd : o.d ≠ 0 ∧ o.d ≠ 2 ∧ o.d ≠ 3 ∧ o.d ≠ 4) : LInv (at_ ops (i + 1)) I W C d := by
  rw [ans_at ho] at ha
  cases ha
  rw [at_succ ho]
  have hk := step_kind (at_ ops i) o
  generalize step (at_ ops i) o = z at *
  obtain ⟨za, zs⟩ := z
  dsimp only at *
  cases hk with
  | refuse => exact h
  | read h0 h1 k0 k1 hd1 hl => exact h.look_ _ _ hl
  | abort h0 h1 hd5 hl => exact h.turn _ _ hl (show ((at_ ops i).txs o.t.toNat).begun = true from live_begun hl) rfl rfl
  | _ => omega
end

/-- What was read, and what was written, stays so. -/
theorem step_keeps (st : St) (o : Op) (T : Nat) (k : Nat) :
    ((st.txs T).read k = true → ((step st o).2.txs T).read k = true) ∧ ((mget ((T : Int), (k : Int)) st.wr).isSome = true → (mget ((T : Int), (k : Int)) (step st o).2.wr).isSome = true) := by
  have gen : ∀ (s : St) (Q : Nat) (x : Txn), (∀ k, (s.txs Q).read k = true → x.read k = true) → (s.txs T).read k = true → ((s.setTx Q x).txs T).read k = true := by
    intro s Q x hx hr
    rw [setTx_txs]
    split
    · rename_i e; subst e; exact hx k hr
    · exact hr
  have lk : ∀ (Q K : Nat), (st.txs T).read k = true → ((look st Q K).txs T).read k = true := by
    intro Q K hr
    unfold look
    split
    · exact hr
    · refine gen _ _ _ (fun k hk => ?_) hr
      show (if k = K then true else _) = true
      split
      · rfl
      · exact hk
  have pw : ∀ (s : St) (Q K : Nat) (n : Int), s.wr = st.wr → (mget ((T : Int), (k : Int)) st.wr).isSome = true → (mget ((T : Int), (k : Int)) (put s Q K n).wr).isSome = true := by
    intro s Q K n e h
    unfold put
    simp only [mget_mput, e]
    split
    · rfl
    · exact h
  have hk := step_kind st o
  generalize step st o = z at *
  obtain ⟨za, zs⟩ := z
  dsimp only at *
  cases hk with
  | refuse => exact ⟨fun h => h, fun h => h⟩
  | begin_ => exact ⟨gen _ _ _ (fun _ h => h), fun h => h⟩
  | read => exact ⟨lk _ _, fun h => by rw [look_wr]; exact h⟩
  | write => exact ⟨gen _ _ _ (fun _ h => h), pw _ _ _ _ rfl⟩
  | add => exact ⟨fun h => gen _ _ _ (fun _ h => h) (lk _ _ h), pw _ _ _ _ (look_wr _ _ _)⟩
  | quiet => exact ⟨gen _ _ _ (fun _ h => h), fun h => h⟩
  | clash => exact ⟨gen _ _ _ (fun _ h => h), fun h => h⟩
  | made => exact ⟨gen _ _ _ (fun _ h => h), fun h => h⟩
  | abort => exact ⟨gen _ _ _ (fun _ h => h), fun h => h⟩
theorem run_keeps (T k : Nat) (l : List Op) : ∀ st : St,
    ((st.txs T).read k = true → ((run st l).2.txs T).read k = true) ∧ ((mget ((T : Int), (k : Int)) st.wr).isSome = true → (mget ((T : Int), (k : Int)) (run st l).2.wr).isSome = true) := by
  induction l with
  | nil => intro st; exact ⟨fun h => h, fun h => h⟩
  | cons o l ih =>
    intro st
    have h1 := step_keeps st o T k
    have h2 := ih (step st o).2
    exact ⟨fun h => h2.1 (h1.1 h), fun h => h2.2 (h1.2 h)⟩
theorem run_at (ops : List Op) (i : Nat) : (run St.zero ops).2 = (run (at_ ops i) (ops.drop i)).2 := by
  have gen : ∀ (l r : List Op) (st : St), (run st (l ++ r)).2 = (run (run st l).2 r).2 := by
    intro l
    induction l with
    | nil => intro r st; rfl
    | cons o l ih => intro r st; exact ih r _
  have := gen (ops.take i) (ops.drop i) St.zero
  rwa [List.take_append_drop] at this
/-- What adds to a key that it did not write ahead has read it. -/
theorem add_reads {ops : List Op} {i : Nat} {o : Op} {a : Ans} (ho : ops[i]? = some o) (ha : (ans ops)[i]? = some a) (hd : o.d = 3) (he : a.e = 0) (hw : ¬ wroteAt ops i o.t o.k) :
    0 ≤ o.t ∧ 0 ≤ o.k ∧ o.k ≤ 15 ∧ ((run St.zero ops).2.txs o.t.toNat).read o.k.toNat = true ∧ (mget (o.t, o.k) (run St.zero ops).2.wr).isSome = true := by
  have hi := (List.getElem?_eq_some_iff.1 ho).1
  rw [ans_at ho] at ha
  cases ha
  have hn : (mget (o.t, o.k) (at_ ops i).wr).isSome = false := by
    cases h : (mget (o.t, o.k) (at_ ops i).wr).isSome with
    | false => rfl
    | true => exact absurd (wr_from ops i (by omega) o.t o.k h) hw
  have hk := step_kind (at_ ops i) o
  rw [run_at ops (i + 1), at_succ ho]
  have K := run_keeps o.t.toNat o.k.toNat (ops.drop (i + 1)) (step (at_ ops i) o).2
  generalize step (at_ ops i) o = z at *
  obtain ⟨za, zs⟩ := z
  dsimp only at *
  cases hk with
  | refuse e hne => exact absurd he hne
  | add h0 h1 k0 k1 n0 n1 hd hl =>
    rw [Int.toNat_of_nonneg h0, Int.toNat_of_nonneg k0] at K
    refine ⟨h0, k0, k1, K.1 ?_, K.2 ?_⟩
    · show (((look (at_ ops i) o.t.toNat o.k.toNat).setTx o.t.toNat _).txs o.t.toNat).read o.k.toNat = true
      rw [setTx_txs, if_pos rfl]
      refine look_read _ _ _ ?_
      rw [Int.toNat_of_nonneg h0, Int.toNat_of_nonneg k0, hn]
      intro h; cases h
    · unfold put
      simp only [mget_mput]
      rw [Int.toNat_of_nonneg h0, Int.toNat_of_nonneg k0, if_pos rfl]
      rfl
  | _ => omega

section
variable {st : St} {I : List (Int × Int)} {W : List (Int × Bool)} {C : List (Int × Int)} {d : Nat}
/-- What the map of those that took a key says. -/
def Taken (st : St) (K : List ((Int × Int) × Int)) : Prop := ∀ i k t, mget (i, k) K = some t → ∃ T m q : Nat, t = (T : Int) ∧ k = (q : Int) ∧ q < 16 ∧ 0 < m ∧ m < st.insts.length ∧ (st.inst m).by_ = (T : Int) ∧
  ((st.txs T).inst : Int) = i ∧ (st.txs T).read q = true ∧ (st.inst m).wrote q = true
theorem Taken.nil (st : St) : Taken st [] := fun i k t h => by simp [mget] at h
theorem loses_taken {ops : List Op} {K : List ((Int × Int) × Int)} {i : Nat} {o : Op} {a : Ans} {n : Int} (h : LInv (run St.zero ops).2 I W C d) (hK : Taken (run St.zero ops).2 K)
    (ho : ops[i]? = some o) (ha : (ans ops)[i]? = some a) (hd : o.d = 3) (he : a.e = 0) (hc : mget o.t C = some n) (hn : n ≠ 0) (hw : ¬ wroteAt ops i o.t o.k) :
    ∃ q : Int, mget o.t I = some q ∧ (∀ t, mget (q, o.k) K = some t → t = o.t) ∧ Taken (run St.zero ops).2 (mput (q, o.k) o.t K) := by
  obtain ⟨h0, k0, k1, hr, hwr⟩ := add_reads ho ha hd he hw
  generalize (run St.zero ops).2 = st at *
  rcases h.com _ _ hc with rfl | ⟨m, rfl, m0, m1, hby⟩
  · exact absurd rfl hn
  obtain ⟨T, a1, a2, a3, a4, a5, a6, a7⟩ := h.core.made m m0 m1
  have eT : o.t = (T : Int) := by rw [← hby, a1]
  have eT2 : o.t.toNat = T := by omega
  obtain ⟨q, hq⟩ : ∃ q : Nat, o.k = (q : Int) := ⟨o.k.toNat, by omega⟩
  rw [eT2] at hr
  rw [eT, hq] at hwr
  rw [eT, hq]
  rw [hq] at hr k1
  simp only [Int.toNat_natCast] at hr
  have hwq : (st.inst m).wrote q = true := by rw [a6]; exact hwr
  refine ⟨_, h.core.inst T a3, fun t ht => ?_, fun i' k' t' ht' => ?_⟩
  · obtain ⟨T', m', q', b1, b2, b3, b4, b5, b6, b7, b8, b9⟩ := hK _ _ _ ht
    have eq' : q' = q := by omega
    subst eq'
    rw [b1]
    by_cases e : T' = T
    · rw [e]
    · exfalso
      obtain ⟨T2, c1, c2, c3, c4, c5, c6, c7⟩ := h.core.made m' b4 b5
      have e2 : T2 = T' := by omega
      subst e2
      have hne : m ≠ m' := fun e3 => e (by subst e3; omega)
      rcases Nat.lt_or_ge m m' with hlt | hge
      · have := c5 q' b3 b8 m (by omega) hlt
        rw [hwq] at this; cases this
      · have := a5 q' b3 hr m' (by omega) (by omega)
        rw [b9] at this; cases this
  · rw [mget_mput] at ht'
    split at ht'
    · rename_i e
      cases ht'
      have e1 := congrArg Prod.fst e
      have e2 := congrArg Prod.snd e
      dsimp only at e1 e2
      exact ⟨T, m, q, rfl, e2.symm, by omega, m0, m1, a1, e1, hr, hwq⟩
    · exact hK i' k' t' ht'
/-- The order of the commits goes up. -/
def okOrder (C : List (Int × Int)) : Int → List Int → Prop
  | _, [] => True
  | l, t :: r => ∃ n, mget t C = some n ∧ 0 ≤ n ∧ n ≤ 1000 ∧ (n = 0 ∨ l < n) ∧ okOrder C (max l n) r
theorem okOrder_readers (l : Int) (hl : 0 ≤ l) (r : List Int) (rest : List Int) (hr : ∀ t ∈ r, mget t C = some 0) (h : okOrder C l rest) : okOrder C l (r ++ rest) := by
  induction r with
  | nil => exact h
  | cons t r ih =>
    refine ⟨0, hr t (List.mem_cons_self), by decide, by decide, .inl rfl, ?_⟩
    rw [show max l 0 = l by omega]
    exact ih (fun t ht => hr t (List.mem_cons_of_mem _ ht))
theorem LCore.readers_at (h : LCore st I W C d) (m : Nat) : ∀ t ∈ st.readers.filter (fun r => decide ((st.txs r.toNat).inst = m)), mget t C = some 0 := fun t ht => by
  obtain ⟨T, e, _, _, a4⟩ := h.rdr t (List.mem_filter.1 ht).1
  rw [e]; exact a4
theorem okOrder_from (h : LCore st I W C d) (hs : st.insts.length ≤ 1000) : ∀ (q m : Nat), 0 < m → m + q = st.insts.length → okOrder C ((m : Int) - 1) ((List.range' m q).flatMap (partAt st)) := by
  intro q
  induction q with
  | zero => intro m _ _; exact trivial
  | succ q ih =>
    intro m h0 hm
    rw [List.range'_succ, List.flatMap_cons]
    obtain ⟨T, a1, a2, a3, a4, a5, a6, a7⟩ := h.made m h0 (by omega)
    have e : partAt st m = (T : Int) :: st.readers.filter (fun r => decide ((st.txs r.toNat).inst = m)) := by
      unfold partAt
      rw [a1, if_pos (by omega)]
      rfl
    rw [e, List.cons_append]
    refine ⟨(m : Int), a7, by omega, by omega, .inr (by omega), ?_⟩
    rw [show max ((m : Int) - 1) (m : Int) = (((m + 1 : Nat) : Int) - 1) by omega]
    refine okOrder_readers _ (by omega) _ _ (h.readers_at m) ?_
    exact ih (m + 1) (by omega) (by omega)
theorem okOrder_all (h : LCore st I W C d) (hne : 0 < st.insts.length) (hs : st.insts.length ≤ 1000) : okOrder C 0 ((List.range st.insts.length).flatMap (partAt st)) := by
  rw [List.range_eq_range']
  obtain ⟨q, hq⟩ : ∃ q, st.insts.length = q + 1 := ⟨st.insts.length - 1, by omega⟩
  rw [hq, List.range'_succ, List.flatMap_cons]
  have e : partAt st 0 = st.readers.filter (fun r => decide ((st.txs r.toNat).inst = 0)) := by
    unfold partAt
    rw [h.first, if_neg (by decide), List.nil_append]
  rw [e]
  refine okOrder_readers _ (by decide) _ _ (h.readers_at 0) ?_
  exact okOrder_from h hs q 1 (by omega) (by omega)
theorem length_parts (R : List Int) (f : Int → Nat) (n : Nat) : (∀ r ∈ R, f r < n) → ((List.range n).map fun i => (R.filter fun r => decide (f r = i)).length).sum = R.length := by
  induction R with
  | nil =>
    intro _
    simp only [List.filter_nil, List.length_nil]
    have z : ∀ n : Nat, ((List.range n).map fun _ => 0).sum = 0 := by
      intro n
      induction n with
      | zero => rfl
      | succ n ih => rw [List.range_succ, List.map_append, List.sum_append, ih]; rfl
    exact z n
  | cons r R ih =>
    intro h
    have h1 := ih (fun r hr => h r (List.mem_cons_of_mem _ hr))
    have h2 := h r (List.mem_cons_self)
    have : ∀ i, ((r :: R).filter fun r => decide (f r = i)).length = (R.filter fun r => decide (f r = i)).length + if i = f r then 1 else 0 := by
      intro i
      rw [List.filter_cons]
      by_cases e : f r = i
      · rw [if_pos (by simpa using e), if_pos e.symm]; rfl
      · rw [if_neg (by simpa using e), if_neg (fun e' => e e'.symm)]; rfl
    simp only [this]
    have key : ∀ (g : Nat → Nat) (q : Nat) (n : Nat), q < n → ((List.range n).map fun i => g i + if i = q then 1 else 0).sum = ((List.range n).map g).sum + 1 := by
      intro g q n
      induction n with
      | zero => intro h; omega
      | succ n ihn =>
        intro hq
        rw [List.range_succ, List.map_append, List.map_append, List.sum_append, List.sum_append]
        simp only [List.map_cons, List.map_nil, List.sum_cons, List.sum_nil]
        by_cases e : n = q
        · subst e
          rw [if_pos rfl]
          have : ((List.range n).map fun i => g i + if i = n then 1 else 0) = (List.range n).map g := by
            refine List.map_congr_left (fun i hi => ?_)
            have := List.mem_range.1 hi
            rw [if_neg (by omega)]
            rfl
          rw [this]
          omega
        · rw [ihn (by omega), if_neg e]
          omega
    rw [key _ _ _ h2, h1]
    rfl
theorem length_order (h : LCore st I W C d) (hs : Sound st) : ((List.range st.insts.length).flatMap (partAt st)).length = d := by
  rw [List.length_flatMap]
  have h1 : ∀ (q : Nat), q ≤ st.insts.length → ((List.range q).map fun i => (partAt st i).length).sum + (if q = 0 then 0 else 1) = q + ((List.range q).map fun i => (st.readers.filter fun r => decide ((st.txs r.toNat).inst = i)).length).sum := by
    intro q
    induction q with
    | zero => intro _; rfl
    | succ q ih =>
      intro hq
      have h2 := ih (by omega)
      rw [List.range_succ, List.map_append, List.map_append, List.sum_append, List.sum_append]
      simp only [List.map_cons, List.map_nil, List.sum_cons, List.sum_nil]
      have h3 : (partAt st q).length = (if q = 0 then 0 else 1) + (st.readers.filter fun r => decide ((st.txs r.toNat).inst = q)).length := by
        unfold partAt
        rw [List.length_append]
        by_cases e : q = 0
        · subst e
          rw [h.first, if_neg (by decide), if_pos rfl]; rfl
        · obtain ⟨T, a1, _⟩ := h.made q (by omega) (by omega)
          rw [a1, if_pos (by omega), if_neg e]; rfl
      rw [h3]
      by_cases e : q = 0
      · subst e
        simp at h2 ⊢
        omega
      · simp only [if_neg e] at h2 ⊢
        rw [if_neg (by omega : ¬ q + 1 = 0)]
        omega
  have h2 := h1 st.insts.length (Nat.le_refl _)
  rw [length_parts st.readers (fun r => (st.txs r.toNat).inst) st.insts.length (fun r _ => hs.inst _), if_neg (by have := hs.ne; omega)] at h2
  have := h.done
  omega
end
end Tx
end Go.Proofs.Yteaeflmglppcdaa
