/- Each operation by one contract; what stays true of a store. -/
import Derived.Test.YteaeflmglppcdaaD3
import Derived.Test.YteaeflmglppcdaaR7
namespace Go.Proofs.Yteaeflmglppcdaa
open Go.RowKit Tx

/-- What stays true of a store behind n operations. -/
structure Good (st : St) (n : Nat) : Prop where
  ne : 0 < st.insts.length
  inst : ∀ t, (st.txs t).inst < st.insts.length
  insts : st.insts.length ≤ n + 1
  readers : st.readers.length ≤ n

theorem Good.zero : Good St.zero 0 := ⟨by simp [St.zero], fun _ => by simp [St.zero, Txn.zero], by simp [St.zero], by simp [St.zero]⟩
theorem Good.more {st : St} {n : Nat} (h : Good st n) : Good st (n + 1) := ⟨h.ne, h.inst, by have := h.insts; omega, by have := h.readers; omega⟩
theorem Good.setTx {st : St} {n : Nat} (h : Good st n) (t : Nat) (x : Txn) (hx : x.inst < st.insts.length) : Good (st.setTx t x) n :=
  ⟨h.ne, fun i => by
    show (if i = t then x else st.txs i).inst < st.insts.length
    split
    · exact hx
    · exact h.inst i, h.insts, h.readers⟩
theorem Good.look {st : St} {n : Nat} (h : Good st n) (t k : Nat) : Good (Tx.look st t k) n := by
  unfold Tx.look
  split
  · exact h
  · exact h.setTx _ _ (h.inst t)
theorem Good.put {st : St} {n : Nat} (h : Good st n) (t k : Nat) (u : Int) : Good (Tx.put st t k u) n :=
  have h1 := h.setTx t { st.txs t with writes := true } (h.inst t)
  ⟨h1.ne, h1.inst, h1.insts, h1.readers⟩
theorem Good.commit {st : St} {n : Nat} (h : Good st n) (t : Nat) : Good (Tx.commit st t).2 (n + 1) := by
  unfold Tx.commit
  have h1 := h.setTx t { st.txs t with over := true } (h.inst t)
  have h2 := h.setTx t { st.txs t with over := true, comm := true } (h.inst t)
  simp only
  split
  · exact ⟨h2.ne, h2.inst, by have := h2.insts; simp only at *; omega, by have := h.readers; simp; omega⟩
  · split
    · exact h1.more
    · refine ⟨by simp, fun i => ?_, by have := h.insts; simp; omega, by have := h2.readers; simp only at *; omega⟩
      have := h2.inst i
      simp only [List.length_append, List.length_singleton]
      exact Nat.lt_succ_of_lt this
theorem Good.step {st : St} {n : Nat} (h : Good st n) (o : Tx.Op) : Good (Tx.step st o).2 (n + 1) := by
  unfold Tx.step
  split
  · exact h.more
  · split
    · exact h.more
    · unfold does
      simp only
      split
      · unfold begin_
        split
        · exact h.more
        · exact (h.setTx _ _ (show last st < st.insts.length by unfold last; have := h.ne; omega)).more
      · split
        · exact h.more
        · split
          · exact (h.look _ _).more
          · split
            · exact (h.put _ _ _).more
            · split
              · exact ((h.look _ _).put _ _ _).more
              · split
                · exact h.commit _
                · exact (h.setTx o.t.toNat { st.txs o.t.toNat with over := true } (h.inst o.t.toNat)).more

/-- Which function does an operation, and which one makes what it is looked at as. -/
def fid (d : Int) : Nat := if d = 0 then 62 else if d = 1 then 64 else if d = 2 then 66 else if d = 3 then 67 else if d = 4 then 68 else 69
section
variable {w : World} {s : Nat} {va vo : Value} {st : St} {F : Nat → Prop}

theorem Post.of_new {e : Ending} {w' : World} (hR : Rep w s va vo st F) (h : e = .panicked (stopV 6) ∧ New w w') : Post w F s va vo ⟨6, 0⟩ st e w' :=
  Post.same (by rw [h.1]; rfl) hR h.2

theorem does_any (hR : Rep w s va vo st F) {n : Nat} (hG : Good st n) (hn : n ≤ 1000) (o : Tx.Op) (hfit : fits o = true) (hd : within o.d 0 5 = true) :
    Calls Try.prog (fid o.d) #[.pointer (some ⟨s, 0, none⟩), .agg #[.int .i64 o.d, .int .i64 o.t, .int .i64 o.k, .int .i64 o.n]] w
      (Post w F s va vo (does st o).1 (does st o).2) := by
  obtain ⟨d, t, k, u⟩ := o
  simp only [fits, within, keyed, wordy, Bool.and_eq_true, decide_eq_true_eq, Bool.or_eq_true, Bool.not_eq_true'] at hfit hd
  simp only at *
  obtain ⟨⟨⟨h0, h15⟩, hk⟩, hu⟩ := hfit
  have h1 : t < 16 := by omega
  have hR0 := hR
  obtain ⟨vi, m, vr, hX, hF⟩ := hR
  have hi := hG.inst t.toNat
  have hd6 : d = 0 ∨ d = 1 ∨ d = 2 ∨ d = 3 ∨ d = 4 ∨ d = 5 := by omega
  unfold does fid
  simp only
  rcases hd6 with rfl | rfl | rfl | rfl | rfl | rfl
  · simp only [if_true]
    exact begin_any hX hF 0 t k u h0 h1
  all_goals
    cases hl : (st.txs t.toNat).live
  all_goals simp
  · exact (read_no hX _ _ _ _ h0 h1 hl).mono fun _ _ h => Post.of_new hR0 h
  · have hkk : 0 ≤ k ∧ k ≤ 15 := by simpa using hk
    exact read_any hX hF _ _ _ _ hi h0 h1 hkk.1 (by omega) hl
  · exact (write_no hX _ _ _ _ h0 h1 hl).mono fun _ _ h => Post.of_new hR0 h
  · have hkk : 0 ≤ k ∧ k ≤ 15 := by simpa using hk
    exact write_any hX hF _ _ _ _ h0 h1 hkk.1 hl
  · exact (add_no hX _ _ _ _ h0 h1 hl).mono fun _ _ h => Post.of_new hR0 h
  · have hkk : 0 ≤ k ∧ k ≤ 15 := by simpa using hk
    exact add_any hR0 _ _ _ _ hi h0 h1 hkk.1 (by omega) hl
  · exact (commit_no hX _ _ _ _ h0 h1 hl).mono fun _ _ h => Post.of_new hR0 h
  · cases hw : (st.txs t.toNat).writes
    · exact commit_quiet hX hF _ _ _ _ h0 h1 hl hw (by have := hG.readers; omega)
    · cases hc : clash st t.toNat
      · exact commit_write hX hF _ _ _ _ h0 h1 hl hw hc (by have := hG.insts; omega)
      · exact commit_clash hX hF _ _ _ _ h0 h1 hl hw hc
  · exact (abort_no hX _ _ _ _ h0 h1 hl).mono fun _ _ h => Post.of_new hR0 h
  · exact abort_any hX hF _ _ _ _ h0 h1 hl
end
end Go.Proofs.Yteaeflmglppcdaa
