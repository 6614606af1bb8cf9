/- The contract of done. -/
import Derived.Test.YteaeflmglppcdaaD5
namespace Go.Proofs.Yteaeflmglppcdaa
open Go.RowKit Tx

theorem enter61 (x : Value) (w : World) : (callFunc 61 #[x]).run Try.prog w = .ok (.enter 61 #[x]) w := by kernel_rfl
theorem enter63 (x : Value) (w : World) : (callFunc 63 #[x]).run Try.prog w = .ok (.enter 63 #[x]) w := by kernel_rfl
theorem enter65 (x : Value) (w : World) : (callFunc 65 #[x]).run Try.prog w = .ok (.enter 65 #[x]) w := by kernel_rfl
theorem enter92 (x : Value) (w : World) : (callFunc 92 #[x]).run Try.prog w = .ok (.enter 92 #[x]) w := by kernel_rfl
theorem enter93 (x : Value) (w : World) : (callFunc 93 #[x]).run Try.prog w = .ok (.enter 93 #[x]) w := by kernel_rfl
theorem enter94 (x : Value) (w : World) : (callFunc 94 #[x]).run Try.prog w = .ok (.enter 94 #[x]) w := by kernel_rfl
theorem enter62 (x y : Value) (w : World) : (callFunc 62 #[x, y]).run Try.prog w = .ok (.enter 62 #[x, y]) w := by kernel_rfl
theorem enter64 (x y : Value) (w : World) : (callFunc 64 #[x, y]).run Try.prog w = .ok (.enter 64 #[x, y]) w := by kernel_rfl
theorem enter66 (x y : Value) (w : World) : (callFunc 66 #[x, y]).run Try.prog w = .ok (.enter 66 #[x, y]) w := by kernel_rfl
theorem enter67 (x y : Value) (w : World) : (callFunc 67 #[x, y]).run Try.prog w = .ok (.enter 67 #[x, y]) w := by kernel_rfl
theorem enter68 (x y : Value) (w : World) : (callFunc 68 #[x, y]).run Try.prog w = .ok (.enter 68 #[x, y]) w := by kernel_rfl
theorem enter69 (x y : Value) (w : World) : (callFunc 69 #[x, y]).run Try.prog w = .ok (.enter 69 #[x, y]) w := by kernel_rfl
theorem met128 (d t k n : Int) (w : World) : (method 253 128 (.agg #[.int .i64 d, .int .i64 t, .int .i64 k, .int .i64 n]) "deltaworks/tx.fits").run Try.prog w = .ok (92, .agg #[.int .i64 d, .int .i64 t, .int .i64 k, .int .i64 n]) w := by kernel_rfl
theorem met131 (d t k n : Int) (w : World) : (method 253 131 (.agg #[.int .i64 d, .int .i64 t, .int .i64 k, .int .i64 n]) "deltaworks/tx.fits").run Try.prog w = .ok (93, .agg #[.int .i64 d, .int .i64 t, .int .i64 k, .int .i64 n]) w := by kernel_rfl
theorem met136 (d t k n : Int) (w : World) : (method 253 136 (.agg #[.int .i64 d, .int .i64 t, .int .i64 k, .int .i64 n]) "deltaworks/tx.fits").run Try.prog w = .ok (94, .agg #[.int .i64 d, .int .i64 t, .int .i64 k, .int .i64 n]) w := by kernel_rfl

theorem commit_err (st : St) (t : Nat) : (Tx.commit st t).1.e ≠ 0 → (Tx.commit st t).1.n = 0 := by
  unfold Tx.commit
  simp only
  split
  · simp
  · split <;> simp
theorem does_err (st : St) (o : Tx.Op) : (does st o).1.e ≠ 0 → (does st o).1.n = 0 := by
  unfold does begin_ abort
  simp only
  split
  · split <;> simp
  · split
    · simp
    · split
      · simp
      · split
        · simp
        · split
          · simp
          · split
            · exact commit_err _ _
            · simp
section
variable {w : World} {s : Nat} {va vo : Value} {st : St} {F : Nat → Prop}
/-- What done leaves: the answer, and the store behind it. -/
def DonePost (w : World) (F : Nat → Prop) (s : Nat) (va vo : Value) (r : Ans × St) (e : Ending) (w' : World) : Prop :=
  e = .returned (.agg #[.int .i64 r.1.e, .int .i64 r.1.n]) ∧ Left w F s va vo r.2 w'
theorem done_from (hR : Rep w s va vo st F) (o : Tx.Op) (b : Bool) (hd : within o.d 0 5 = true) (hb : fits o = b) {e : Ending} {w' : World}
    (h : if b then (e = .returned (.agg #[.int .i64 (does st o).1.e, .int .i64 (if (does st o).1.e = 0 then (does st o).1.n else 0)]) ∧ Left w F s va vo (does st o).2 w') else (e = .returned (.agg #[.int .i64 2, .int .i64 0]) ∧ New w w')) :
    DonePost w F s va vo (Tx.step st o) e w' := by
  unfold DonePost Tx.step
  rw [hd, hb]
  cases b
  · simp only [Bool.false_eq_true, if_false, Bool.not_true, Bool.not_false, if_true] at h ⊢
    exact ⟨h.1, F, hR.new h.2, Chg.of_new h.2, fun _ hk => .inl hk⟩
  · simp only [Bool.false_eq_true, if_false, Bool.not_true, if_true] at h ⊢
    refine ⟨?_, h.2⟩
    rw [h.1]
    by_cases h0 : (does st o).1.e = 0
    · rw [if_pos h0]
    · rw [if_neg h0, does_err st o h0]
theorem done_any (hR : Rep w s va vo st F) {q : Nat} (hG : Good st q) (hq : q ≤ 1000) (o : Tx.Op) :
    Calls Try.prog 48 #[.pointer (some ⟨s, 0, none⟩), .agg #[.int .i64 o.d, .int .i64 o.t, .int .i64 o.k, .int .i64 o.n]] w (DonePost w F s va vo (Tx.step st o)) := by
  cases hd : within o.d 0 5
  · refine (done_arg hR _ _ _ _ hd).mono ?_
    rintro e w' ⟨rfl, hn⟩
    unfold DonePost Tx.step
    rw [hd]
    exact ⟨rfl, F, hR.new hn, Chg.of_new hn, fun _ hk => .inl hk⟩
  · have HD : ∀ f, fid o.d = f → Hid (fits o = true → ∀ w1, Rep w1 s va vo st F → Calls Try.prog f #[.pointer (some ⟨s, 0, none⟩), .agg #[.int .i64 o.d, .int .i64 o.t, .int .i64 o.k, .int .i64 o.n]] w1 (Post w1 F s va vo (does st o).1 (does st o).2)) := by
      rintro f rfl hf w1 hR1
      exact does_any hR1 hG hq o hf hd
    have hd6 : o.d = 0 ∨ o.d = 1 ∨ o.d = 2 ∨ o.d = 3 ∨ o.d = 4 ∨ o.d = 5 := by
      simp [within] at hd; omega
    refine Calls.mono ?_ (fun e w' h => done_from hR o (fits o) hd rfl h)
    obtain ⟨d, t, k, n⟩ := o
    simp only at hd6 HD ⊢
    rcases hd6 with rfl | rfl | rfl | rfl | rfl | rfl
    · refine done_gen hR 0 t k n 61 62 128 92 _ _ _ (by omega) (by omega) rfl rfl enter61 enter62 enter92 (met128 0 t k n) (fun w => as_plain 0 t k n w) ?_ (HD 62 rfl)
      intro w
      have := fits_plain (w := w) 0 t k n
      rw [show fits ⟨0, t, k, n⟩ = (within t 0 15) by simp [fits, keyed, wordy, word, within]]
      exact this
    · refine done_gen hR 1 t k n 63 64 131 93 _ _ _ (by omega) (by omega) rfl rfl enter63 enter64 enter93 (met131 1 t k n) (fun w => as_keyed 1 t k n w) ?_ (HD 64 rfl)
      intro w
      have := fits_keyed (w := w) 1 t k n
      rw [show fits ⟨1, t, k, n⟩ = (within t 0 15 && within k 0 15) by simp [fits, keyed, wordy, word, within]]
      exact this
    · refine done_gen hR 2 t k n 65 66 136 94 _ _ _ (by omega) (by omega) rfl rfl enter65 enter66 enter94 (met136 2 t k n) (fun w => as_wordy 2 t k n w) ?_ (HD 66 rfl)
      intro w
      have := fits_wordy (w := w) 2 t k n
      rw [show fits ⟨2, t, k, n⟩ = (within t 0 15 && within k 0 15 && within n (-2147483648) 2147483647) by simp [fits, keyed, wordy, word, within]]
      exact this
    · refine done_gen hR 3 t k n 65 67 136 94 _ _ _ (by omega) (by omega) rfl rfl enter65 enter67 enter94 (met136 3 t k n) (fun w => as_wordy 3 t k n w) ?_ (HD 67 rfl)
      intro w
      have := fits_wordy (w := w) 3 t k n
      rw [show fits ⟨3, t, k, n⟩ = (within t 0 15 && within k 0 15 && within n (-2147483648) 2147483647) by simp [fits, keyed, wordy, word, within]]
      exact this
    · refine done_gen hR 4 t k n 61 68 128 92 _ _ _ (by omega) (by omega) rfl rfl enter61 enter68 enter92 (met128 4 t k n) (fun w => as_plain 4 t k n w) ?_ (HD 68 rfl)
      intro w
      have := fits_plain (w := w) 4 t k n
      rw [show fits ⟨4, t, k, n⟩ = (within t 0 15) by simp [fits, keyed, wordy, word, within]]
      exact this
    · refine done_gen hR 5 t k n 61 69 128 92 _ _ _ (by omega) (by omega) rfl rfl enter61 enter69 enter92 (met128 5 t k n) (fun w => as_plain 5 t k n w) ?_ (HD 69 rfl)
      intro w
      have := fits_plain (w := w) 5 t k n
      rw [show fits ⟨5, t, k, n⟩ = (within t 0 15) by simp [fits, keyed, wordy, word, within]]
      exact this
end
end Go.Proofs.Yteaeflmglppcdaa
