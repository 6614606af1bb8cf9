/- The reference's state in memory; its small functions. -/
import Derived.Test.YteaeflmglppcdaaI0
import Derived.Test.YteaeflmglppcdaaW0
import Derived.StillTailTactics
namespace Go.Proofs.Yteaeflmglppcdaa
open Go.RowKit Tx

section
variable {w : World}
theorem keyed_any (d : Int) : Calls Try.prog 70 #[.int .i64 d] w fun e w' => e = .returned (.bool (Tx.keyed d)) ∧ w' = w := by
  have hk : Tx.keyed d = (d == 1 || (d == 2 || d == 3)) := by unfold Tx.keyed; rw [Bool.or_assoc]
  by_cases h1 : d = 1
  · subst h1
    go_enter Try.func70, Try.ntmps70
    go_wp2
    go_ret
    exact ⟨rfl, rfl⟩
  · have z1 : (d == 1) = false := by simp [h1]
    by_cases h2 : d = 2
    · subst h2
      go_enter Try.func70, Try.ntmps70
      go_wp2
      go_ret
      exact ⟨rfl, rfl⟩
    · have z2 : (d == 2) = false := by simp [h2]
      obtain ⟨B, hB⟩ : ∃ B, (d == 3) = B := ⟨_, rfl⟩
      have hk2 : Tx.keyed d = B := by rw [hk, z1, z2, hB]; rfl
      have HK := Lib.hid hk2
      clear hk hk2 h1 h2
      go_enter Try.func70, Try.ntmps70
      go_wp2
      go_ret
      exact ⟨by rw [HK.out]; first | rfl | (cases B <;> rfl), rfl⟩
theorem wordy_any (d : Int) : Calls Try.prog 71 #[.int .i64 d] w fun e w' => e = .returned (.bool (Tx.wordy d)) ∧ w' = w := by
  by_cases h1 : d = 2
  · subst h1
    go_enter Try.func71, Try.ntmps71
    go_wp2
    go_ret
    exact ⟨rfl, rfl⟩
  · have z1 : (d == 2) = false := by simp [h1]
    obtain ⟨B, hB⟩ : ∃ B, (d == 3) = B := ⟨_, rfl⟩
    have hk2 : Tx.wordy d = B := by unfold Tx.wordy; rw [z1, hB]; rfl
    have HK := Lib.hid hk2
    clear hk2 h1
    go_enter Try.func71, Try.ntmps71
    go_wp2
    go_ret
    exact ⟨by rw [HK.out]; first | rfl | (cases B <;> rfl), rfl⟩
theorem isWord_any (n : Int) : Calls Try.prog 72 #[.int .i64 n] w fun e w' => e = .returned (.bool (Tx.word n)) ∧ w' = w := by
  have h : Tx.word n = (n == w32 n) := by
    unfold Tx.word w32
    rw [IntKind.wrap_i32]
    by_cases h1 : -2147483648 ≤ n ∧ n ≤ 2147483647
    · rw [decide_eq_true h1.1, decide_eq_true h1.2]
      have : n = (n + 2147483648) % 4294967296 - 2147483648 := by omega
      symm
      simp only [Bool.and_self, beq_iff_eq]
      omega
    · have h2 : (decide (-2147483648 ≤ n) && decide (n ≤ 2147483647)) = false := by
        rcases Int.lt_or_le n (-2147483648) with h | h
        · rw [decide_eq_false (by omega)]; rfl
        · rw [decide_eq_false (show ¬ n ≤ 2147483647 by omega), Bool.and_false]
      rw [h2]
      symm
      simp only [beq_eq_false_iff_ne]
      omega
  have H := Lib.hid h
  clear h
  go_enter Try.func72, Try.ntmps72
  go_wp2_with ((with_reducible refine (word_any n w).mono ?_); rintro e w' ⟨rfl, rfl⟩)
  go_ret
  exact ⟨by rw [H.out]; first | rfl | done, rfl⟩
end
end Go.Proofs.Yteaeflmglppcdaa
