/- The contract of ref00.Word: a number as a word of 32 bits. -/
import Derived.Test.YteaeflmglppcdaaM0
import Derived.Laws.BitsLemmas
import Derived.Lib.Hide
namespace Go.Proofs.Yteaeflmglppcdaa
open Go.RowKit Tx

theorem mask32 (v : Int) : bits .and .i64 v 4294967295 = v % 4294967296 := by
  have h1 : (BitVec.ofInt 64 v).toNat = (v % 18446744073709551616).toNat := by rw [BitVec.toNat_ofInt]; rfl
  have h2 : (BitVec.ofInt 64 (4294967295 : Int)).toNat = 2 ^ 32 - 1 := by decide
  have h3 : (BitVec.ofInt 64 v &&& BitVec.ofInt 64 (4294967295 : Int)).toNat = (v % 18446744073709551616).toNat % 4294967296 := by
    rw [BitVec.toNat_and, h1, h2, Nat.and_two_pow_sub_one_eq_mod]
  show IntKind.i64.wrap ((BitVec.ofInt 64 v &&& BitVec.ofInt 64 (4294967295 : Int)).toNat : Int) = _
  rw [h3, IntKind.wrap_i64]
  omega
theorem w32_eq (v : Int) : w32 v = if v % 4294967296 ≤ 2147483647 then v % 4294967296 else v % 4294967296 - 4294967296 := by
  unfold w32
  rw [IntKind.wrap_i32]
  split <;> omega
theorem w32_wrap (v : Int) : w32 (IntKind.i64.wrap v) = w32 v := by
  unfold w32
  rw [IntKind.wrap_i32, IntKind.wrap_i32, IntKind.wrap_i64]
  omega
section
variable {w : World}
theorem word_any (v : Int) (w : World) : Calls Try.prog 28 #[.int .i64 v] w fun e w' => e = .returned (.int .i64 (w32 v)) ∧ w' = w := by
  have hm := mask32 v
  have h0 : 0 ≤ v % 4294967296 := Int.emod_nonneg _ (by decide)
  have h1 : v % 4294967296 < 4294967296 := Int.emod_lt_of_pos _ (by decide)
  have hw := w32_eq v
  by_cases hb : v % 4294967296 ≤ 2147483647
  · rw [if_pos hb] at hw
    have HW := Lib.hid hw
    clear hw
    go_enter Try.func28, Try.ntmps28
    go_wp2
    go_ret
    rw [HW.out]
    exact ⟨rfl, rfl⟩
  · rw [if_neg hb] at hw
    have HW := Lib.hid hw
    clear hw
    go_enter Try.func28, Try.ntmps28
    go_wp2
    go_ret
    rw [HW.out]
    exact ⟨rfl, rfl⟩
end
end Go.Proofs.Yteaeflmglppcdaa
