/- The contracts of asPlain, asKeyed, asWordy, of the three fits, and of deeds. -/
import Derived.Test.YteaeflmglppcdaaR4
namespace Go.Proofs.Yteaeflmglppcdaa
open Go.RowKit Tx

section
variable {w : World}

theorem as_plain (d t k n : Int) (w : World) :
    Calls Try.prog 61 #[.agg #[.int .i64 d, .int .i64 t, .int .i64 k, .int .i64 n]] w fun e w' => e = .returned (.iface 128 (.agg #[.int .i64 d, .int .i64 t, .int .i64 k, .int .i64 n])) ∧ New w w' := by
  go_enter Try.func61, Try.ntmps61
  go_wp2
  go_ret
  exact ⟨rfl, (Chg.refl _ w).alloc _⟩
theorem as_keyed (d t k n : Int) (w : World) :
    Calls Try.prog 63 #[.agg #[.int .i64 d, .int .i64 t, .int .i64 k, .int .i64 n]] w fun e w' => e = .returned (.iface 131 (.agg #[.int .i64 d, .int .i64 t, .int .i64 k, .int .i64 n])) ∧ New w w' := by
  go_enter Try.func63, Try.ntmps63
  go_wp2
  go_ret
  exact ⟨rfl, (Chg.refl _ w).alloc _⟩
theorem as_wordy (d t k n : Int) (w : World) :
    Calls Try.prog 65 #[.agg #[.int .i64 d, .int .i64 t, .int .i64 k, .int .i64 n]] w fun e w' => e = .returned (.iface 136 (.agg #[.int .i64 d, .int .i64 t, .int .i64 k, .int .i64 n])) ∧ New w w' := by
  go_enter Try.func65, Try.ntmps65
  go_wp2
  go_ret
  exact ⟨rfl, (Chg.refl _ w).alloc _⟩

theorem fits_plain (d t k n : Int) (w : World) :
    Calls Try.prog 92 #[.agg #[.int .i64 d, .int .i64 t, .int .i64 k, .int .i64 n]] w fun e w' => e = .returned (.bool (within t 0 15)) ∧ New w w' := by
  go_enter Try.func92, Try.ntmps92
  go_wp2_with ((with_reducible refine (within_any _ _ _ _).mono ?_); rintro e w' ⟨rfl, rfl⟩)
  go_ret
  exact ⟨rfl, (Chg.refl _ w).alloc _⟩

theorem fits_keyed (d t k n : Int) (w : World) :
    Calls Try.prog 93 #[.agg #[.int .i64 d, .int .i64 t, .int .i64 k, .int .i64 n]] w fun e w' => e = .returned (.bool (within t 0 15 && within k 0 15)) ∧ New w w' := by
  have hfit := fits_plain d t k n (w.alloc (.cells #[.int .i64 d, .int .i64 t, .int .i64 k, .int .i64 n] 131))
  have HN : Hid (∀ w', New (w.alloc (.cells #[.int .i64 d, .int .i64 t, .int .i64 k, .int .i64 n] 131)) w' → New w w' ∧ w'.cell? ⟨w.heap.size, 2, none⟩ = some (.int .i64 k)) := fun w' h =>
    ⟨((Chg.refl _ w).alloc _).trans h, by rw [h.cell (by simp) (fun x => x), World.cell?_alloc_new]; rfl⟩
  cases ht : within t 0 15
  · rw [ht] at hfit
    clear ht
    have HFIT := Lib.hid hfit; clear hfit
    go_enter Try.func93, Try.ntmps93
    go_wp2_with ((with_reducible refine HFIT.out.mono ?_); rintro e w' ⟨rfl, hn⟩)
    go_ret
    exact ⟨rfl, (HN.out _ hn).1⟩
  · rw [ht] at hfit
    clear ht
    have HFIT := Lib.hid hfit; clear hfit
    go_enter Try.func93, Try.ntmps93
    go_wp2_with (first | ((with_reducible refine (within_any k 0 15 _).mono ?_); rintro e w' ⟨rfl, rfl⟩) | ((with_reducible refine HFIT.out.mono ?_); rintro e w' ⟨rfl, hn⟩; have hc := (HN.out _ hn).2))
    go_ret
    exact ⟨rfl, (HN.out _ hn).1⟩

theorem fits_wordy (d t k n : Int) (w : World) :
    Calls Try.prog 94 #[.agg #[.int .i64 d, .int .i64 t, .int .i64 k, .int .i64 n]] w fun e w' => e = .returned (.bool (within t 0 15 && within k 0 15 && within n (-2147483648) 2147483647)) ∧ New w w' := by
  have hfit := fits_keyed d t k n (w.alloc (.cells #[.int .i64 d, .int .i64 t, .int .i64 k, .int .i64 n] 136))
  have HN : Hid (∀ w', New (w.alloc (.cells #[.int .i64 d, .int .i64 t, .int .i64 k, .int .i64 n] 136)) w' → New w w' ∧ w'.cell? ⟨w.heap.size, 3, none⟩ = some (.int .i64 n)) := fun w' h =>
    ⟨((Chg.refl _ w).alloc _).trans h, by rw [h.cell (by simp) (fun x => x), World.cell?_alloc_new]; rfl⟩
  cases ht : within t 0 15 && within k 0 15
  · rw [ht] at hfit
    clear ht
    have HFIT := Lib.hid hfit; clear hfit
    go_enter Try.func94, Try.ntmps94
    go_wp2_with ((with_reducible refine HFIT.out.mono ?_); rintro e w' ⟨rfl, hn⟩)
    go_ret
    exact ⟨rfl, (HN.out _ hn).1⟩
  · rw [ht] at hfit
    clear ht
    have HFIT := Lib.hid hfit; clear hfit
    go_enter Try.func94, Try.ntmps94
    go_wp2_with (first | ((with_reducible refine (within_any n (-2147483648) 2147483647 _).mono ?_); rintro e w' ⟨rfl, rfl⟩) | ((with_reducible refine HFIT.out.mono ?_); rintro e w' ⟨rfl, hn⟩; have hc := (HN.out _ hn).2))
    go_ret
    exact ⟨rfl, (HN.out _ hn).1⟩

def deedsA : Array Value := #[.func (.func 61) #[] #[], .func (.func 62) #[] #[], .func (.func 63) #[] #[], .func (.func 64) #[] #[], .func (.func 65) #[] #[], .func (.func 66) #[] #[],
  .func (.func 65) #[] #[], .func (.func 67) #[] #[], .func (.func 61) #[] #[], .func (.func 68) #[] #[], .func (.func 61) #[] #[], .func (.func 69) #[] #[]]
theorem deeds_any (w : World) :
    Calls Try.prog 55 #[] w fun e w' => e = .returned (.slice (some ⟨w.heap.size, 0, none⟩) 6 6) ∧ w' = w.alloc (.cells deedsA 117) := by
  go_enter Try.func55, Try.ntmps55
  go_wp2
  go_ret
  exact ⟨rfl, rfl⟩
end
end Go.Proofs.Yteaeflmglppcdaa
