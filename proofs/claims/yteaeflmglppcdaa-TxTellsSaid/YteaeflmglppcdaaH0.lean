/- The contract of slices.Grow at an empty script. -/
import Derived.Test.YteaeflmglppcdaaE0
import Derived.Lib.AppendZerosOnto
namespace Go.Proofs.Yteaeflmglppcdaa
open Go.RowKit Tx
def zero47 : Value := .agg #[.int .i64 0, .int .i64 0, .int .i64 0, .int .i64 0]
theorem Try.info47 : (Try.prog.info? 47).map (fun i => (i.zero, i.size, i.bytes)) = some (some zero47, 4, 32) := by kernel_rfl
section
variable {w : World}
theorem grow_none (w : World) : Calls Try.prog 60 #[.slice none 0 0, .int .i64 0] w fun e w' => e = .returned (.slice none 0 0) ∧ w' = w := by
  go_enter Try.func60, Try.ntmps60
  go_wp2
  go_ret
  exact ⟨rfl, rfl⟩
set_option maxRecDepth 100000 in
set_option maxHeartbeats 1000000 in
theorem grow_some (n : Nat) (hn : 0 < n) (h2 : n ≤ 100000) (w : World) : Calls Try.prog 60 #[.slice none 0 0, .int .i64 n] w fun e w' =>
    ∃ cap, e = .returned (.slice (some ⟨w.heap.size, 0, none⟩) 0 cap) ∧ New w w' ∧ w'.ownsRow 0 47 4 (.slice (some ⟨w.heap.size, 0, none⟩) 0 cap) 0 [] := by
  have h3 : (n : Int) ≤ 100000 := by omega
  have h4 : (0 : Int) < n := by omega
  have h5 : ¬ (n : Int) < 0 := by omega
  have hb : Try.t47.bytes = 32 := by kernel_rfl
  have hnc : Builtin.nextslicecap n 0 ≤ 2 * n := nextslicecap_le (by omega)
  have g1 := grownCap_ge w n 0 47
  have g2 := grownCap_le_maxLen w n 0 47 (by unfold maxLen; omega)
  unfold grownCap at g1 g2
  have k1 : ¬ 281474976710656 < Builtin.nextslicecap n 0 * Try.t47.bytes := by rw [hb]; omega
  have k2 : (n : Int) * (Try.t47.bytes : Int) ≤ 281474976710656 := by rw [hb]; omega
  have k3 : ¬ n = 0 := by omega
  go_enter Try.func60, Try.ntmps60
  go_wp2
  all_goals first
    | (exfalso; omega)
    | (refine bodyPost_ret (results_tmp rfl _ _ _) rfl ?_
       refine ⟨_, rfl, ((Chg.refl _ w).alloc _).drew, ?_⟩
       refine World.ownsRow.drew ⟨rfl, .inr ⟨w.heap.size, _, _, rfl, Nat.zero_le _, heap_alloc_new w _, Nat.zero_le _, g2, ?_, by simp⟩⟩
       simp only [Array.size_append, size_zeroCells]
       show n * 4 + _ * 4 = _ * 4
       omega)
end
end Go.Proofs.Yteaeflmglppcdaa
