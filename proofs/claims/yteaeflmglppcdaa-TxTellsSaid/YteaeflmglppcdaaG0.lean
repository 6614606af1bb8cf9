/- The contracts of the law's two tables: the script and its answers. -/
import Derived.Test.YteaeflmglppcdaaE0
namespace Go.Proofs.Yteaeflmglppcdaa
open Go.RowKit Tx

def scriptL : List Tx.Op := [⟨0, 0, 0, 0⟩, ⟨0, 1, 0, 0⟩, ⟨3, 0, 3, 5⟩, ⟨3, 1, 3, 7⟩, ⟨2, 1, 4, 1⟩, ⟨4, 0, 0, 0⟩, ⟨1, 1, 5, 0⟩, ⟨4, 1, 0, 0⟩, ⟨0, 2, 0, 0⟩, ⟨1, 2, 3, 0⟩, ⟨4, 2, 0, 0⟩]
def answersL : List Ans := [⟨0, 0⟩, ⟨0, 0⟩, ⟨0, 5⟩, ⟨0, 7⟩, ⟨0, 0⟩, ⟨0, 1⟩, ⟨0, 0⟩, ⟨10, 0⟩, ⟨0, 1⟩, ⟨0, 5⟩, ⟨0, 0⟩]
theorem script_runs : (Tx.run St.zero scriptL).1 = answersL := by decide +kernel
def opRow (l : List Tx.Op) : List Value := l.flatMap fun o => [.int .i64 o.d, .int .i64 o.t, .int .i64 o.k, .int .i64 o.n]
section
variable {w : World}
set_option maxHeartbeats 1000000 in
theorem script_any (w : World) : Calls Try.prog 30 #[] w fun e w' => e = .returned (.slice (some ⟨w.heap.size, 0, none⟩) 11 11) ∧ w' = w.alloc (.cells (opRow scriptL).toArray 47) := by
  go_enter Try.func30, Try.ntmps30
  go_wp2
  go_ret
  exact ⟨rfl, rfl⟩
set_option maxHeartbeats 1000000 in
theorem answers_any (w : World) : Calls Try.prog 31 #[] w fun e w' => e = .returned (.slice (some ⟨w.heap.size, 0, none⟩) 11 11) ∧ w' = w.alloc (.cells (ansRow answersL).toArray 49) := by
  go_enter Try.func31, Try.ntmps31
  go_wp2
  go_ret
  exact ⟨rfl, rfl⟩
theorem length_opRow (l : List Tx.Op) : (opRow l).length = l.length * 4 := by
  induction l with
  | nil => rfl
  | cons o l ih => simp only [opRow, List.flatMap_cons, List.length_append, List.length_cons, List.length_nil] at ih ⊢; omega
/-- A script that has just been laid. -/
theorem OpsAt.fresh (w : World) (l : List Tx.Op) (hl : l.length ≤ maxLen) : OpsAt (w.alloc (.cells (opRow l).toArray 47)) (some ⟨w.heap.size, 0, none⟩) w.heap.size 0 l := by
  refine ⟨hl, fun _ => rfl, fun i o hi j hj => ?_⟩
  rw [World.cell?_alloc_new]
  have h := flatMap_at (fun o : Tx.Op => [Value.int .i64 o.d, .int .i64 o.t, .int .i64 o.k, .int .i64 o.n]) 4 (fun _ => rfl) l i j ⟨0, 0, 0, 0⟩ (List.getElem?_eq_some_iff.1 hi).1 hj
  have ho : l.getD i ⟨0, 0, 0, 0⟩ = o := by rw [List.getD_eq_getElem?_getD, hi]; rfl
  rw [ho] at h
  rw [Nat.zero_add]
  simp only [List.getElem?_toArray]
  show (l.flatMap _)[i * 4 + j]? = _
  rw [h]
  have : j = 0 ∨ j = 1 ∨ j = 2 ∨ j = 3 := by omega
  rcases this with rfl | rfl | rfl | rfl <;> rfl
end
end Go.Proofs.Yteaeflmglppcdaa
