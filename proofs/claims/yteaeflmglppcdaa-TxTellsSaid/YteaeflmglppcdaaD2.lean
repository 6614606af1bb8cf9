/- The contracts of the deferred closures: each catches a stop of the program's own, and keeps its error. -/
import Derived.Test.YteaeflmglppcdaaD1
import Derived.Defers
import Derived.Recover
namespace Go.Proofs.Yteaeflmglppcdaa
open Go.RowKit Tx

set_option maxRecDepth 100000 in
theorem catch32 (v : Int) (b : Nat) (u : Value) (w : World) (hc : w.cell? ⟨b, 0, none⟩ = some u) (hf : w.frozen? ⟨b, 0, none⟩ = false) :
    CallsD Try.prog 32 #[.pointer (some ⟨b, 0, none⟩)] (.panicking (stopV v)) w fun e u' w' =>
      e = .returned (.tuple #[]) ∧ u' = .panicking [{ v := .iface 101 (.agg #[.int .i64 v]), recovered := true }] ∧ w' = (w.setCell ⟨b, 0, none⟩ (.int .i64 v)).alloc (.cells #[.int .i64 v] 101) := by
  refine callsD_of_wpS Try.func32 rfl fun c₀ cs hu => ?_
  unfold stopV at hu
  have hC := stopped_stop v b 0 u w hc hf
  apply wpS_region
  simp [wpOpsS, go_sem, recoverD, hu, Try.ntmps32, Exit.thenS]
  refine hC.mono ?_
  rintro e w' ⟨rfl, rfl⟩
  simp [bodyPostS, results, Try.results32]
theorem idle32 (b : Nat) (w : World) :
    CallsD Try.prog 32 #[.pointer (some ⟨b, 0, none⟩)] .returning w fun e u' w' => e = .returned (.tuple #[]) ∧ u' = .returning ∧ w' = w := by
  refine callsD_of_wpS Try.func32 rfl fun c₀ cs hu => ?_
  have hC := stopped_nil (some ⟨b, 0, none⟩) w
  apply wpS_region
  simp [wpOpsS, go_sem, recoverD, hu, Try.ntmps32, Exit.thenS]
  refine hC.mono ?_
  rintro e w' ⟨rfl, rfl⟩
  cases c₀
  simp_all [bodyPostS, results, Try.results32]
set_option maxRecDepth 100000 in
theorem catch36 (v : Int) (b : Nat) (u : Value) (w : World) (hc : w.cell? ⟨b, 0, none⟩ = some u) (hf : w.frozen? ⟨b, 0, none⟩ = false) :
    CallsD Try.prog 36 #[.pointer (some ⟨b, 0, none⟩)] (.panicking (stopV v)) w fun e u' w' =>
      e = .returned (.tuple #[]) ∧ u' = .panicking [{ v := .iface 101 (.agg #[.int .i64 v]), recovered := true }] ∧ w' = (w.setCell ⟨b, 0, none⟩ (.int .i64 v)).alloc (.cells #[.int .i64 v] 101) := by
  refine callsD_of_wpS Try.func36 rfl fun c₀ cs hu => ?_
  unfold stopV at hu
  have hC := stopped_stop v b 0 u w hc hf
  apply wpS_region
  simp [wpOpsS, go_sem, recoverD, hu, Try.ntmps36, Exit.thenS]
  refine hC.mono ?_
  rintro e w' ⟨rfl, rfl⟩
  simp [bodyPostS, results, Try.results36]
theorem idle36 (b : Nat) (w : World) :
    CallsD Try.prog 36 #[.pointer (some ⟨b, 0, none⟩)] .returning w fun e u' w' => e = .returned (.tuple #[]) ∧ u' = .returning ∧ w' = w := by
  refine callsD_of_wpS Try.func36 rfl fun c₀ cs hu => ?_
  have hC := stopped_nil (some ⟨b, 0, none⟩) w
  apply wpS_region
  simp [wpOpsS, go_sem, recoverD, hu, Try.ntmps36, Exit.thenS]
  refine hC.mono ?_
  rintro e w' ⟨rfl, rfl⟩
  cases c₀
  simp_all [bodyPostS, results, Try.results36]
set_option maxRecDepth 100000 in
theorem catch41 (v : Int) (b : Nat) (u : Value) (w : World) (hc : w.cell? ⟨b, 0, none⟩ = some u) (hf : w.frozen? ⟨b, 0, none⟩ = false) :
    CallsD Try.prog 41 #[.pointer (some ⟨b, 0, none⟩)] (.panicking (stopV v)) w fun e u' w' =>
      e = .returned (.tuple #[]) ∧ u' = .panicking [{ v := .iface 101 (.agg #[.int .i64 v]), recovered := true }] ∧ w' = (w.setCell ⟨b, 0, none⟩ (.int .i64 v)).alloc (.cells #[.int .i64 v] 101) := by
  refine callsD_of_wpS Try.func41 rfl fun c₀ cs hu => ?_
  unfold stopV at hu
  have hC := stopped_stop v b 0 u w hc hf
  apply wpS_region
  simp [wpOpsS, go_sem, recoverD, hu, Try.ntmps41, Exit.thenS]
  refine hC.mono ?_
  rintro e w' ⟨rfl, rfl⟩
  simp [bodyPostS, results, Try.results41]
theorem idle41 (b : Nat) (w : World) :
    CallsD Try.prog 41 #[.pointer (some ⟨b, 0, none⟩)] .returning w fun e u' w' => e = .returned (.tuple #[]) ∧ u' = .returning ∧ w' = w := by
  refine callsD_of_wpS Try.func41 rfl fun c₀ cs hu => ?_
  have hC := stopped_nil (some ⟨b, 0, none⟩) w
  apply wpS_region
  simp [wpOpsS, go_sem, recoverD, hu, Try.ntmps41, Exit.thenS]
  refine hC.mono ?_
  rintro e w' ⟨rfl, rfl⟩
  cases c₀
  simp_all [bodyPostS, results, Try.results41]
set_option maxRecDepth 100000 in
theorem catch42 (v : Int) (b : Nat) (u : Value) (w : World) (hc : w.cell? ⟨b, 0, none⟩ = some u) (hf : w.frozen? ⟨b, 0, none⟩ = false) :
    CallsD Try.prog 42 #[.pointer (some ⟨b, 0, none⟩)] (.panicking (stopV v)) w fun e u' w' =>
      e = .returned (.tuple #[]) ∧ u' = .panicking [{ v := .iface 101 (.agg #[.int .i64 v]), recovered := true }] ∧ w' = (w.setCell ⟨b, 0, none⟩ (.int .i64 v)).alloc (.cells #[.int .i64 v] 101) := by
  refine callsD_of_wpS Try.func42 rfl fun c₀ cs hu => ?_
  unfold stopV at hu
  have hC := stopped_stop v b 0 u w hc hf
  apply wpS_region
  simp [wpOpsS, go_sem, recoverD, hu, Try.ntmps42, Exit.thenS]
  refine hC.mono ?_
  rintro e w' ⟨rfl, rfl⟩
  simp [bodyPostS, results, Try.results42]
theorem idle42 (b : Nat) (w : World) :
    CallsD Try.prog 42 #[.pointer (some ⟨b, 0, none⟩)] .returning w fun e u' w' => e = .returned (.tuple #[]) ∧ u' = .returning ∧ w' = w := by
  refine callsD_of_wpS Try.func42 rfl fun c₀ cs hu => ?_
  have hC := stopped_nil (some ⟨b, 0, none⟩) w
  apply wpS_region
  simp [wpOpsS, go_sem, recoverD, hu, Try.ntmps42, Exit.thenS]
  refine hC.mono ?_
  rintro e w' ⟨rfl, rfl⟩
  cases c₀
  simp_all [bodyPostS, results, Try.results42]
set_option maxRecDepth 100000 in
theorem catch45 (v : Int) (b : Nat) (u : Value) (w : World) (hc : w.cell? ⟨b, 0, none⟩ = some u) (hf : w.frozen? ⟨b, 0, none⟩ = false) :
    CallsD Try.prog 45 #[.pointer (some ⟨b, 0, none⟩)] (.panicking (stopV v)) w fun e u' w' =>
      e = .returned (.tuple #[]) ∧ u' = .panicking [{ v := .iface 101 (.agg #[.int .i64 v]), recovered := true }] ∧ w' = (w.setCell ⟨b, 0, none⟩ (.int .i64 v)).alloc (.cells #[.int .i64 v] 101) := by
  refine callsD_of_wpS Try.func45 rfl fun c₀ cs hu => ?_
  unfold stopV at hu
  have hC := stopped_stop v b 0 u w hc hf
  apply wpS_region
  simp [wpOpsS, go_sem, recoverD, hu, Try.ntmps45, Exit.thenS]
  refine hC.mono ?_
  rintro e w' ⟨rfl, rfl⟩
  simp [bodyPostS, results, Try.results45]
theorem idle45 (b : Nat) (w : World) :
    CallsD Try.prog 45 #[.pointer (some ⟨b, 0, none⟩)] .returning w fun e u' w' => e = .returned (.tuple #[]) ∧ u' = .returning ∧ w' = w := by
  refine callsD_of_wpS Try.func45 rfl fun c₀ cs hu => ?_
  have hC := stopped_nil (some ⟨b, 0, none⟩) w
  apply wpS_region
  simp [wpOpsS, go_sem, recoverD, hu, Try.ntmps45, Exit.thenS]
  refine hC.mono ?_
  rintro e w' ⟨rfl, rfl⟩
  cases c₀
  simp_all [bodyPostS, results, Try.results45]
set_option maxRecDepth 100000 in
theorem catch54 (v : Int) (b : Nat) (u : Value) (w : World) (hc : w.cell? ⟨b, 0, none⟩ = some u) (hf : w.frozen? ⟨b, 0, none⟩ = false) :
    CallsD Try.prog 54 #[.pointer (some ⟨b, 0, none⟩)] (.panicking (stopV v)) w fun e u' w' =>
      e = .returned (.tuple #[]) ∧ u' = .panicking [{ v := .iface 101 (.agg #[.int .i64 v]), recovered := true }] ∧ w' = (w.setCell ⟨b, 0, none⟩ (.int .i64 v)).alloc (.cells #[.int .i64 v] 101) := by
  refine callsD_of_wpS Try.func54 rfl fun c₀ cs hu => ?_
  unfold stopV at hu
  have hC := stopped_stop v b 0 u w hc hf
  apply wpS_region
  simp [wpOpsS, go_sem, recoverD, hu, Try.ntmps54, Exit.thenS]
  refine hC.mono ?_
  rintro e w' ⟨rfl, rfl⟩
  simp [bodyPostS, results, Try.results54]
theorem idle54 (b : Nat) (w : World) :
    CallsD Try.prog 54 #[.pointer (some ⟨b, 0, none⟩)] .returning w fun e u' w' => e = .returned (.tuple #[]) ∧ u' = .returning ∧ w' = w := by
  refine callsD_of_wpS Try.func54 rfl fun c₀ cs hu => ?_
  have hC := stopped_nil (some ⟨b, 0, none⟩) w
  apply wpS_region
  simp [wpOpsS, go_sem, recoverD, hu, Try.ntmps54, Exit.thenS]
  refine hC.mono ?_
  rintro e w' ⟨rfl, rfl⟩
  cases c₀
  simp_all [bodyPostS, results, Try.results54]
end Go.Proofs.Yteaeflmglppcdaa
