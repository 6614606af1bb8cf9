/- The contracts of stopped, and of the deferred closures. -/
import Derived.Test.YteaeflmglppcdaaD0
import Derived.WideLaws
import Derived.LaidEql
namespace Go.Proofs.Yteaeflmglppcdaa
open Go.RowKit Tx

theorem eql_nil_nil (w : World) : (binOp .eql 20 .nilIface .nilIface).run Try.prog w = .ok (.bool true) w := by kernel_rfl
theorem eql_stop_nil (v : Int) (w : World) : (binOp .eql 20 (.iface 101 (.agg #[.int .i64 v])) .nilIface).run Try.prog w = .ok (.bool false) w := by kernel_rfl
theorem assert_stop (v : Int) (w : World) : (Instr.typeAssert (.iface 101 (.agg #[.int .i64 v])) 20 101 true).run Try.prog w = .ok (.tuple #[.agg #[.int .i64 v], .bool true]) w := by kernel_rfl

theorem stopped_nil (p : Option Addr) (w : World) : Calls Try.prog 33 #[.nilIface, .pointer p] w fun e w' => e = .returned (.tuple #[]) ∧ w' = w := by
  have h := eql_nil_nil w
  go_enter Try.func33, Try.ntmps33
  go_wp2
  first | go_end0 | refine bodyPost_ret (results_none rfl _ _ _) rfl ?_
  exact ⟨rfl, rfl⟩

theorem stopped_stop (v : Int) (b o : Nat) (u : Value) (w : World) (hc : w.cell? ⟨b, o, none⟩ = some u) (hf : w.frozen? ⟨b, o, none⟩ = false) :
    Calls Try.prog 33 #[.iface 101 (.agg #[.int .i64 v]), .pointer (some ⟨b, o, none⟩)] w fun e w' => e = .returned (.tuple #[]) ∧ w' = (w.setCell ⟨b, o, none⟩ (.int .i64 v)).alloc (.cells #[.int .i64 v] 101) := by
  have h := eql_stop_nil v w
  have h2 := assert_stop v w
  have hlt : b < w.heap.size := World.block_lt_of_cell? w _ hc
  go_enter Try.func33, Try.ntmps33
  go_wp2
  go_end0
  exact ⟨rfl, rfl⟩
end Go.Proofs.Yteaeflmglppcdaa
