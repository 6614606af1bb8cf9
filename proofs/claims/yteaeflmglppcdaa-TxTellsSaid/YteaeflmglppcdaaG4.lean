/- The contract of answered. -/
import Derived.Test.YteaeflmglppcdaaE2
namespace Go.Proofs.Yteaeflmglppcdaa
open Go.RowKit Tx
theorem owns_len {w : World} {base e size n : Nat} {v : Value} {xs : List Value} (h : w.ownsRow base e size v n xs) : ∃ a c, v = .slice a n c := by
  rcases h.2 with ⟨rfl, rfl⟩ | ⟨g, cap, cur, rfl, _⟩
  · exact ⟨_, _, rfl⟩
  · exact ⟨_, _, rfl⟩
section
variable {w : World}
set_option maxRecDepth 100000 in
set_option maxHeartbeats 1000000 in
theorem answered_any (a : Option Addr) (b off c : Nat) (ops : List Tx.Op) (hO : OpsAt w a b off ops) (hb : b < w.heap.size ∨ ops = []) (hl : ops.length ≤ 200) :
    Calls Try.prog 26 #[.slice a ops.length c] w fun e w' => ∃ v, e = .returned (.tuple #[v, .bool true]) ∧ New w w' ∧
      w'.ownsRow 0 49 2 v ops.length (ansRow (Tx.run St.zero ops).1) ∧ ∀ g, v.ownBlock = some g → w.heap.size ≤ g := by
  have HR := Lib.hid (run_any a b off c ops hO hb hl)
  have hl2 : (ops.length : Int) ≤ 200 := by omega
  clear hO hb
  go_enter Try.func26, Try.ntmps26
  go_wp2_with ((refine HR.out.mono ?_); rintro e w2 ⟨v, rfl, hN, hown, hg⟩; have hfm := owns_len hown; obtain ⟨va, vc, rfl⟩ := hfm)
  refine bodyPost_ret (results_tmp2 rfl _ _ _) rfl ?_
  exact ⟨_, by simp, hN, hown, hg⟩
end
end Go.Proofs.Yteaeflmglppcdaa
