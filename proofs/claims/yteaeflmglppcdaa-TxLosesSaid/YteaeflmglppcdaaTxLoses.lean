/- The statement TxLoses holds: for every list of numbers the call returns true, and the list reads as it did. -/
import Derived.Test.YteaeflmglppcdaaK0
import Derived.Test.YteaeflmglppcdaaJ8
namespace Go.Proofs.Yteaeflmglppcdaa
open Go.ChangeShapes Go.WideShapes Go.ChangeAt Go.RowKit

set_option maxRecDepth 100000 in
theorem loses_lifted (os : Os) (started : os.Started) (H : Type) (enc : TypeId × Value → H) :
    ReturnsInHanded {} Try.checked os 7 .any (Rows.txLosesSpec.pre6 enc Try.prog Try.f7 Rows.txLosesRow.domain false) (Rows.txLosesSpec.post enc Try.prog Try.f7 false true false false) := by
  refine returnsInHanded_of_change (C := Try.checked) own_knob started (by kernel_rfl) Try.func7
    (ChangeSpec.witness6 (enc := enc) (C := Try.checked) false ⟨#[], #[.slice none 0 0], []⟩ 8 (by kernel_rfl) (by kernel_rfl) (by kernel_rfl) (by kernel_rfl)) ?_
  intro W base args ds gs before hval0 hW hcnd _
  have hval : ∀ (j : Nat) t v, Try.f7.params[j]? = some t → args[j]? = some v → Value.okWide Try.prog W .any base t v := hval0
  have hW' := hW
  obtain ⟨p, q, hA0, hV, rfl, hfz, hnd⟩ := hW
  have hA : DataW.TrodAll enc Try.prog W 0 (fun _ => true) true Try.f7.params.toList args.toList ds p := hA0
  rw [Try.params7] at hA hval
  obtain ⟨v0, d0, rfl, rfl, h0⟩ := trodAll_one hA
  obtain ⟨rfl, rfl⟩ := trodVars_none hV
  obtain ⟨a0, cap, b, off, xs, rfl, hU, hc, hc3⟩ := open_u32 (hval 0 40 v0 rfl rfl) h0
  clear hA0 hval0
  simp only [List.append_nil] at hW'
  have hlt : ∀ x ∈ p, x.block < W.heap.size := fun x hx => by simpa using hW'.lt x hx
  refine (loses_walk a0 b off cap xs hU hc hc3).mono fun e W' ⟨he, hN⟩ => ?_
  subst he
  exact ⟨_, rfl, _, _, _, [], p ++ [], [], hW', trodAll_cons_mk (shut_bool Try.underlying4 _) trodAll_mk0, trodAll_cons_mk (back_40 h0 hN hlt) trodAll_mk0, rfl, hN.below.frame _, fun h => by cases h⟩
theorem loses_over : Rows.txLosesRow.holds Try.pinned (OpenSpec.ofChange Rows.txLosesSpec) :=
  OpenClaim.holds_of_wide 7 Try.f7 rfl rfl rfl rfl rfl rfl rfl ⟨rfl, rfl, rfl, rfl, rfl⟩ rfl rfl rfl rfl rfl (by kernel_rfl) Try.func7 (by kernel_rfl)
    (of_decide_eq_true (by kernel_rfl)) (by unfold Func.isWrapper; first | (rw [if_pos (by decide +kernel)]; kernel_rfl) | (rw [if_neg (by decide +kernel)]; exact ⟨rfl, rfl⟩))
    (fun os started H enc _ => loses_lifted os started H enc)
theorem txLoses_holds : Rows.TxLosesSaid := loses_over
#print axioms txLoses_holds
end Go.Proofs.Yteaeflmglppcdaa
