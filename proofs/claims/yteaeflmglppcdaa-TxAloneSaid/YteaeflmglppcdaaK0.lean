/- What the statements share: a list of numbers is opened; the row's last step. -/
import Derived.Test.YteaeflmglppcdaaJ0
import Derived.ProofKit
import Derived.OpenShut
import Derived.Carry
namespace Go.Proofs.Yteaeflmglppcdaa
open Go.ChangeShapes Go.WideShapes Go.ChangeAt Go.RowKit

theorem own_knob : ownKnob Try.prog.godebug = none := by kernel_rfl
theorem laid_out : laidOutB Try.prog = true := by kernel_rfl
theorem cells98 : Try.prog.cellsOf 98 = 1 := by kernel_rfl
set_option maxRecDepth 100000 in
theorem open_u32 {H : Type} {enc : TypeId × Value → H} {W : World} {base : Nat} {v : Value} {d : DataW H} {p : List MemPlace} (hval : Value.okWide Try.prog W .any base 40 v) (h : DataW.Trod enc Try.prog W 0 (fun _ => true) true 40 v d p) :
    ∃ (a0 : Option Addr) (cap b off : Nat) (xs : List Int), v = .slice a0 xs.length cap ∧ U32At W a0 b off xs ∧ xs.length ≤ cap ∧ cap ≤ maxLen := by
  obtain ⟨a0, len, cap, rfl⟩ := okWide_slice Try.underlying40 hval
  obtain ⟨fuel, hf⟩ := h
  rcases open_ints Try.underlying40 Try.underlying98 cells98 hf with ⟨hcs, _⟩ | ⟨a, len', cap', zs, hcs, _, hl, hm, hz, _, hcell, _⟩
  · simp [Value.cells] at hcs
    obtain ⟨rfl, rfl, rfl⟩ := hcs
    exact ⟨none, 0, 0, 0, [], rfl, ⟨by decide, fun h => absurd rfl h, fun i x hi => by simp at hi⟩, by decide, by decide⟩
  · simp [Value.cells] at hcs
    obtain ⟨rfl, rfl, rfl⟩ := hcs
    simp only [if_true] at hz
    have hlen : (zs.take len).length = len := by rw [List.length_take]; omega
    obtain ⟨b, off, spot⟩ := a
    refine ⟨some ⟨b, off, spot⟩, cap, b, off, zs.take len, by rw [hlen], ⟨by omega, fun hne => ?_, fun i x hi => ?_⟩, by omega, hm⟩
    · have h0 : 0 < len := by rw [← hlen]; exact List.length_pos_iff.2 hne
      have hspot : spot = none := by simpa [Addr.add] using World.cell?_spot (hcell 0 (by omega))
      rw [hspot]
    · have hlt := (List.getElem?_eq_some_iff.1 hi).1
      rw [hlen] at hlt
      have hspot : spot = none := by simpa [Addr.add] using World.cell?_spot (hcell 0 (by omega))
      subst hspot
      have hc := hcell i (by omega)
      have ha : (⟨b, off, none⟩ : Addr).add i = ⟨b, off + i, none⟩ := by
        cases i with
        | zero => rfl
        | succ i => simp [Addr.add]
      rw [ha] at hc
      rw [hc]
      have hx : zs.getD i 0 = x := by
        rw [List.getElem?_take, if_pos hlt] at hi
        rw [List.getD_eq_getElem?_getD, hi]; rfl
      rw [hx]
set_option maxRecDepth 100000 in
theorem back_40 {H : Type} {enc : TypeId × Value → H} {W W' : World} {v : Value} {d : DataW H} {p : List MemPlace} (h : DataW.Trod enc Try.prog W 0 (fun _ => true) true 40 v d p) (hN : New W W') (hlt : ∀ x ∈ p, x.block < W.heap.size) :
    DataW.Trod enc Try.prog W' 0 (fun b => decide (b < W.heap.size)) true 40 v d p := Below.trod laid_out (by kernel_rfl) (of_decide_eq_true (by kernel_rfl)) h hN.below hlt
end Go.Proofs.Yteaeflmglppcdaa
