/- A script of operations is opened; the statement's arguments behind the call. The statement TxTells holds: for every script of operations and every number the call returns true, and the arguments read as they did. -/
import Derived.Test.YteaeflmglppcdaaI0
import Derived.ProofKit
import Derived.OpenShut
import Derived.Carry
import Derived.Deep.Slices
import Derived.Test.YteaeflmglppcdaaTF
namespace Go.Proofs.Yteaeflmglppcdaa
open Go.ChangeShapes Go.WideShapes Go.ChangeAt Go.RowKit Tx

theorem own_knob : ownKnob Try.prog.godebug = none := by kernel_rfl
theorem laid_out : laidOutB Try.prog = true := by kernel_rfl
theorem cells47 : Try.prog.cellsOf 47 = 4 := by kernel_rfl
theorem cells3 : Try.prog.cellsOf 3 = 1 := by kernel_rfl
theorem zero_mul4 (i j : Nat) : (⟨i, j, none⟩ : Addr).add 0 = ⟨i, j, none⟩ := rfl
theorem choose_op (n : Nat) (R : Nat → Tx.Op → Prop) (h : ∀ i, i < n → ∃ o, R i o) : ∃ l : List Tx.Op, l.length = n ∧ ∀ i o, l[i]? = some o → R i o := by
  induction n with
  | zero => exact ⟨[], rfl, fun i o hi => by simp at hi⟩
  | succ n ih =>
    obtain ⟨l, hl, hr⟩ := ih fun i hi => h i (by omega)
    obtain ⟨o, ho⟩ := h n (by omega)
    refine ⟨l ++ [o], by simp [hl], fun i p hi => ?_⟩
    rcases Nat.lt_or_ge i l.length with h1 | h1
    · rw [List.getElem?_append_left h1] at hi
      exact hr i p hi
    · rw [List.getElem?_append_right h1] at hi
      have hlt := (List.getElem?_eq_some_iff.1 hi).1
      simp at hlt
      have : i = n := by omega
      subst this
      rw [show i - l.length = 0 by omega] at hi
      simp at hi
      subst hi
      exact ho
set_option maxRecDepth 100000 in
theorem open_ops {H : Type} {enc : TypeId × Value → H} {W : World} {base : Nat} {v : Value} {d : DataW H} {p : List MemPlace} (hval : Value.okWide Try.prog W .any base 22 v) (h : DataW.Trod enc Try.prog W 0 (fun _ => true) true 22 v d p) :
    ∃ (a0 : Option Addr) (cap b : Nat) (off : Nat) (xs : List Tx.Op), v = .slice a0 xs.length cap ∧ OpsAt W a0 b off xs ∧ (b < W.heap.size ∨ xs = []) := by
  obtain ⟨a0, len, cap, rfl⟩ := okWide_slice Try.underlying22 hval
  obtain ⟨fuel, hf⟩ := h
  rcases Deep.open_slice Try.underlying22 hf with ⟨hcs, _⟩ | ⟨a, len', cap', m, n, D, Pl, hcs, _, hl, hm, hmm, _, hx⟩
  · simp [Value.cells] at hcs
    obtain ⟨rfl, rfl, rfl⟩ := hcs
    exact ⟨none, 0, 0, 0, [], rfl, ⟨by decide, fun h => absurd rfl h, fun i x hi => by simp at hi⟩, .inr rfl⟩
  · simp [Value.cells] at hcs
    obtain ⟨rfl, rfl, rfl⟩ := hcs
    simp only [if_true] at hmm
    subst hmm
    have each : ∀ i, i < len → ∃ o : Tx.Op, ∀ j, j < 4 → W.cell? (a.add (i * 4 + j)) = some (opCell o j) := fun i hi => by
      obtain ⟨cs', h1, h2⟩ := hx i (by omega)
      rw [cells47] at h1
      obtain ⟨_, hlen, hcell⟩ := World.cells?_some h1
      obtain ⟨xs, k, _, _, _, hxl, hf4⟩ := DataW.trod_struct Try.underlying47 h2
      match xs, hxl, cs', hlen with
      | [y0, y1, y2, y3], _, [v0, v1, v2, v3], _ =>
        have g0 := hf4 0 _ rfl
        have g1 := hf4 1 _ rfl
        have g2 := hf4 2 _ rfl
        have g3 := hf4 3 _ rfl
        simp [cells3] at g0 g1 g2 g3
        obtain ⟨z0, e0, _, _⟩ := DataW.trod_int Try.underlying3 g0
        obtain ⟨z1, e1, _, _⟩ := DataW.trod_int Try.underlying3 g1
        obtain ⟨z2, e2, _, _⟩ := DataW.trod_int Try.underlying3 g2
        obtain ⟨z3, e3, _, _⟩ := DataW.trod_int Try.underlying3 g3
        simp at e0 e1 e2 e3
        subst e0 e1 e2 e3
        refine ⟨⟨z0, z1, z2, z3⟩, fun j hj => ?_⟩
        have hc := hcell j hj
        rw [Deep.add_add] at hc
        have : j = 0 ∨ j = 1 ∨ j = 2 ∨ j = 3 := by omega
        rcases this with rfl | rfl | rfl | rfl <;> simpa [opCell] using hc
    obtain ⟨b, off, spot⟩ := a
    obtain ⟨xs, hxl, hxs⟩ := choose_op len _ each
    have hspot : 0 < len → spot = none := fun h0 => by
      obtain ⟨o, ho⟩ := each 0 h0
      simpa [Addr.add] using World.cell?_spot (ho 0 (by omega))
    refine ⟨some ⟨b, off, spot⟩, m, b, off, xs, by rw [hxl], ⟨by omega, fun hne => ?_, fun i o hi j hj => ?_⟩, ?_⟩
    · rw [hspot (by rw [← hxl]; exact List.length_pos_iff.2 hne)]
    · have hlt := (List.getElem?_eq_some_iff.1 hi).1
      have hc := hxs i o hi j hj
      rw [hspot (by omega)] at hc
      have ha : (⟨b, off, none⟩ : Addr).add (i * 4 + j) = ⟨b, off + i * 4 + j, none⟩ := by
        cases h0 : i * 4 + j with
        | zero => simp [Addr.add]; omega
        | succ q => simp [Addr.add]; omega
      rw [ha] at hc
      exact hc
    · cases xs with
      | nil => exact .inr rfl
      | cons o r =>
        have hc := hxs 0 o rfl 0 (by omega)
        exact .inl (World.block_lt_of_cell? W _ (by simpa [Addr.add] using hc))
set_option maxRecDepth 100000 in
theorem back_22 {H : Type} {enc : TypeId × Value → H} {W W' : World} {v : Value} {d : DataW H} {p : List MemPlace} (h : DataW.Trod enc Try.prog W 0 (fun _ => true) true 22 v d p) (hN : New W W') (hlt : ∀ x ∈ p, x.block < W.heap.size) :
    DataW.Trod enc Try.prog W' 0 (fun b => decide (b < W.heap.size)) true 22 v d p := Below.trod laid_out (by kernel_rfl) (of_decide_eq_true (by kernel_rfl)) h hN.below hlt
set_option maxRecDepth 100000 in
theorem back_3 {H : Type} {enc : TypeId × Value → H} {W W' : World} {v : Value} {d : DataW H} {p : List MemPlace} (h : DataW.Trod enc Try.prog W 0 (fun _ => true) true 3 v d p) (hN : New W W') (hlt : ∀ x ∈ p, x.block < W.heap.size) :
    DataW.Trod enc Try.prog W' 0 (fun b => decide (b < W.heap.size)) true 3 v d p := Below.trod laid_out (by kernel_rfl) (of_decide_eq_true (by kernel_rfl)) h hN.below hlt
end Go.Proofs.Yteaeflmglppcdaa
namespace Go.Proofs.Yteaeflmglppcdaa
open Go.ChangeShapes Go.WideShapes Go.ChangeAt Go.RowKit

set_option maxRecDepth 100000 in
theorem tells_lifted (os : Os) (started : os.Started) (H : Type) (enc : TypeId × Value → H) :
    ReturnsInHanded {} Try.checked os 3 .any (Rows.txTellsSpec.pre6 enc Try.prog Try.f3 Rows.txTellsRow.domain false) (Rows.txTellsSpec.post enc Try.prog Try.f3 false true false false) := by
  refine returnsInHanded_of_change (C := Try.checked) own_knob started (by kernel_rfl) Try.func3
    (ChangeSpec.witness6 (enc := enc) (C := Try.checked) false ⟨#[], #[.slice none 0 0, .int .i64 0], []⟩ 8 (by kernel_rfl) (by kernel_rfl) (by kernel_rfl) (by kernel_rfl)) ?_
  intro W base args ds gs before hval0 hW hcnd _
  have hval : ∀ (j : Nat) t v, Try.f3.params[j]? = some t → args[j]? = some v → Value.okWide Try.prog W .any base t v := hval0
  have hW' := hW
  obtain ⟨p, q, hA0, hV, rfl, hfz, hnd⟩ := hW
  have hA : DataW.TrodAll enc Try.prog W 0 (fun _ => true) true Try.f3.params.toList args.toList ds p := hA0
  rw [Try.params3] at hA hval
  obtain ⟨v0, v1, d0, d1, p0, p1, rfl, rfl, rfl, h0, h1⟩ := trodAll_two hA
  obtain ⟨rfl, rfl⟩ := trodVars_none hV
  obtain ⟨n, rfl, rfl, rfl, wn⟩ := open_int Try.underlying3 (hval 1 3 v1 rfl rfl) h1
  obtain ⟨a0, cap, b, off, xs, rfl, hO, _⟩ := open_ops (hval 0 22 v0 rfl rfl) h0
  clear hA0 hval0
  simp only [List.append_nil] at hW'
  have hlt : ∀ x ∈ p0, x.block < W.heap.size := fun x hx => by simpa using hW'.lt x hx
  refine (tells_walk a0 b off cap xs n hO).mono fun e W' ⟨he, hN⟩ => ?_
  subst he
  exact ⟨_, rfl, _, _, _, [], p0 ++ [], [], hW', trodAll_cons_mk (shut_bool Try.underlying4 _) trodAll_mk0, trodAll_cons_mk (back_22 h0 hN hlt) (trodAll_cons_mk (shut_int Try.underlying3 wn) trodAll_mk0), rfl, hN.below.frame _, fun h => by cases h⟩
theorem tells_over : Rows.txTellsRow.holds Try.pinned (OpenSpec.ofChange Rows.txTellsSpec) :=
  OpenClaim.holds_of_wide 3 Try.f3 rfl rfl rfl rfl rfl rfl rfl ⟨rfl, rfl, rfl, rfl, rfl⟩ rfl rfl rfl rfl rfl (by kernel_rfl) Try.func3 (by kernel_rfl)
    (of_decide_eq_true (by kernel_rfl)) (by unfold Func.isWrapper; first | (rw [if_pos (by decide +kernel)]; kernel_rfl) | (rw [if_neg (by decide +kernel)]; exact ⟨rfl, rfl⟩))
    (fun os started H enc _ => tells_lifted os started H enc)
theorem txTells_holds : Rows.TxTellsSaid := tells_over
#print axioms txTells_holds
end Go.Proofs.Yteaeflmglppcdaa
