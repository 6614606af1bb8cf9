/- A function that leaves with marks of ranges over functions ahead of its deferred closure; a boxed operation. -/
import Derived.Test.YteaeflmglppcdaaD2
import Derived.RangeFuncLeaves
import Derived.RangeFuncNested
namespace Go.Proofs.Yteaeflmglppcdaa
open Go.RowKit Tx

/-- The mark of a range over a function, among the deferred calls. -/
def mark (D : Nat) : Deferred := { target := .collected D, args := #[] }
theorem marks_steps {P : Program} (rest : List Deferred) : ∀ (Ds : List Nat) (w : World) (fr : Frame) (cs : List Frame), fr.mode = .returning → fr.defers = Ds.map mark ++ rest →
    (∀ D ∈ Ds, w.heap[D]? = some (.deferred (some []))) → Ds.Nodup →
    ∃ w2, Steps P (lone fr cs w) (lone { fr with defers := rest } cs w2) ∧ Chg (fun k => k ∈ Ds) w w2 := by
  intro Ds
  induction Ds with
  | nil =>
    intro w fr cs hm hd _ _
    refine ⟨w, ?_, Chg.refl _ _⟩
    have : ({ fr with defers := rest } : Frame) = fr := by
      obtain ⟨⟩ := fr
      simp at hd
      simp [hd]
    rw [this]
    exact Steps.refl P _
  | cons D Ds ih =>
    intro w fr cs hm hd hh hn
    have hD := hh D (by simp)
    have hk := run_takeDeferred (P := P) hD
    have h1 := step_collected (P := P) (fr := fr) (cs := cs) (d := mark D) (r := D) (ds := Ds.map mark ++ rest) (calls := []) (by rw [hm]; simp) (by simpa using hd) rfl hk
    obtain ⟨w2, hs, hc⟩ := ih (w.putObj D (.deferred none)) { fr with defers := [] ++ (Ds.map mark ++ rest) } cs hm rfl
      (fun E hE => by
        have hne : E ≠ D := fun e => by subst e; exact (List.nodup_cons.1 hn).1 hE
        rw [World.putObj_heap_other hne]; exact hh E (by simp [hE])) (List.nodup_cons.1 hn).2
    refine ⟨w2, Steps.trans (.one h1) hs, ?_⟩
    have hc1 : Chg (fun k => k ∈ D :: Ds) w (w.putObj D (.deferred none)) :=
      (Chg.refl _ w).grown (grownBy_putObj' w D _) (fun k hk _ => by cases hk; simp)
    exact hc1.trans (hc.mono (fun k _ hk => by simp [hk]))
/-- What the body of a function must achieve that leaves, without a panic, with marks ahead of its deferred calls. -/
def bodyPostMarks (P : Program) (fn : Func) (R : Ending → World → Prop) : Exit → Act → World → Prop
  | .ret, a, w => ∃ (Ds : List Nat) (rest : List Deferred), a.defers = Ds.map mark ++ rest ∧ (∀ D ∈ Ds, w.heap[D]? = some (.deferred (some []))) ∧ Ds.Nodup ∧ ∀ w2, Chg (fun k => k ∈ Ds) w w2 → Leaves P fn a.tmps R rest .returning w2
  | _, _, _ => False
theorem calls_of_wp_marks {P : Program} {f : FuncId} {fn : Func} {c : Code} {args : Array Value} {w : World} {R : Ending → World → Prop}
    (hf : P.funcs[f]? = some fn) (hb : fn.body = some c)
    (h : c.wp P (bodyPostMarks P fn R) { tmps := args ++ Array.replicate (fn.ntmps - args.size) undef, defers := [] } w) : Calls P f args w R := by
  intro cs
  let b : Frame := { (default : Frame) with fn := f, kind := .normal }
  have henter : Frame.enter P f args .normal =
      b.at { tmps := args ++ Array.replicate (fn.ntmps - args.size) undef, defers := [] } [.code c] := by
    simp [Frame.enter, Frame.at, hf, hb, b]
  obtain ⟨e, a', w', hq, harr⟩ := h b [] cs
  rw [← henter] at harr
  cases e with
  | ret =>
    obtain ⟨todo, hs₀⟩ := harr
    obtain ⟨Ds, rest, hd, hh, hn, hl⟩ := hq
    obtain ⟨w2, hs1, hc⟩ := marks_steps (P := P) rest Ds w' { b.at a' todo with mode := .returning } cs rfl hd hh hn
    obtain ⟨e', w'', fr', hR, hs, hfn, hl⟩ := leaves_steps rest .returning w2 { { b.at a' todo with mode := .returning } with defers := rest } cs rfl rfl rfl hf rfl (hl w2 hc)
    exact ⟨e', w'', fr', hR, Comes.of_steps (Steps.trans hs₀ hs1) hs, hfn, hl⟩
  | normal => exact hq.elim
  | panic chain => exact hq.elim
  | exit id => exact hq.elim
  | goto l => exact hq.elim
  | outgrown => exact hq.elim

/-- Four cells that are laid and then filled are four filled cells that are laid. -/
theorem box4 (w : World) (z0 z1 z2 z3 a b c d : Value) (T : TypeId) :
    ((((w.alloc (.cells #[z0, z1, z2, z3] T)).setCell ⟨w.heap.size, 0, none⟩ a).setCell ⟨w.heap.size, 1, none⟩ b).setCell ⟨w.heap.size, 2, none⟩ c).setCell ⟨w.heap.size, 3, none⟩ d = w.alloc (.cells #[a, b, c, d] T) := by
  have key : ∀ (h : Array Obj) (o : Obj) (f : Obj → Obj), (h.push o).modify h.size f = h.push (f o) := by
    intro h o f
    apply Array.ext
    · simp
    · intro i h1 h2
      rw [Array.getElem_modify]
      simp at h1
      by_cases e : h.size = i
      · subst e; simp
      · rw [if_neg e, Array.getElem_push_lt (by omega), Array.getElem_push_lt (by omega)]
  simp only [World.setCell, World.alloc, key]
  rfl
end Go.Proofs.Yteaeflmglppcdaa
