/- The statement TxNames: the values of the names are the document's, and so are its examples. -/
import Derived.Test.YteaeflmglppcdaaI0
import Derived.ProofKit
import Derived.OpenShut
namespace Go.Proofs.Yteaeflmglppcdaa
open Go.ChangeShapes Go.WideShapes Go.ChangeAt Go.RowKit Tx

def namesL : List Tx.Op := [⟨1, 1, 5, 0⟩, ⟨0, 16, 0, 0⟩, ⟨6, 0, 0, 0⟩, ⟨0, 0, 0, 0⟩, ⟨0, 0, 0, 0⟩, ⟨2, 0, 16, 0⟩, ⟨2, 0, 0, 2147483648⟩, ⟨5, 0, 0, 0⟩, ⟨4, 0, 0, 0⟩]
def namesE : List Int := [6, 2, 1, 0, 5, 2, 2, 0, 6]
def namesA : List Ans := [⟨6, 0⟩, ⟨2, 0⟩, ⟨1, 0⟩, ⟨0, 0⟩, ⟨5, 0⟩, ⟨2, 0⟩, ⟨2, 0⟩, ⟨0, 0⟩, ⟨6, 0⟩]
theorem names_run : (Tx.run St.zero namesL).1 = namesA := by decide +kernel
noncomputable def zeros201 : Array Value := Builtin.zeroCells zero47.cells 201
theorem make201 (w : World) : (Instr.makeSlice 22 (.int .i64 201) (.int .i64 201)).run Try.prog w = .ok (.slice (some ⟨w.heap.size, 0, none⟩) 201 201) (w.alloc (.cells zeros201 47)) := by kernel_rfl
theorem none_run : (Tx.run St.zero []).2.insts.length = 1 := rfl
section
variable {w : World}
theorem names_run12 (w : World) : Calls Try.prog 12 #[.slice (some ⟨w.heap.size, 0, none⟩) 9 9] (w.alloc (.cells #[.int .i64 1, .int .i64 1, .int .i64 5, .int .i64 0, .int .i64 0, .int .i64 16, .int .i64 0, .int .i64 0, .int .i64 6, .int .i64 0, .int .i64 0, .int .i64 0, .int .i64 0, .int .i64 0, .int .i64 0, .int .i64 0, .int .i64 0, .int .i64 0, .int .i64 0, .int .i64 0, .int .i64 2, .int .i64 0, .int .i64 16, .int .i64 0, .int .i64 2, .int .i64 0, .int .i64 0, .int .i64 2147483648, .int .i64 5, .int .i64 0, .int .i64 0, .int .i64 0, .int .i64 4, .int .i64 0, .int .i64 0, .int .i64 0] 47)) fun e w' =>
    ∃ b c, e = .returned (.tuple #[.slice (some ⟨b, 0, none⟩) 9 c, .int .i64 0]) ∧ New w w' ∧ AnsAt w' (some ⟨b, 0, none⟩) b 0 namesA := by
  show Calls Try.prog 12 #[.slice (some ⟨w.heap.size, 0, none⟩) 9 9] (w.alloc (.cells (opRow namesL).toArray 47)) _
  refine (run_any (some ⟨w.heap.size, 0, none⟩) w.heap.size 0 9 namesL (OpsAt.fresh w namesL (by decide)) (.inl (by simp)) (by decide)).mono ?_
  rintro e w' ⟨v, rfl, hN, hown, _⟩
  obtain ⟨a, c, rfl⟩ := row_shape hown
  rw [names_run] at hown
  obtain ⟨g, hA, ha⟩ := ans_row hown rfl
  obtain rfl := ha (by decide)
  exact ⟨g, c, rfl, ((Chg.refl _ w).alloc _).trans hN, hA⟩
theorem names_run201 (w : World) : Calls Try.prog 12 #[.slice (some ⟨w.heap.size, 0, none⟩) 201 201] (w.alloc (.cells zeros201 47)) fun e w' => e = .returned (.tuple #[.slice none 0 0, .int .i64 3]) ∧ New w w' := by
  refine (run_no (some ⟨w.heap.size, 0, none⟩) 201 201 (by decide) (by decide)).mono ?_
  rintro e w' ⟨rfl, hN⟩
  exact ⟨rfl, ((Chg.refl _ w).alloc _).trans hN⟩
theorem names_at (w : World) : Calls Try.prog 14 #[.slice none 0 0, .int .i64 1] w fun e w' => e = .returned (.tuple #[.slice none 0 0, .int .i64 2]) ∧ New w w' :=
  at_range none 0 0 0 [] 1 ⟨by decide, fun h => absurd rfl h, fun i o hi => by simp at hi⟩ (by decide) (by rw [none_run]; decide)
theorem names_key (i : Nat) (x : Ans) (e : Int) (h1 : namesA[i]? = some x) (h2 : namesE[i]? = some e) : x.e = e := by
  have : i < 9 := (List.getElem?_eq_some_iff.1 h1).1
  have h3 : i = 0 ∨ i = 1 ∨ i = 2 ∨ i = 3 ∨ i = 4 ∨ i = 5 ∨ i = 6 ∨ i = 7 ∨ i = 8 := by omega
  rcases h3 with rfl | rfl | rfl | rfl | rfl | rfl | rfl | rfl | rfl <;> (cases h1; cases h2; rfl)
set_option maxRecDepth 100000 in
set_option maxHeartbeats 2000000 in
theorem names_walk (w : World) : Calls Try.prog 10 #[] w fun e w' => e = .returned (.bool true) ∧ New w w' := by
  have hmk := make201
  go_enter Try.func10, Try.ntmps10
  go_wp2_with (first
    | ((with_reducible refine (names_run12 _).mono ?_); rintro e w1 ⟨b1, c1, rfl, hN1, hA1⟩)
    | ((with_reducible refine (names_run201 _).mono ?_); rintro e w2 ⟨rfl, hN2⟩)
    | ((with_reducible refine (names_at _).mono ?_); rintro e w3 ⟨rfl, hN3⟩))
  have hA3 := (hA1.kept (hN2.trans hN3)).kept ((Chg.refl _ w3).alloc (.cells #[.int .i64 6, .int .i64 2, .int .i64 1, .int .i64 0, .int .i64 5, .int .i64 2, .int .i64 2, .int .i64 0, .int .i64 6] 25))
  have hI3 : IntsAt (w3.alloc (.cells #[.int .i64 6, .int .i64 2, .int .i64 1, .int .i64 0, .int .i64 5, .int .i64 2, .int .i64 2, .int .i64 0, .int .i64 6] 25)) (some ⟨w3.heap.size, 0, none⟩) w3.heap.size 0 namesE := IntsAt.fresh w3 namesE 25 (by decide)
  have hN4 : New w (w3.alloc (.cells #[.int .i64 6, .int .i64 2, .int .i64 1, .int .i64 0, .int .i64 5, .int .i64 2, .int .i64 2, .int .i64 0, .int .i64 6] 25)) := ((hN1.trans hN2).trans hN3).alloc _
  have hsz := World.size_alloc w3 (.cells #[.int .i64 6, .int .i64 2, .int .i64 1, .int .i64 0, .int .i64 5, .int .i64 2, .int .i64 2, .int .i64 0, .int .i64 6] 25)
  have HA3 := Lib.hid hA3; have HI3 := Lib.hid hI3; have HN4 := Lib.hid hN4
  clear hA3 hI3 hN4 hA1 hN1 hN2 hN3 hsz
  generalize w3.alloc _ = W at *
  generalize w3.heap.size = bw at *
  go_loopw [45] (fun v wr => ∃ i : Nat, i ≤ 9 ∧ v = .int .i64 i ∧ New W wr) (fun v _ => 9 - (intOf v).toNat)
  case atStart => exact ⟨0, by omega, rfl, Chg.refl _ _⟩
  case round =>
    obtain ⟨i, hi, rfl, hN⟩ := hrel
    by_cases hlt : i < 9
    · obtain ⟨x, hx⟩ : ∃ x, namesA[i]? = some x := ⟨_, List.getElem?_eq_getElem (by simpa [namesA] using hlt)⟩
      obtain ⟨e, he⟩ : ∃ e, namesE[i]? = some e := ⟨_, List.getElem?_eq_getElem (by simpa [namesE] using hlt)⟩
      obtain rfl := names_key i x e hx he
      obtain ⟨c0, c1'⟩ := (HA3.out.kept hN).cell i x hx
      have c2 := ((HI3.out.kept hN).kept ((Chg.refl _ wr).alloc (.cells #[.int .i64 x.e, .int .i64 x.n] 49))).cell i _ he
      have c3 : (wr.alloc (.cells #[.int .i64 x.e, .int .i64 x.n] 49)).cell? ⟨wr.heap.size, 0, none⟩ = some (.int .i64 x.e) := by rw [World.cell?_alloc_new]; rfl
      rw [Nat.zero_add] at c0 c1' c2
      have hN5 : New W (wr.alloc (.cells #[.int .i64 x.e, .int .i64 x.n] 49)) := hN.alloc _
      have b3 : (0 : Int) ≤ (i : Int) := by omega
      have b4 : (i : Int) < 9 := by omega
      have HN := Lib.hid hN5
      clear hN hN5 hx he
      go_upto_region 10 with fail
      generalize wr.alloc _ = w5 at *
      generalize wr.heap.size = b5 at *
      go_quiet (fail)
      go_wp2
      refine ⟨⟨i + 1, by omega, by go_num, HN.out.drewN _⟩, by simp [intOf]; omega⟩
    · obtain rfl : i = 9 := by omega
      have HN := Lib.hid hN
      clear hN
      go_wp2_with ((with_reducible refine (awake_any _).mono ?_); rintro e w9 ⟨rfl, hN9⟩)
      go_ret
      exact ⟨rfl, (HN4.out.trans HN.out).trans hN9⟩
end
end Go.Proofs.Yteaeflmglppcdaa
