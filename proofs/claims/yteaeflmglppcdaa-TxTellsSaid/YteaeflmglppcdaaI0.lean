/- The contract of awake: the results that the document fixes. -/
import Derived.Test.YteaeflmglppcdaaH4
import Derived.Test.YteaeflmglppcdaaE5
import Derived.Test.YteaeflmglppcdaaG3
import Derived.Test.YteaeflmglppcdaaG4
namespace Go.Proofs.Yteaeflmglppcdaa
open Go.RowKit Tx

theorem IntsAt.kept {w w' : World} {a : Option Addr} {b off : Nat} {xs : List Int} (h : IntsAt w a b off xs) (hc : New w w') : IntsAt w' a b off xs :=
  ⟨h.len, h.ptr, fun i x hi => by
    have := h.cell i x hi
    rw [hc.cell (World.block_lt_of_cell? w _ this) (fun x => x)]; exact this⟩
theorem AnsAt.kept {w w' : World} {a : Option Addr} {b off : Nat} {xs : List Ans} (h : AnsAt w a b off xs) (hc : New w w') : AnsAt w' a b off xs :=
  ⟨h.len, h.ptr, fun i x hi => by
    have := h.cell i x hi
    rw [hc.cell (World.block_lt_of_cell? w _ this.1) (fun x => x), hc.cell (World.block_lt_of_cell? w _ this.2) (fun x => x)]; exact this⟩
theorem row_len {w : World} {B : Nat} {T : TypeId} {sz n : Nat} {v : Value} {xs : List Value} (h : w.ownsRow B T sz v n xs) : n ≤ maxLen := by
  rcases h.2 with ⟨_, rfl⟩ | ⟨g, cap, cur, _, _, _, h1, h2, _⟩
  · exact Nat.zero_le _
  · omega
/-- A row of integers is a list of integers in memory. -/
theorem ints_row {w : World} {a : Option Addr} {n c : Nat} {xs : List Int} (h : w.ownsRow 0 3 1 (.slice a n c) n (intRow xs)) (hl : xs.length = n) : ∃ g, IntsAt w a g 0 xs ∧ (0 < n → a = some ⟨g, 0, none⟩) := by
  have hm := row_len h
  rcases Nat.eq_zero_or_pos n with h0 | h0
  · have : xs = [] := List.eq_nil_of_length_eq_zero (by omega)
    subst this
    exact ⟨0, ⟨by simp, fun h => absurd rfl h, fun i x hi => by simp at hi⟩, fun h => by omega⟩
  · obtain ⟨g, cap, hv, _, hg⟩ := h.form h0
    obtain ⟨rfl, rfl⟩ : a = some ⟨g, 0, none⟩ ∧ c = cap := by simpa using hv
    refine ⟨g, ⟨by omega, fun _ => rfl, fun i x hi => ?_⟩, fun _ => rfl⟩
    have hlt := (List.getElem?_eq_some_iff.1 hi).1
    rw [Nat.zero_add, World.ownsRow.cellAt (h := h) i (by omega)]
    simp [intRow, hi]
theorem ans_row {w : World} {a : Option Addr} {n c : Nat} {xs : List Ans} (h : w.ownsRow 0 49 2 (.slice a n c) n (ansRow xs)) (hl : xs.length = n) : ∃ g, AnsAt w a g 0 xs ∧ (0 < n → a = some ⟨g, 0, none⟩) := by
  have hm := row_len h
  rcases Nat.eq_zero_or_pos n with h0 | h0
  · have : xs = [] := List.eq_nil_of_length_eq_zero (by omega)
    subst this
    exact ⟨0, ⟨by simp, fun h => absurd rfl h, fun i x hi => by simp at hi⟩, fun h => by omega⟩
  · obtain ⟨g, cap, hv, _, hg⟩ := h.form h0
    obtain ⟨rfl, rfl⟩ : a = some ⟨g, 0, none⟩ ∧ c = cap := by simpa using hv
    refine ⟨g, ⟨by omega, fun _ => rfl, fun i x hi => ?_⟩, fun _ => rfl⟩
    have hlt := (List.getElem?_eq_some_iff.1 hi).1
    have h3 : xs.getD i ⟨0, 0⟩ = x := by rw [List.getD_eq_getElem?_getD, hi]; rfl
    have e0 := flatMap_at ansCells 2 (fun _ => rfl) xs i 0 ⟨0, 0⟩ hlt (by omega)
    have e1 := flatMap_at ansCells 2 (fun _ => rfl) xs i 1 ⟨0, 0⟩ hlt (by omega)
    rw [h3] at e0 e1
    refine ⟨?_, ?_⟩
    · rw [Nat.zero_add, World.ownsRow.cellAt (h := h) (i * 2) (by omega)]; exact e0
    · rw [Nat.zero_add, World.ownsRow.cellAt (h := h) (i * 2 + 1) (by omega)]; exact e1
theorem opRow_at (xs : List Tx.Op) (i j : Nat) (o : Tx.Op) (hi : xs[i]? = some o) (hj : j < 4) : (opRow xs)[i * 4 + j]? = some (opCell o j) := by
  have h := flatMap_at (fun o : Tx.Op => [Value.int .i64 o.d, .int .i64 o.t, .int .i64 o.k, .int .i64 o.n]) 4 (fun _ => rfl) xs i j ⟨0, 0, 0, 0⟩ (List.getElem?_eq_some_iff.1 hi).1 hj
  have ho : xs.getD i ⟨0, 0, 0, 0⟩ = o := by rw [List.getD_eq_getElem?_getD, hi]; rfl
  rw [ho] at h
  refine h.trans ?_
  have : j = 0 ∨ j = 1 ∨ j = 2 ∨ j = 3 := by omega
  rcases this with rfl | rfl | rfl | rfl <;> rfl
theorem ops_row {w : World} {a : Option Addr} {n c : Nat} {xs : List Tx.Op} (h : w.ownsRow 0 47 4 (.slice a n c) n (opRow xs)) (hl : xs.length = n) : ∃ g, OpsAt w a g 0 xs ∧ (0 < n → a = some ⟨g, 0, none⟩) := by
  have hm := row_len h
  rcases Nat.eq_zero_or_pos n with h0 | h0
  · have : xs = [] := List.eq_nil_of_length_eq_zero (by omega)
    subst this
    exact ⟨0, ⟨by simp, fun h => absurd rfl h, fun i x hi => by simp at hi⟩, fun h => by omega⟩
  · obtain ⟨g, cap, hv, _, hg⟩ := h.form h0
    obtain ⟨rfl, rfl⟩ : a = some ⟨g, 0, none⟩ ∧ c = cap := by simpa using hv
    refine ⟨g, ⟨by omega, fun _ => rfl, fun i x hi j hj => ?_⟩, fun _ => rfl⟩
    have hlt := (List.getElem?_eq_some_iff.1 hi).1
    rw [Nat.zero_add, World.ownsRow.cellAt (h := h) (i * 4 + j) (by omega)]
    exact opRow_at xs i j x hi hj
theorem AnsAt.fresh (w : World) (l : List Ans) (T : TypeId) (hl : l.length ≤ maxLen) : AnsAt (w.alloc (.cells (ansRow l).toArray T)) (some ⟨w.heap.size, 0, none⟩) w.heap.size 0 l := by
  refine ⟨hl, fun _ => rfl, fun i o hi => ?_⟩
  have hlt := (List.getElem?_eq_some_iff.1 hi).1
  have h3 : l.getD i ⟨0, 0⟩ = o := by rw [List.getD_eq_getElem?_getD, hi]; rfl
  have e0 := flatMap_at ansCells 2 (fun _ => rfl) l i 0 ⟨0, 0⟩ hlt (by omega)
  have e1 := flatMap_at ansCells 2 (fun _ => rfl) l i 1 ⟨0, 0⟩ hlt (by omega)
  rw [h3] at e0 e1
  rw [World.cell?_alloc_new, World.cell?_alloc_new, Nat.zero_add]
  simp only [List.getElem?_toArray]
  exact ⟨e0, e1⟩
theorem IntsAt.fresh (w : World) (l : List Int) (T : TypeId) (hl : l.length ≤ maxLen) : IntsAt (w.alloc (.cells (intRow l).toArray T)) (some ⟨w.heap.size, 0, none⟩) w.heap.size 0 l := by
  refine ⟨hl, fun _ => rfl, fun i o hi => ?_⟩
  rw [World.cell?_alloc_new, Nat.zero_add]
  simp [intRow, hi]
theorem New.drewN {w w' : World} (h : New w w') (q : Nat) : New w (w'.drewN q) := Chg.drewN h q

def wordsI (x : Inst) : List Int := (List.range 16).map x.words
theorem wordsL_intRow (x : Inst) : wordsL x = intRow (wordsI x) := by simp [wordsL, intRow, wordsI]
def scriptWords : List Int := [0, 0, 0, 5, 0, 0, 0, 0, 0, 0, 0, 0, 0, 0, 0, 0]
theorem script_len : (Tx.run St.zero scriptL).2.insts.length = 2 := by decide +kernel
theorem script_words : wordsI ((Tx.run St.zero scriptL).2.inst 1) = scriptWords := by decide +kernel
theorem script_serial : serial (Tx.run St.zero scriptL).2 = [0, 2] := by decide +kernel
def scriptAlone : List Tx.Op := [⟨0, 0, 0, 0⟩, ⟨3, 0, 3, 5⟩, ⟨4, 0, 0, 0⟩, ⟨0, 2, 0, 0⟩, ⟨1, 2, 3, 0⟩, ⟨4, 2, 0, 0⟩]
theorem script_alone : alone scriptL = scriptAlone := by decide +kernel
theorem eql47_same (w : World) : (binOp .eql 47 (.agg #[.int .i64 3, .int .i64 0, .int .i64 3, .int .i64 5]) (.agg #[.int .i64 3, .int .i64 0, .int .i64 3, .int .i64 5])).run Try.prog w = .ok (.bool true) w := by kernel_rfl
section
variable {w : World}
theorem script_run (w : World) : Calls Try.prog 12 #[.slice (some ⟨w.heap.size, 0, none⟩) 11 11] (w.alloc (.cells (opRow scriptL).toArray 47)) fun e w' =>
    ∃ a b c, e = .returned (.tuple #[.slice a 11 c, .int .i64 0]) ∧ New w w' ∧ AnsAt w' a b 0 answersL := by
  refine (run_any (some ⟨w.heap.size, 0, none⟩) w.heap.size 0 11 scriptL (OpsAt.fresh w scriptL (by decide)) (.inl (by simp)) (by decide)).mono ?_
  rintro e w' ⟨v, rfl, hN, hown, _⟩
  obtain ⟨a, c, rfl⟩ := row_shape hown
  rw [script_runs] at hown
  obtain ⟨g, hA, _⟩ := ans_row hown rfl
  exact ⟨a, g, c, rfl, ((Chg.refl _ w).alloc _).trans hN, hA⟩
theorem script_at (w : World) : Calls Try.prog 14 #[.slice (some ⟨w.heap.size, 0, none⟩) 11 11, .int .i64 1] (w.alloc (.cells (opRow scriptL).toArray 47)) fun e w' =>
    ∃ b c, e = .returned (.tuple #[.slice (some ⟨b, 0, none⟩) 16 c, .int .i64 0]) ∧ New w w' ∧ IntsAt w' (some ⟨b, 0, none⟩) b 0 scriptWords := by
  refine (at_any (some ⟨w.heap.size, 0, none⟩) w.heap.size 0 11 scriptL 1 (OpsAt.fresh w scriptL (by decide)) (by decide) (by rw [script_len]; decide)).mono ?_
  rintro e w' ⟨v, rfl, hN, hown, _⟩
  obtain ⟨a, c, rfl⟩ := row_shape hown
  rw [wordsL_intRow, script_words] at hown
  obtain ⟨g, hA, ha⟩ := ints_row hown rfl
  obtain rfl := ha (by decide)
  exact ⟨g, c, rfl, ((Chg.refl _ w).alloc _).trans hN, hA⟩
theorem script_last (w : World) : Calls Try.prog 16 #[.slice (some ⟨w.heap.size, 0, none⟩) 11 11] (w.alloc (.cells (opRow scriptL).toArray 47)) fun e w' =>
    ∃ b c, e = .returned (.tuple #[.int .i64 1, .slice (some ⟨b, 0, none⟩) 16 c, .int .i64 0]) ∧ New w w' ∧ IntsAt w' (some ⟨b, 0, none⟩) b 0 scriptWords := by
  refine (last_yes (some ⟨w.heap.size, 0, none⟩) w.heap.size 0 11 scriptL (OpsAt.fresh w scriptL (by decide)) (by decide)).mono ?_
  have hl : last (Tx.run St.zero scriptL).2 = 1 := by unfold Tx.last; rw [script_len]
  rw [hl]
  rintro e w' ⟨v, rfl, hN, hown, _⟩
  obtain ⟨a, c, rfl⟩ := row_shape hown
  rw [wordsL_intRow, script_words] at hown
  obtain ⟨g, hA, ha⟩ := ints_row hown rfl
  obtain rfl := ha (by decide)
  exact ⟨g, c, rfl, ((Chg.refl _ w).alloc _).trans hN, hA⟩
theorem script_ser (w : World) : Calls Try.prog 18 #[.slice (some ⟨w.heap.size, 0, none⟩) 11 11] (w.alloc (.cells (opRow scriptL).toArray 47)) fun e w' =>
    ∃ b c, e = .returned (.tuple #[.slice (some ⟨b, 0, none⟩) 2 c, .int .i64 0]) ∧ New w w' ∧ IntsAt w' (some ⟨b, 0, none⟩) b 0 [0, 2] := by
  refine (serial_yes (some ⟨w.heap.size, 0, none⟩) w.heap.size 0 11 scriptL (OpsAt.fresh w scriptL (by decide)) (by decide)).mono ?_
  rw [script_serial]
  rintro e w' ⟨v, rfl, hN, hown, _⟩
  obtain ⟨a, c, rfl⟩ := row_shape hown
  obtain ⟨g, hA, ha⟩ := ints_row hown rfl
  obtain rfl := ha (by decide)
  exact ⟨g, c, rfl, ((Chg.refl _ w).alloc _).trans hN, hA⟩
theorem script_al (w : World) : Calls Try.prog 20 #[.slice (some ⟨w.heap.size, 0, none⟩) 11 11] (w.alloc (.cells (opRow scriptL).toArray 47)) fun e w' =>
    ∃ b c, e = .returned (.tuple #[.slice (some ⟨b, 0, none⟩) 6 c, .int .i64 0]) ∧ New w w' ∧ OpsAt w' (some ⟨b, 0, none⟩) b 0 scriptAlone := by
  refine (alone_yes (some ⟨w.heap.size, 0, none⟩) w.heap.size 0 11 scriptL (OpsAt.fresh w scriptL (by decide)) (by decide)).mono ?_
  rw [script_alone]
  rintro e w' ⟨v, rfl, hN, hown, _⟩
  obtain ⟨a, c, rfl⟩ := row_shape hown
  obtain ⟨g, hA, ha⟩ := ops_row hown rfl
  obtain rfl := ha (by decide)
  exact ⟨g, c, rfl, ((Chg.refl _ w).alloc _).trans hN, hA⟩
theorem same_new {w : World} {a a' : Option Addr} {b b' off off' c c' : Nat} {xs ys : List Ans} (hx : AnsAt w a b off xs) (hy : AnsAt w a' b' off' ys) :
    Calls Try.prog 22 #[.slice a xs.length c, .slice a' ys.length c'] w fun e w' => e = .returned (.bool (decide (xs = ys))) ∧ New w w' := by
  refine (same_any a a' b b' off off' c c' xs ys hx hy).mono ?_
  rintro e w' ⟨rfl, q, rfl⟩
  exact ⟨rfl, (Chg.refl _ w).drewN q⟩
theorem equal_new {w : World} {a a' : Option Addr} {b b' off off' c c' : Nat} {xs ys : List Int} (hx : IntsAt w a b off xs) (hy : IntsAt w a' b' off' ys) :
    Calls Try.prog 23 #[.slice a xs.length c, .slice a' ys.length c'] w fun e w' => e = .returned (.bool (decide (xs = ys))) ∧ New w w' := by
  refine (equal_any a a' b b' off off' c c' xs ys hx hy).mono ?_
  rintro e w' ⟨rfl, q, rfl⟩
  exact ⟨rfl, (Chg.refl _ w).drewN q⟩
set_option maxRecDepth 100000 in
set_option maxHeartbeats 2000000 in
theorem awake_any (w : World) : Calls Try.prog 11 #[] w fun e w' => e = .returned (.bool true) ∧ New w w' := by
  have heq := eql47_same
  go_enter Try.func11, Try.ntmps11
  go_wp2_with (first
    | ((refine (script_any _).mono ?_); rintro e w' ⟨rfl, rfl⟩)
    | ((refine (script_run _).mono ?_); rintro e w1 ⟨a1, b1, c1, rfl, hN1, hA1⟩)
    | ((refine (script_at _).mono ?_); rintro e w2 ⟨b2, c2, rfl, hN2, hA2⟩)
    | ((refine (script_last _).mono ?_); rintro e w3 ⟨b3, c3, rfl, hN3, hA3⟩)
    | ((refine (script_ser _).mono ?_); rintro e w4 ⟨b4, c4, rfl, hN4, hA4⟩)
    | ((refine (script_al _).mono ?_); rintro e w5 ⟨b5, c5, rfl, hN5, hA5⟩; have hN25 : New w2 w5 := (hN3.trans hN4).trans hN5; have HNN := Lib.hid ((hN1.trans hN2).trans hN25); have hB1 := Lib.hid (hA1.kept (hN2.trans hN25)); have hB2 := Lib.hid (hA2.kept hN25); have hB3 := Lib.hid (hA3.kept (hN4.trans hN5)); have hB4 := Lib.hid (hA4.kept hN5); have hB5 := Lib.hid hA5; clear hA1 hA2 hA3 hA4 hA5 hN1 hN2 hN3 hN4 hN5 hN25;
        have HSM : Hid (Calls Try.prog 22 #[.slice a1 11 c1, .slice (some ⟨w5.heap.size, 0, none⟩) 11 11] (w5.alloc (.cells (ansRow answersL).toArray 49)) fun e w' => e = .returned (.bool true) ∧ New w5 w') := (same_new (c := c1) (c' := 11) (hB1.out.kept ((Chg.refl _ w5).alloc _)) (AnsAt.fresh w5 answersL 49 (by decide))).mono (fun e w' h => ⟨h.1, ((Chg.refl _ w5).alloc _).trans h.2⟩))
    | ((refine (answers_any _).mono ?_); rintro e w' ⟨rfl, rfl⟩)
    | ((refine HSM.out.mono ?_); rintro e w6 ⟨rfl, hN6⟩; clear HSM; have x3 : w6.cell? ⟨b2, 3, none⟩ = some (.int .i64 5) := (hB2.out.kept hN6).cell 3 5 rfl; have x4 : w6.cell? ⟨b2, 4, none⟩ = some (.int .i64 0) := (hB2.out.kept hN6).cell 4 0 rfl;
        have HE1 : Hid (Calls Try.prog 23 #[.slice (some ⟨b2, 0, none⟩) 16 c2, .slice (some ⟨b3, 0, none⟩) 16 c3] w6 fun e w' => e = .returned (.bool true) ∧ New w6 w') := equal_new (c := c2) (c' := c3) (hB2.out.kept hN6) (hB3.out.kept hN6))
    | ((refine HE1.out.mono ?_); rintro e w7 ⟨rfl, hN7⟩; clear HE1 x3 x4; have hN57 := hN6.trans hN7;
        have HE2 : Hid (Calls Try.prog 23 #[.slice (some ⟨b4, 0, none⟩) 2 c4, .slice (some ⟨w7.heap.size, 0, none⟩) 2 2] (w7.alloc (.cells #[.int .i64 0, .int .i64 2] 3)) fun e w' => e = .returned (.bool true) ∧ New w7 w') := (equal_new (c := c4) (c' := 2) ((hB4.out.kept hN57).kept ((Chg.refl _ w7).alloc _)) (IntsAt.fresh w7 [0, 2] 3 (by decide))).mono (fun e w' h => ⟨h.1, ((Chg.refl _ w7).alloc _).trans h.2⟩))
    | ((refine HE2.out.mono ?_); rintro e w8 ⟨rfl, hN8⟩; have hN58 := hN57.trans hN8; have y0 : w8.cell? ⟨b5, 4, none⟩ = some (.int .i64 3) := (hB5.out.kept hN58 (fun x => x)).cell 1 _ rfl 0 (by omega); have y1 : w8.cell? ⟨b5, 5, none⟩ = some (.int .i64 0) := (hB5.out.kept hN58 (fun x => x)).cell 1 _ rfl 1 (by omega); have y2 : w8.cell? ⟨b5, 6, none⟩ = some (.int .i64 3) := (hB5.out.kept hN58 (fun x => x)).cell 1 _ rfl 2 (by omega); have y3 : w8.cell? ⟨b5, 7, none⟩ = some (.int .i64 5) := (hB5.out.kept hN58 (fun x => x)).cell 1 _ rfl 3 (by omega); have HN8 := Lib.hid hN58; clear hN58))
  go_ret
  exact ⟨rfl, HNN.out.trans HN8.out⟩
end
end Go.Proofs.Yteaeflmglppcdaa
