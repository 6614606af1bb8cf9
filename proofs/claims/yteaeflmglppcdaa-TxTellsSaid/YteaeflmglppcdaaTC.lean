/- The reference: Run, At, Last. -/
import Derived.Test.YteaeflmglppcdaaTB
namespace Go.Proofs.Yteaeflmglppcdaa
open Go.RowKit Tx

section
variable {w : World} {P : RP} {X : XS}
theorem RRep.ints (h : RRep w P X) {i : Nat} (hi : i < X.st.insts.length) : ∃ g c, P.gi[i]? = some (g, c) ∧ w.cell? ⟨P.gW, i, none⟩ = some (.slice (some ⟨g, 0, none⟩) 16 c) ∧ P.lab g ≠ 0 ∧ IntsAt w (some ⟨g, 0, none⟩) g 0 (wordsI (X.st.inst i)) := by
  obtain ⟨⟨g, c⟩, hg⟩ : ∃ q, P.gi[i]? = some q := ⟨_, List.getElem?_eq_getElem (by rw [h.giL]; exact hi)⟩
  refine ⟨g, c, hg, h.rowWc hg, by rw [h.li i g c hg]; decide, by simp [wordsI, maxLen], fun _ => rfl, fun k x hk => ?_⟩
  have hk16 : k < 16 := by have := (List.getElem?_eq_some_iff.1 hk).1; simpa [wordsI] using this
  rw [Nat.zero_add, h.words i g c hg k hk16]
  simp only [wordsI, List.getElem?_map] at hk
  rw [List.getElem?_range hk16] at hk
  simp only [Option.map_some, Option.some.injEq] at hk
  rw [hk]
/-- All, with its values laid open. -/
theorem all_open (a : Option Addr) (b off c : Nat) (ops : List Tx.Op) (hO : OpsAt w a b off ops) (hl : ops.length ≤ 200) :
    Calls Try.prog 35 #[.slice a ops.length c] w fun e w' => ∃ v P, e = .returned (.tuple #[.agg #[.slice (some ⟨P.ga, 0, none⟩) 16 P.ca, .slice (some ⟨P.gW, 0, none⟩) (xall ops).st.insts.length P.cW, .slice (some ⟨P.gC, 0, none⟩) (xall ops).st.insts.length P.cC, .int .i64 (xall ops).commits], v, .int .i64 0]) ∧
      RRep w' P (xall ops) ∧ New w w' ∧ w'.ownsRow 0 49 2 v ops.length (ansRow (Tx.run St.zero ops).1) ∧ (∀ b, P.lab b ≠ 0 → w.heap.size ≤ b) ∧ ∀ g, v.ownBlock = some g → w.heap.size ≤ g :=
  all_any a b off c ops hO hl
set_option maxRecDepth 100000 in
theorem rrun_no (a : Option Addr) (n c : Nat) (hl : 200 < n) (h63 : n ≤ maxLen) : Calls Try.prog 13 #[.slice a n c] w fun e w' => e = .returned (.tuple #[.slice none 0 0, .int .i64 3]) ∧ New w w' := by
  have HA := Lib.hid (fun w => all_no (w := w) a n c hl h63)
  clear hl h63
  go_enter Try.func13, Try.ntmps13
  go_wp2_with ((with_reducible refine (HA.out _).mono ?_); rintro e w1 ⟨rfl, hN⟩; have HN := Lib.hid hN; clear hN)
  refine bodyPost_ret (results_tmp2 rfl _ _ _) rfl ?_
  exact ⟨rfl, HN.out.alloc _⟩
set_option maxRecDepth 100000 in
theorem rrun_any (a : Option Addr) (b off c : Nat) (ops : List Tx.Op) (hO : OpsAt w a b off ops) (hl : ops.length ≤ 200) :
    Calls Try.prog 13 #[.slice a ops.length c] w fun e w' => ∃ v, e = .returned (.tuple #[v, .int .i64 0]) ∧ New w w' ∧ w'.ownsRow 0 49 2 v ops.length (ansRow (Tx.run St.zero ops).1) ∧ ∀ g, v.ownBlock = some g → w.heap.size ≤ g := by
  have HA := Lib.hid (all_open a b off c ops hO hl)
  clear hO hl
  go_enter Try.func13, Try.ntmps13
  go_wp2_with ((with_reducible refine HA.out.mono ?_); rintro e w1 ⟨v, P, rfl, hR, hN, hrow, hL, hown⟩; have HR := Lib.hid hR; have HN := Lib.hid hN; have HROW := Lib.hid hrow; have HOWN := Lib.hid hown; clear hR hN hrow hL hown)
  refine bodyPost_ret (results_tmp2 rfl _ _ _) rfl ?_
  exact ⟨v, rfl, HN.out.alloc _, HROW.out.alloc _, HOWN.out⟩
set_option maxRecDepth 100000 in
theorem rat_no (a : Option Addr) (n c : Nat) (i : Int) (hl : 200 < n) (h63 : n ≤ maxLen) : Calls Try.prog 15 #[.slice a n c, .int .i64 i] w fun e w' => e = .returned (.tuple #[.slice none 0 0, .int .i64 3]) ∧ New w w' := by
  have HA := Lib.hid (fun w => all_no (w := w) a n c hl h63)
  clear hl h63
  go_enter Try.func15, Try.ntmps15
  go_wp2_with ((with_reducible refine (HA.out _).mono ?_); rintro e w1 ⟨rfl, hN⟩; have HN := Lib.hid hN; clear hN)
  refine bodyPost_ret (results_tmp2 rfl _ _ _) rfl ?_
  exact ⟨rfl, HN.out.alloc _⟩
set_option maxRecDepth 100000 in
theorem rat_range (a : Option Addr) (b off c : Nat) (ops : List Tx.Op) (i : Int) (hO : OpsAt w a b off ops) (hl : ops.length ≤ 200) (hi : within i 0 ((Tx.run St.zero ops).2.insts.length - 1) = false) :
    Calls Try.prog 15 #[.slice a ops.length c, .int .i64 i] w fun e w' => e = .returned (.tuple #[.slice none 0 0, .int .i64 2]) ∧ New w w' := by
  have HA := Lib.hid (all_open a b off c ops hO hl)
  have hg := (xall_good ops).insts
  have hlen : (xall ops).st.insts.length ≤ 1000 := by omega
  have hi2 : i < 0 ∨ 0 ≤ i ∧ ((xall ops).st.insts.length : Int) ≤ i := by
    rw [xall_st]
    simp only [within, Bool.and_eq_false_iff, decide_eq_false_iff_not] at hi
    omega
  clear hO hl hi hg
  generalize hX : xall ops = X at *
  have hlen2 : (X.st.insts.length : Int) ≤ 1000 := by omega
  go_enter Try.func15, Try.ntmps15
  go_upto_region 4 with ((with_reducible refine HA.out.mono ?_); rintro e w1 ⟨v, P, rfl, hR, hN, hrow, hL, hown⟩; have HR := Lib.hid hR; have HN := Lib.hid hN; clear hR hN hrow hL hown)
  have hB := Blk.ofL w1 [.slice (some ⟨P.ga, 0, none⟩) 16 P.ca, .slice (some ⟨P.gW, 0, none⟩) X.st.insts.length P.cW, .slice (some ⟨P.gC, 0, none⟩) X.st.insts.length P.cC, .int .i64 X.commits] 79
  have HN2 := Lib.hid (HN.out.alloc (.cells #[.slice (some ⟨P.ga, 0, none⟩) 16 P.ca, .slice (some ⟨P.gW, 0, none⟩) X.st.insts.length P.cW, .slice (some ⟨P.gC, 0, none⟩) X.st.insts.length P.cC, .int .i64 X.commits] 79))
  have r1 := hB.cell (i := 1) (by simp)
  change (w1.alloc _).cell? _ = some (.slice (some ⟨P.gW, 0, none⟩) X.st.insts.length P.cW) at r1
  clear hB
  generalize w1.alloc _ = w2 at *
  generalize w1.heap.size = nb at *
  rcases hi2 with h | ⟨h0, h⟩
  · go_wp2_with fail
    refine bodyPost_ret (results_tmp2 rfl _ _ _) rfl ?_
    exact ⟨rfl, HN2.out⟩
  · have h1 : ¬ i < 0 := by omega
    go_wp2_with fail
    refine bodyPost_ret (results_tmp2 rfl _ _ _) rfl ?_
    exact ⟨rfl, HN2.out⟩
set_option maxRecDepth 100000 in
theorem rat_any (a : Option Addr) (b off c : Nat) (ops : List Tx.Op) (i : Nat) (hO : OpsAt w a b off ops) (hl : ops.length ≤ 200) (hi : i < (Tx.run St.zero ops).2.insts.length) :
    Calls Try.prog 15 #[.slice a ops.length c, .int .i64 i] w fun e w' => ∃ g c, e = .returned (.tuple #[.slice (some ⟨g, 0, none⟩) 16 c, .int .i64 0]) ∧ New w w' ∧ IntsAt w' (some ⟨g, 0, none⟩) g 0 (wordsI ((Tx.run St.zero ops).2.inst i)) ∧ w.heap.size ≤ g := by
  have HA := Lib.hid (all_open a b off c ops hO hl)
  have hg := (xall_good ops).insts
  have hlen : (xall ops).st.insts.length ≤ 1000 := by omega
  rw [← xall_st] at hi ⊢
  clear hO hl hg
  generalize hX : xall ops = X at *
  have hlen2 : (X.st.insts.length : Int) ≤ 1000 := by omega
  have b0 : (0 : Int) ≤ (i : Int) := by omega
  have b1 : (i : Int) < (X.st.insts.length : Int) := by omega
  have b2 : ¬ (i : Int) < 0 := by omega
  have b3 : ¬ (X.st.insts.length : Int) ≤ (i : Int) := by omega
  go_enter Try.func15, Try.ntmps15
  go_upto_region 4 with ((with_reducible refine HA.out.mono ?_); rintro e w1 ⟨v, P, rfl, hR, hN, hrow, hL, hown⟩; have HR := Lib.hid hR; have HN := Lib.hid hN; have HL := Lib.hid hL; clear hR hN hrow hL hown)
  have hB := Blk.ofL w1 [.slice (some ⟨P.ga, 0, none⟩) 16 P.ca, .slice (some ⟨P.gW, 0, none⟩) X.st.insts.length P.cW, .slice (some ⟨P.gC, 0, none⟩) X.st.insts.length P.cC, .int .i64 X.commits] 79
  have hN1 : New w1 (w1.alloc (.cells #[.slice (some ⟨P.ga, 0, none⟩) 16 P.ca, .slice (some ⟨P.gW, 0, none⟩) X.st.insts.length P.cW, .slice (some ⟨P.gC, 0, none⟩) X.st.insts.length P.cC, .int .i64 X.commits] 79)) := (Chg.refl _ w1).alloc _
  have HN2 := Lib.hid (HN.out.trans hN1)
  have r1 := hB.cell (i := 1) (by simp)
  change (w1.alloc _).cell? _ = some (.slice (some ⟨P.gW, 0, none⟩) X.st.insts.length P.cW) at r1
  obtain ⟨g, c', _, hc, hlg, hI⟩ := (HR.out.new hN1).ints hi
  have HI := Lib.hid hI
  clear hB hN1 hI
  generalize w1.alloc _ = w2 at *
  generalize w1.heap.size = nb at *
  go_wp2_with fail
  refine bodyPost_ret (results_tmp2 rfl _ _ _) rfl ?_
  exact ⟨g, c', rfl, HN2.out, HI.out, HL.out g hlg⟩
set_option maxRecDepth 100000 in
theorem rlast_no (a : Option Addr) (n c : Nat) (hl : 200 < n) (h63 : n ≤ maxLen) : Calls Try.prog 17 #[.slice a n c] w fun e w' => e = .returned (.tuple #[.int .i64 0, .slice none 0 0, .int .i64 3]) ∧ New w w' := by
  have HA := Lib.hid (fun w => all_no (w := w) a n c hl h63)
  clear hl h63
  go_enter Try.func17, Try.ntmps17
  go_wp2_with ((with_reducible refine (HA.out _).mono ?_); rintro e w1 ⟨rfl, hN⟩; have HN := Lib.hid hN; clear hN)
  refine bodyPost_ret (results_tmp3 rfl _ _ _) rfl ?_
  exact ⟨rfl, HN.out.alloc _⟩
set_option maxRecDepth 100000 in
set_option maxHeartbeats 1000000 in
theorem rlast_any (a : Option Addr) (b off c : Nat) (ops : List Tx.Op) (hO : OpsAt w a b off ops) (hl : ops.length ≤ 200) :
    Calls Try.prog 17 #[.slice a ops.length c] w fun e w' => ∃ g c, e = .returned (.tuple #[.int .i64 (last (Tx.run St.zero ops).2), .slice (some ⟨g, 0, none⟩) 16 c, .int .i64 0]) ∧ New w w' ∧ IntsAt w' (some ⟨g, 0, none⟩) g 0 (wordsI ((Tx.run St.zero ops).2.inst (last (Tx.run St.zero ops).2))) ∧ w.heap.size ≤ g := by
  have HA := Lib.hid (all_open a b off c ops hO hl)
  have hg := (xall_good ops).insts
  have hne := (xall_good ops).ne
  have hlen : (xall ops).st.insts.length ≤ 1000 := by omega
  rw [← xall_st]
  clear hO hl hg
  generalize hX : xall ops = X at *
  have hi : last X.st < X.st.insts.length := by unfold last; omega
  have hlen2 : (X.st.insts.length : Int) ≤ 1000 := by omega
  have hne2 : (0 : Int) < (X.st.insts.length : Int) := by omega
  have hix : (X.st.insts.length : Int) - 1 = (last X.st : Int) := by unfold last; omega
  have b0 : (0 : Int) ≤ (last X.st : Int) := by omega
  have b1 : (last X.st : Int) < (X.st.insts.length : Int) := by omega
  have hwrl : IntKind.i64.wrap (last X.st : Int) = (last X.st : Int) := by rw [IntKind.wrap_i64]; omega
  go_enter Try.func17, Try.ntmps17
  go_upto_region 4 with ((with_reducible refine HA.out.mono ?_); rintro e w1 ⟨v, P, rfl, hR, hN, hrow, hL, hown⟩; have HR := Lib.hid hR; have HN := Lib.hid hN; have HL := Lib.hid hL; clear hR hN hrow hL hown)
  have hB := Blk.ofL w1 [.slice (some ⟨P.ga, 0, none⟩) 16 P.ca, .slice (some ⟨P.gW, 0, none⟩) X.st.insts.length P.cW, .slice (some ⟨P.gC, 0, none⟩) X.st.insts.length P.cC, .int .i64 X.commits] 79
  have hN1 : New w1 (w1.alloc (.cells #[.slice (some ⟨P.ga, 0, none⟩) 16 P.ca, .slice (some ⟨P.gW, 0, none⟩) X.st.insts.length P.cW, .slice (some ⟨P.gC, 0, none⟩) X.st.insts.length P.cC, .int .i64 X.commits] 79)) := (Chg.refl _ w1).alloc _
  have HN2 := Lib.hid (HN.out.trans hN1)
  have r1 := hB.cell (i := 1) (by simp)
  change (w1.alloc _).cell? _ = some (.slice (some ⟨P.gW, 0, none⟩) X.st.insts.length P.cW) at r1
  obtain ⟨g, c', _, hc, hlg, hI⟩ := (HR.out.new hN1).ints hi
  have HI := Lib.hid hI
  clear hB hN1 hI
  generalize w1.alloc _ = w2 at *
  generalize w1.heap.size = nb at *
  go_quiet (fail)
  go_wp2_with fail
  refine bodyPost_ret (results_tmp3 rfl _ _ _) rfl ?_
  exact ⟨g, c', rfl, HN2.out.drewN _, HI.out.kept (New.drewN (Chg.refl _ _) _), HL.out g hlg⟩
end
end Go.Proofs.Yteaeflmglppcdaa
