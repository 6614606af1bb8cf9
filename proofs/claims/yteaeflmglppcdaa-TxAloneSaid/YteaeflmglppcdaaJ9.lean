/- The walk of TxAlone. -/
import Derived.Test.YteaeflmglppcdaaJ3
import Derived.Test.YteaeflmglppcdaaN9
namespace Go.Proofs.Yteaeflmglppcdaa
open Go.RowKit Tx

theorem ints_equal {w : World} {g g' c c' : Nat} {ws : List Int} (hl : ws.length = 16) (h : IntsAt w (some ⟨g, 0, none⟩) g 0 ws) (h' : IntsAt w (some ⟨g', 0, none⟩) g' 0 ws) :
    Calls Try.prog 23 #[.slice (some ⟨g, 0, none⟩) 16 c, .slice (some ⟨g', 0, none⟩) 16 c'] w fun e w' => e = .returned (.bool true) ∧ New w w' := by
  have h1 := equal_new (c := c) (c' := c') h h'
  rw [hl, decide_eq_true rfl] at h1
  exact h1
theorem length_ownB (t : Int) (z : List (Tx.Op × Ans)) : (Tx.ownB t z).length = (Tx.ownL t z).length := by
  unfold Tx.ownB Tx.ownL
  rw [List.length_map, List.length_map]
section
variable {w : World}
set_option maxRecDepth 100000 in
set_option maxHeartbeats 16000000 in
theorem alone_walk (a : Option Addr) (b off c : Nat) (xs : List Int) (hU : U32At w a b off xs) (hc : xs.length ≤ c) (hc3 : c ≤ maxLen) :
    Calls Try.prog 4 #[.slice a xs.length c] w fun e w' => e = .returned (.bool true) ∧ New w w' := by
  by_cases hbig : 200 < xs.length
  · have hb2 : ¬ (xs.length : Int) ≤ 200 := by omega
    clear hU
    go_enter Try.func4, Try.ntmps4
    go_wp2_with ((with_reducible refine (awake_any _).mono ?_); rintro e w9 ⟨rfl, hN9⟩)
    go_ret
    exact ⟨rfl, hN9⟩
  · have hl : xs.length ≤ 200 := by omega
    have hl2 : (xs.length : Int) ≤ 200 := by omega
    have HM := Lib.hid (made_any a b off c xs hU hl hc hc3)
    clear hU
    go_enter Try.func4, Try.ntmps4
    go_upto_region 4 with ((with_reducible refine HM.out.mono ?_); rintro e w1 ⟨ops, v1, rfl, hN1, hlo, hr1, hg1⟩; obtain ⟨a1, g1, c1, rfl, hO1, hb1⟩ := row_len_ops hr1; have hlo2 : ops.length ≤ 200 := (by omega); have hlo3 : (ops.length : Int) ≤ 200 := (by omega); clear hr1 hlo)
    obtain ⟨st, hst⟩ : ∃ st, (Tx.run St.zero ops).2 = st := ⟨_, rfl⟩
    obtain ⟨sr, hsr⟩ : ∃ sr, serial (Tx.run St.zero ops).2 = sr := ⟨_, rfl⟩
    obtain ⟨z, hz⟩ : ∃ z, ops.zip (ans ops) = z := ⟨_, rfl⟩
    obtain ⟨oth, hoth⟩ : ∃ oth, Tx.alone ops = oth := ⟨_, rfl⟩
    have hoth2 : oth = sr.flatMap fun t => Tx.ownL t z := by rw [← hoth, ← hsr, ← hz]; rfl
    obtain ⟨l1, l2, l3, l4, l5⟩ := alone_law ops sr hsr
    rw [hz, ← hoth2] at l1 l2 l3 l4
    rw [hz] at l5
    have hll : (ans ops).length = ops.length := length_run ops St.zero
    have hol : oth.length ≤ 200 := by omega
    have hol2 : (oth.length : Int) ≤ 200 := by omega
    have HA := Lib.hid (answered_any a1 g1 0 c1 ops hO1 hb1 hlo2)
    have HAL : Hid (∀ w', New w1 w' → Calls Try.prog 20 #[.slice a1 ops.length c1] w' fun e w'' => ∃ v, e = .returned (.tuple #[v, .int .i64 0]) ∧ New w' w'' ∧ w''.ownsRow 0 47 4 v oth.length (opRow oth) ∧ ∀ g, v.ownBlock = some g → w'.heap.size ≤ g) := fun w' hw => by
      have h1 := alone_yes a1 g1 0 c1 ops (hO1.kept hw (fun x => x)) hlo2
      rw [hoth] at h1
      exact h1
    have HAO : Hid (∀ w' a6 g6 c6, OpsAt w' a6 g6 0 oth → (g6 < w'.heap.size ∨ oth = []) → Calls Try.prog 26 #[.slice a6 oth.length c6] w' fun e w'' => ∃ v, e = .returned (.tuple #[v, .bool true]) ∧ New w' w'' ∧ w''.ownsRow 0 49 2 v oth.length (ansRow (ans oth)) ∧ ∀ g, v.ownBlock = some g → w'.heap.size ≤ g) := fun w' a6 g6 c6 h1 h2 => answered_any a6 g6 0 c6 oth h1 h2 hol
    obtain ⟨N, hN⟩ : ∃ N : Int, (last (Tx.run St.zero ops).2 : Int) = N := ⟨_, rfl⟩
    obtain ⟨X, hX⟩ : ∃ X, wordsI ((Tx.run St.zero ops).2.inst (last (Tx.run St.zero ops).2)) = X := ⟨_, rfl⟩
    have hXl : X.length = 16 := by rw [← hX]; simp [wordsI]
    have HXL := Lib.hid hXl
    have HL1 : Hid (∀ w', New w1 w' → Calls Try.prog 16 #[.slice a1 ops.length c1] w' fun e w'' => ∃ b c, e = .returned (.tuple #[.int .i64 N, .slice (some ⟨b, 0, none⟩) 16 c, .int .i64 0]) ∧ New w' w'' ∧ IntsAt w'' (some ⟨b, 0, none⟩) b 0 X) := fun w' hw => last_words (hO1.kept hw (fun x => x)) hlo2 hN hX
    have HL2 : Hid (∀ w' a6 g6 c6, OpsAt w' a6 g6 0 oth → Calls Try.prog 16 #[.slice a6 oth.length c6] w' fun e w'' => ∃ b c, e = .returned (.tuple #[.int .i64 N, .slice (some ⟨b, 0, none⟩) 16 c, .int .i64 0]) ∧ New w' w'' ∧ IntsAt w'' (some ⟨b, 0, none⟩) b 0 X) := fun w' a6 g6 c6 h1 => last_words h1 hol (by rw [l3]; exact hN) (by
      rw [← hX, l3]
      unfold wordsI
      exact List.map_congr_left (fun k _ => l4 k))
    have HSE : Hid (∀ w', New w1 w' → Calls Try.prog 18 #[.slice a1 ops.length c1] w' fun e w'' => ∃ a b c, e = .returned (.tuple #[.slice a sr.length c, .int .i64 0]) ∧ New w' w'' ∧ IntsAt w'' a b 0 sr ∧ sr.length ≤ 401) := fun w' hw => by
      have h1 := ser_ints (c := c1) (hO1.kept hw (fun x => x)) hlo2
      rw [hsr] at h1
      exact h1
    have HM2 := Lib.hid l2; have HL5 := Lib.hid l5; have HLL := Lib.hid hll; have HZ := Lib.hid hz; have HO1 := Lib.hid hO1; have HOT := Lib.hid hoth2; have HN1 := Lib.hid hN1
    clear l1 l2 l3 l4 l5 hll hz hO1 hb1 hoth hoth2 hN hX hXl hsr hst hg1 hN1 HM
    go_wp2_with (first
      | ((with_reducible refine HA.out.mono ?_); rintro e w2 ⟨v2, rfl, hN2, hr2, _⟩; obtain ⟨a2, g2, c2, rfl, hA2⟩ := row_len_ans hr2 HLL.out; change AnsAt w2 a2 g2 0 (ans ops) at hA2; have HA2 := Lib.hid hA2; clear hr2 hA2 HA)
      | ((with_reducible refine (HAL.out _ hN2).mono ?_); rintro e w3 ⟨v3, rfl, hN3, hr3, _⟩; obtain ⟨a6, g6, c6, rfl, hO6, hb6⟩ := row_len_ops hr3; have HO6 := Lib.hid hO6; have HB6 := Lib.hid hb6; have hN13 := hN2.trans hN3; clear hr3 hO6 hb6 HAL)
      | ((with_reducible refine (HAO.out _ _ _ _ HO6.out HB6.out).mono ?_); rintro e w4 ⟨v4, rfl, hN4, hr4, _⟩; obtain ⟨a8, g8, c8, rfl, hA8⟩ := row_len_ans hr4 (length_run oth St.zero); have HA8 := Lib.hid hA8; have hN14 := hN13.trans hN4; clear hr4 hA8 HAO HB6)
      | ((with_reducible refine (HL1.out _ hN14).mono ?_); rintro e w5 ⟨b5, c5, rfl, hN5, hI5⟩; have HI5 := Lib.hid hI5; have hN15 := hN14.trans hN5; clear hI5 HL1)
      | ((with_reducible refine (HL2.out _ _ _ _ ((HO6.out.kept hN4 (fun x => x)).kept hN5 (fun x => x))).mono ?_); rintro e w6 ⟨b6, c7, rfl, hN6, hI6⟩; have HI6 := Lib.hid hI6; have hN16 := hN15.trans hN6; clear hI6 HL2)
      | ((with_reducible refine (ints_equal HXL.out (HI5.out.kept hN6) HI6.out).mono ?_); rintro e w7 ⟨rfl, hN7⟩; have hN17 := hN16.trans hN7; clear HI5 HI6)
      | ((with_reducible refine (HSE.out _ hN17).mono ?_); rintro e w8 ⟨a9, g9, c9, rfl, hN8, hI9, hsl⟩; have hsl2 : (sr.length : Int) ≤ 401 := (by omega); have HI9 := Lib.hid hI9; have hN18 := hN17.trans hN8; clear hI9 HSE))
    have HN18 := Lib.hid hN18
    have HA28 := Lib.hid (HA2.out.kept ((((((hN3.trans hN4).trans hN5).trans hN6).trans hN7).trans hN8)))
    have HO18 := Lib.hid (HO1.out.kept hN18 (fun x => x))
    have HO68 := Lib.hid (HO6.out.kept ((((hN4.trans hN5).trans hN6).trans hN7).trans hN8) (fun x => x))
    have HA88 := Lib.hid (HA8.out.kept (((hN5.trans hN6).trans hN7).trans hN8))
    have HOF : Hid (∀ Wd, New w8 Wd → ∀ t : Int, Calls Try.prog 27 #[.slice a1 ops.length c1, .slice a2 ops.length c2, .int .i64 t] Wd fun e w' => ∃ v1 v2, e = .returned (.tuple #[v1, v2]) ∧ New Wd w' ∧
        w'.ownsRow 0 47 4 v1 (Tx.ownL t z).length (opRow (Tx.ownL t z)) ∧ w'.ownsRow 0 49 2 v2 (Tx.ownB t z).length (ansRow (Tx.ownB t z)) ∧
        (∀ g, v1.ownBlock = some g → Wd.heap.size ≤ g) ∧ ∀ g, v2.ownBlock = some g → Wd.heap.size ≤ g) := fun Wd hWd t => by
      have h1 := of_law a1 a2 g1 g2 0 0 c1 c2 ops.length ops (ans ops) t (HO18.out.kept hWd (fun x => x)) (HA28.out.kept hWd) HLL.out (Nat.le_refl _) hlo2 hlo2
      rw [HZ.out] at h1
      exact h1
    obtain ⟨Pf, hPf⟩ : ∃ Pf : Nat → Nat, Pf = fun j => ((sr.take j).flatMap fun t => Tx.ownL t z).length := ⟨_, rfl⟩
    have HP0 : Hid (Pf 0 = 0) := Lib.hid (by rw [hPf]; rfl)
    have HPS : Hid (∀ (j : Nat) (t : Int), sr[j]? = some t → Pf (j + 1) = Pf j + (Tx.ownL t z).length) := Lib.hid (fun j t h => by rw [hPf]; exact flat_len (fun t => Tx.ownL t z) h)
    have HPE : Hid (Pf sr.length = oth.length) := Lib.hid (by rw [hPf, HOT.out]; show ((sr.take sr.length).flatMap _).length = _; rw [List.take_length])
    have HEL : Hid (∀ (j : Nat) (t : Int) (i : Nat) (x : Tx.Op), sr[j]? = some t → (Tx.ownL t z)[i]? = some x → oth[Pf j + i]? = some x ∧ ∃ p q, (ans oth)[Pf j + i]? = some p ∧ (Tx.ownB t z)[i]? = some q ∧ p.e = 0 ∧ (x.d ≠ 0 → p = q)) := Lib.hid (fun j t i x h1 h2 => by
      have h3 := flat_at (fun t => Tx.ownL t z) h1 h2
      rw [← HOT.out] at h3
      rw [hPf]
      refine ⟨h3, ?_⟩
      obtain ⟨p, q, e1, e2, e3, e4⟩ := HM2.out.at_ _ x h3
      have hi := (List.getElem?_eq_some_iff.1 h2).1
      obtain ⟨q', hq'⟩ : ∃ q', (Tx.ownB t z)[i]? = some q' := ⟨_, List.getElem?_eq_getElem (by rw [length_ownB]; exact hi)⟩
      have h4 := flat_at (fun t => Tx.ownB t z) h1 hq'
      have h5 : ((sr.take j).flatMap fun t => Tx.ownB t z).length = ((sr.take j).flatMap fun t => Tx.ownL t z).length := by
        rw [List.length_flatMap, List.length_flatMap]
        simp only [length_ownB]
      rw [h5, e2] at h4
      cases h4
      exact ⟨p, q, e1, hq', e3, e4⟩)
    have HNA := Lib.hid (HN1.out.trans hN18)
    clear hPf HM2 HOT hN2 hN3 hN4 hN5 hN6 hN7 hN8 hN13 hN14 hN15 hN16 hN17 hN18 HA2 HO1 HO6 HA8 HXL HLL HZ
    go_loopw [18, 95] (fun v18 v wr => ∃ j : Nat, j ≤ sr.length ∧ v = .int .i64 j ∧ v18 = .int .i64 (Pf j) ∧ New w8 wr) (fun _ v _ => sr.length - (intOf v).toNat)
    case atStart => exact ⟨0, by omega, rfl, by rw [HP0.out]; rfl, Chg.refl _ _⟩
    case round =>
     obtain ⟨j, hj, rfl, rfl, hN⟩ := hrel
     by_cases hlt : j < sr.length
     · obtain ⟨t, ht⟩ : ∃ t, sr[j]? = some t := ⟨_, List.getElem?_eq_getElem hlt⟩
       obtain rfl := HI9.out.ptr (fun e => by rw [e] at hlt; simp at hlt)
       have x0 : wr.cell? ⟨g9, j, none⟩ = some (.int .i64 t) := by have := (HI9.out.kept hN).cell j t ht; rwa [Nat.zero_add] at this
       have b3 : (0 : Int) ≤ (j : Int) := by omega
       have b4 : (j : Int) < (sr.length : Int) := by omega
       have HC := Lib.hid (HOF.out wr hN t)
       have HN := Lib.hid hN
       obtain ⟨L, o, hLo, hod⟩ := HL5.out t (List.mem_of_getElem? ht)
       have HPS1 := Lib.hid (HPS.out j t ht)
       have HEL1 : Hid (∀ (i : Nat) (x : Tx.Op), (Tx.ownL t z)[i]? = some x → oth[Pf j + i]? = some x ∧ ∃ p q, (ans oth)[Pf j + i]? = some p ∧ (Tx.ownB t z)[i]? = some q ∧ p.e = 0 ∧ (x.d ≠ 0 → p = q)) := Lib.hid (fun i x h => HEL.out j t i x ht h)
       have hob := length_ownB t z
       generalize Tx.ownL t z = OW at *
       generalize Tx.ownB t z = OB at *
       obtain ⟨q, hq⟩ : ∃ q, OW.length = q + 1 := ⟨L.length, by rw [hLo]; simp⟩
       have hqL : OW[q]? = some o := by
         have : q = L.length := by rw [hLo] at hq; simp at hq; omega
         rw [this, hLo]; simp
       have HQ := Lib.hid hq; have HQL := Lib.hid hqL; have HOB := Lib.hid hob
       have hpl : Pf j + (q + 1) ≤ oth.length := by
         obtain ⟨h1, _⟩ := HEL1.out q o hqL
         have := (List.getElem?_eq_some_iff.1 h1).1
         omega
       have hq2 : (q : Int) ≤ 199 := by omega
       obtain ⟨P, hP⟩ : ∃ P, Pf j = P := ⟨_, rfl⟩
       rw [hP] at hpl HEL1 HPS1 ⊢
       clear hN ht hLo hq hqL hob hP
       go_upto_region 21 with ((with_reducible refine HC.out.mono ?_); rintro e w9 ⟨v21, v22, rfl, hN9, hr21, hr22, _, _⟩; obtain ⟨a11, g11, c11, rfl, hO11, _⟩ := row_len_ops hr21; obtain ⟨a12, g12, c12, rfl, hA12⟩ := row_len_ans hr22 rfl; have HN9 := Lib.hid hN9; have HO11 := Lib.hid hO11; have HA12 := Lib.hid hA12; clear hr21 hr22 hN9 hO11 hA12)
       obtain rfl := HO11.out.ptr (fun e => by have := HQ.out; rw [e] at this; simp at this)
       obtain rfl := HA12.out.ptr (fun e => by have h1 := HQ.out; have h2 := HOB.out; rw [e] at h2; simp at h2; omega)
       rw [HOB.out, HQ.out]
       have y0 : w9.cell? ⟨g11, q * 4, none⟩ = some (.int .i64 4) := by have := HO11.out.cell q o HQL.out 0 (by omega); rw [Nat.zero_add, Nat.add_zero] at this; rw [this, ← hod]; rfl
       clear x0 HC
       go_wp2_with fail
       have HN89 := Lib.hid (HN.out.trans HN9.out)
       clear y0
       go_loopw [18, 121] (fun v18 v wr => ∃ i M : Nat, i ≤ q + 1 ∧ M = P + i ∧ v = .int .i64 i ∧ v18 = .int .i64 M ∧ New w9 wr) (fun _ v _ => q + 1 - (intOf v).toNat)
       case atStart => exact ⟨0, P, by omega, by omega, rfl, rfl, Chg.refl _ _⟩
       case round =>
        obtain ⟨i, M, hi, hM, rfl, rfl, hN'⟩ := hrel
        by_cases hlt2 : i < q + 1
        · obtain ⟨x, hx⟩ : ∃ x, OW[i]? = some x := ⟨_, List.getElem?_eq_getElem (by rw [HQ.out]; exact hlt2)⟩
          obtain ⟨ho, ⟨pe, pn⟩, ⟨qe, qn⟩, hpa, hqa, hpe, hpq⟩ := HEL1.out i x hx
          rw [← hM] at ho hpa
          dsimp only at hpe
          subst hpe
          have hMl : M < oth.length := (List.getElem?_eq_some_iff.1 ho).1
          obtain rfl := HO68.out.ptr (fun e => by rw [e] at hMl; simp at hMl)
          obtain rfl := HA88.out.ptr (fun e => by rw [e] at hpa; simp at hpa)
          have hOi := HO11.out.kept hN' (fun x => x)
          have x0 : wr.cell? ⟨g11, i * 4, none⟩ = some (.int .i64 x.d) := by have := hOi.cell i x hx 0 (by omega); rwa [Nat.zero_add] at this
          have x1 : wr.cell? ⟨g11, i * 4 + 1, none⟩ = some (.int .i64 x.t) := by have := hOi.cell i x hx 1 (by omega); rwa [Nat.zero_add] at this
          have x2 : wr.cell? ⟨g11, i * 4 + 2, none⟩ = some (.int .i64 x.k) := by have := hOi.cell i x hx 2 (by omega); rwa [Nat.zero_add] at this
          have x3 : wr.cell? ⟨g11, i * 4 + 3, none⟩ = some (.int .i64 x.n) := by have := hOi.cell i x hx 3 (by omega); rwa [Nat.zero_add] at this
          have hAl : New wr (wr.alloc (.cells #[.int .i64 x.d, .int .i64 x.t, .int .i64 x.k, .int .i64 x.n] 47)) := (Chg.refl _ wr).alloc _
          have hOm := HO68.out.kept ((HN89.out.trans hN').trans hAl) (fun x => x)
          have o0 : (wr.alloc (.cells #[.int .i64 x.d, .int .i64 x.t, .int .i64 x.k, .int .i64 x.n] 47)).cell? ⟨g6, M * 4, none⟩ = some (.int .i64 x.d) := by have := hOm.cell M x ho 0 (by omega); rwa [Nat.zero_add] at this
          have o1 : (wr.alloc (.cells #[.int .i64 x.d, .int .i64 x.t, .int .i64 x.k, .int .i64 x.n] 47)).cell? ⟨g6, M * 4 + 1, none⟩ = some (.int .i64 x.t) := by have := hOm.cell M x ho 1 (by omega); rwa [Nat.zero_add] at this
          have o2 : (wr.alloc (.cells #[.int .i64 x.d, .int .i64 x.t, .int .i64 x.k, .int .i64 x.n] 47)).cell? ⟨g6, M * 4 + 2, none⟩ = some (.int .i64 x.k) := by have := hOm.cell M x ho 2 (by omega); rwa [Nat.zero_add] at this
          have o3 : (wr.alloc (.cells #[.int .i64 x.d, .int .i64 x.t, .int .i64 x.k, .int .i64 x.n] 47)).cell? ⟨g6, M * 4 + 3, none⟩ = some (.int .i64 x.n) := by have := hOm.cell M x ho 3 (by omega); rwa [Nat.zero_add] at this
          obtain ⟨p0, p1⟩ := (HA88.out.kept ((HN89.out.trans hN').trans hAl)).cell M _ hpa
          obtain ⟨q0, q1⟩ := (HA12.out.kept (hN'.trans hAl)).cell i _ hqa
          rw [Nat.zero_add] at p0 p1 q0 q1
          dsimp only at p0 p1 q0 q1
          have b5 : (0 : Int) ≤ (i : Int) := by omega
          have b6 : (i : Int) < (q : Int) + 1 := by omega
          have b7 : (0 : Int) ≤ (M : Int) := by omega
          have b8 : (M : Int) < (oth.length : Int) := by omega
          have HN' := Lib.hid (hN'.trans hAl)
          have hnb : (wr.alloc (.cells #[.int .i64 x.d, .int .i64 x.t, .int .i64 x.k, .int .i64 x.n] 47)).heap[wr.heap.size]? = some (.cells #[.int .i64 x.d, .int .i64 x.t, .int .i64 x.k, .int .i64 x.n] 47) := heap_alloc_new wr _
          have hnq : ∀ w : World, (binOp .neq 47 (.agg #[.int .i64 x.d, .int .i64 x.t, .int .i64 x.k, .int .i64 x.n]) (.agg #[.int .i64 x.d, .int .i64 x.t, .int .i64 x.k, .int .i64 x.n])).run Try.prog w = .ok (.bool false) w := fun w => by
            rw [neq47]
            simp
          have HMP := Lib.hid hM
          clear hOi hOm hx ho hpa hqa hN' hAl hM
          go_upto_region 26 with fail
          generalize wr.alloc _ = wa at *
          generalize wr.heap.size = nb at *
          have m0 : wa.cell? ⟨nb, 0, none⟩ = some (.int .i64 x.d) := by simp [World.cell?, hnb]
          have m1 : wa.cell? ⟨nb, 1, none⟩ = some (.int .i64 x.t) := by simp [World.cell?, hnb]
          have m2 : wa.cell? ⟨nb, 2, none⟩ = some (.int .i64 x.k) := by simp [World.cell?, hnb]
          have m3 : wa.cell? ⟨nb, 3, none⟩ = some (.int .i64 x.n) := by simp [World.cell?, hnb]
          clear x0 x1 x2 x3 hnb
          have b9 : ¬ (oth.length : Int) ≤ (M : Int) := by omega
          have b10 : decide ((M : Int) ≥ (oth.length : Int)) = false := by simp; omega
          by_cases hd : x.d = 0
          · have zd : (x.d != 0) = false := by simp [hd]
            go_quiet (fail)
            go_wp2_with fail
            refine ⟨⟨i + 1, M + 1, by omega, by have := HMP.out; omega, by go_num, by go_num, HN'.out.drewN _⟩, by simp [intOf]; omega⟩
          · have zd : (x.d != 0) = true := by simp [hd]
            have hpq' := hpq hd
            simp only [Ans.mk.injEq] at hpq'
            obtain ⟨rfl, rfl⟩ := hpq'
            have hnq2 : ∀ w : World, (binOp .neq 49 (.agg #[.int .i64 0, .int .i64 pn]) (.agg #[.int .i64 0, .int .i64 pn])).run Try.prog w = .ok (.bool false) w := fun w => by
              have h1 := neq49 ⟨0, pn⟩ ⟨0, pn⟩ w
              simpa using h1
            go_quiet (fail)
            go_wp2_with fail
            refine ⟨⟨i + 1, M + 1, by omega, by have := HMP.out; omega, by go_num, by go_num, HN'.out.drewN _⟩, by simp [intOf]; omega⟩
        · obtain rfl : i = q + 1 := by omega
          have HN' := Lib.hid (HN89.out.trans hN')
          have hPS := HPS1.out
          rw [HQ.out, ← hM] at hPS
          have HPS2 := Lib.hid hPS
          clear hN' hPS hM hpl hlt2 hi
          go_wp2_with fail
          refine ⟨⟨j + 1, by omega, by go_num, by rw [HPS2.out], HN'.out⟩, by simp [intOf]; omega⟩
     · obtain rfl : j = sr.length := by omega
       rw [HPE.out]
       have HN := Lib.hid hN
       clear hN hlt hj HPE
       go_wp2_with ((with_reducible refine (awake_any _).mono ?_); rintro e wb ⟨rfl, hNb⟩)
       go_ret
       exact ⟨rfl, (HNA.out.trans HN.out).trans hNb⟩
end
end Go.Proofs.Yteaeflmglppcdaa
