/- The reference: the script of committed transactions. The walk of the statement TxTells. -/
import Derived.Test.YteaeflmglppcdaaTD
namespace Go.Proofs.Yteaeflmglppcdaa
open Go.RowKit Tx

/-- A script of the call's own. -/
structure MineO (w wr : World) (v : Value) (l : List Tx.Op) : Prop where
  new : New w wr
  row : wr.ownsRow 0 47 4 v l.length (opRow l)
  own : ∀ g, v.ownBlock = some g → w.heap.size ≤ g
theorem MineO.more {w wr w' : World} {v : Value} {l : List Tx.Op} (h : MineO w wr v l) (hN : New wr w') : MineO w w' v l := ⟨h.new.trans hN, hN.ownsRow h.row (fun _ _ x => x), h.own⟩
theorem MineO.snoc {w wr w' : World} {v : Value} {l : List Tx.Op} {o : Tx.Op} {g cap : Nat} {q : Obj} (h : MineO w wr v l) (hrow : w'.ownsRow 0 47 4 (.slice (some ⟨g, 0, none⟩) (l.length + 1) cap) (l.length + 1) (opRow l ++ [.int .i64 o.d, .int .i64 o.t, .int .i64 o.k, .int .i64 o.n]))
    (hg : (wr.alloc q).grownBy w' v.ownBlock) (hat : v.ownBlock = some g ∨ g = (wr.alloc q).heap.size) : MineO w w' (.slice (some ⟨g, 0, none⟩) (l.length + 1) cap) (l ++ [o]) := by
  have hC : Chg (fun k => v.ownBlock = some k) wr w' := ((Chg.refl _ wr).alloc _).grown hg (fun k hk _ => hk)
  refine ⟨h.new.then hC (fun i hi e => by have := h.own i e; omega), ?_, fun k hk => ?_⟩
  · rw [opRow_append, List.length_append]
    exact hrow
  · simp [Value.ownBlock] at hk
    subst hk
    rcases hat with e | e
    · exact h.own g e
    · rw [e, World.size_alloc]
      have := h.new.size
      omega
section
variable {w : World}
set_option maxRecDepth 100000 in
theorem ralone_no (a : Option Addr) (n c : Nat) (hl : 200 < n) (h63 : n ≤ maxLen) : Calls Try.prog 21 #[.slice a n c] w fun e w' => e = .returned (.tuple #[.slice none 0 0, .int .i64 3]) ∧ New w w' := by
  have HA := Lib.hid (fun w => rserial_no (w := w) a n c hl h63)
  clear hl h63
  go_enter Try.func21, Try.ntmps21
  go_wp2_with ((with_reducible refine (HA.out _).mono ?_); rintro e w1 ⟨rfl, hN⟩; have HN := Lib.hid hN; clear hN)
  refine bodyPost_ret (results_tmp2 rfl _ _ _) rfl ?_
  exact ⟨rfl, HN.out⟩
set_option maxRecDepth 100000 in
set_option maxHeartbeats 2000000 in
theorem ralone_any (a : Option Addr) (b off c : Nat) (ops : List Tx.Op) (hO : OpsAt w a b off ops) (hl : ops.length ≤ 200) :
    Calls Try.prog 21 #[.slice a ops.length c] w fun e w' => ∃ v, e = .returned (.tuple #[v, .int .i64 0]) ∧ MineO w w' v (alone ops) := by
  have HS := Lib.hid (rserial_any a b off c ops hO hl)
  have HA : Hid (∀ w', New w w' → Calls Try.prog 35 #[.slice a ops.length c] w' fun e w'' => ∃ v P, e = .returned (.tuple #[.agg #[.slice (some ⟨P.ga, 0, none⟩) 16 P.ca, .slice (some ⟨P.gW, 0, none⟩) (xall ops).st.insts.length P.cW, .slice (some ⟨P.gC, 0, none⟩) (xall ops).st.insts.length P.cC, .int .i64 (xall ops).commits], v, .int .i64 0]) ∧
      RRep w'' P (xall ops) ∧ New w' w'' ∧ w''.ownsRow 0 49 2 v ops.length (ansRow (Tx.run St.zero ops).1) ∧ (∀ b, P.lab b ≠ 0 → w'.heap.size ≤ b) ∧ ∀ g, v.ownBlock = some g → w'.heap.size ≤ g) :=
    fun w' hn => all_open a b off c ops (hO.kept hn (fun h => h)) hl
  have HO := Lib.hid hO
  have hl2 : (ops.length : Int) ≤ 200 := by omega
  have hlenA : (Tx.run St.zero ops).1.length = ops.length := length_run ops St.zero
  have hsl := length_serial2 (Tx.run St.zero ops).2
  have hgd := (Good.zero.run (l := ops))
  rw [Nat.zero_add] at hgd
  have hsl2 : (serial (Tx.run St.zero ops).2).length ≤ 1000 := by have h1 := hgd.insts; have h2 := hgd.readers; omega
  unfold Tx.alone
  clear hsl hgd hO
  generalize hAN : (Tx.run St.zero ops).1 = an at *
  generalize serial (Tx.run St.zero ops).2 = sr at *
  clear hAN
  have hsl3 : (sr.length : Int) ≤ 1000 := by omega
  go_enter Try.func21, Try.ntmps21
  go_upto_region 5 with (first
    | ((with_reducible refine HS.out.mono ?_); rintro e w1 ⟨v1, rfl, hM1⟩; have HM1 := Lib.hid hM1; clear hM1)
    | ((with_reducible refine (HA.out _ HM1.out.new).mono ?_); rintro e w2 ⟨v2, P, rfl, hR, hN2, hrow2, hL, hown2⟩; have HN2 := Lib.hid hN2; have HROW2 := Lib.hid hrow2; clear hR hN2 hrow2 hL hown2))
  have hN23 : New w2 (w2.alloc (.cells #[.slice (some ⟨P.ga, 0, none⟩) 16 P.ca, .slice (some ⟨P.gW, 0, none⟩) (xall ops).st.insts.length P.cW, .slice (some ⟨P.gC, 0, none⟩) (xall ops).st.insts.length P.cC, .int .i64 (xall ops).commits] 79)) := (Chg.refl _ w2).alloc _
  have HM3 := Lib.hid (HM1.out.more (HN2.out.trans hN23))
  have HROW3 := Lib.hid (hN23.ownsRow HROW2.out (fun _ _ x => x))
  clear hN23 HM1 HN2 HROW2 HS HA
  generalize w2.alloc _ = w3 at *
  obtain ⟨a4, c4, rfl⟩ := row_shape HM3.out.row
  obtain ⟨a7, c7, rfl⟩ := row_shape HROW3.out
  obtain ⟨g4, hI4, hp4⟩ := ints_row HM3.out.row rfl
  obtain ⟨g7, hI7, hp7⟩ := ans_row HROW3.out hlenA
  have HI4 := Lib.hid hI4; have HI7 := Lib.hid hI7; have HP4 := Lib.hid hp4; have HP7 := Lib.hid hp7
  have HO3 := Lib.hid (HO.out.kept HM3.out.new (fun h => h))
  clear hI4 hI7 hp4 hp7
  obtain ⟨i0, hi0, hz0, hz1, hz2⟩ := info_parts Try.info47
  have HI0 := Lib.hid hi0; have HZ0 := Lib.hid hz0; have HZ1 := Lib.hid hz1; have HZ2 := Lib.hid hz2
  clear hi0 hz0 hz1 hz2
  have HLA := Lib.hid hlenA
  clear hlenA
  go_wp2_with fail
  go_loopw [9, 10] (fun v9 v wr => ∃ i : Nat, i ≤ sr.length ∧ v = .int .i64 i ∧ MineO w3 wr v9 (behind_ ops an (sr.take i))) (fun _ v _ => sr.length - (intOf v).toNat)
  case atStart => exact ⟨0, by omega, rfl, Chg.refl _ _, World.ownsRow_nil _ _ _ _, fun g hg => by simp [Value.ownBlock] at hg⟩
  case round =>
    obtain ⟨i, hi, rfl, hM⟩ := hrel
    have HM := Lib.hid hM
    clear hM
    by_cases hlt : i < sr.length
    · obtain ⟨T, hT⟩ : ∃ T, sr[i]? = some T := ⟨_, List.getElem?_eq_getElem hlt⟩
      have HBT := Lib.hid (behind_take ops an sr i T hT)
      have HT := Lib.hid hT
      have hbl := length_behind ops an (sr.take i)
      have hbl2 : (behind_ ops an (sr.take i)).length ≤ 1000 * 200 := Nat.le_trans hbl (Nat.mul_le_mul (by rw [List.length_take]; omega) hl)
      have HBL := Lib.hid hbl2
      have b4 : (i : Int) < (sr.length : Int) := by omega
      have b5 : (0 : Int) ≤ (i : Int) := by omega
      have hp : a4 = some ⟨g4, 0, none⟩ := HP4.out (by omega)
      subst hp
      clear hT hbl hbl2
      generalize behind_ ops an (sr.take i) = S at *
      go_wp2_with fail
      go_loopw [9, 11] (fun v9 v wt => ∃ k : Nat, k ≤ ops.length ∧ v = .int .i64 k ∧ MineO w3 wt v9 (S ++ own1 T ((ops.zip an).take k))) (fun _ v _ => ops.length - (intOf v).toNat)
      case atStart => exact ⟨0, by omega, rfl, by simpa [own1] using HM.out⟩
      case round =>
        obtain ⟨k, hk, rfl, hM2⟩ := hrel
        have hN2 := hM2.new
        have HM2 := Lib.hid hM2
        clear hM2
        by_cases hkl : k < ops.length
        · obtain ⟨o, ho⟩ : ∃ o, ops[k]? = some o := ⟨_, List.getElem?_eq_getElem hkl⟩
          obtain ⟨x, hx⟩ : ∃ x, an[k]? = some x := ⟨_, List.getElem?_eq_getElem (by rw [HLA.out]; exact hkl)⟩
          have hne : ops ≠ [] := fun e => by rw [e] at hkl; simp at hkl
          have HNE := Lib.hid hne
          obtain rfl := HO3.out.ptr hne
          have hp : a7 = some ⟨g7, 0, none⟩ := HP7.out (by omega)
          subst hp
          have hz : (ops.zip an)[k]? = some (o, x) := by rw [List.getElem?_zip_eq_some]; exact ⟨ho, hx⟩
          have HOT := Lib.hid (own1_take (t := T) hz)
          have hOr := HO3.out.kept hN2 (fun h => h)
          have x0 : wr.cell? ⟨b, off + k * 4, none⟩ = some (.int .i64 o.d) := hOr.cell k o ho 0 (by omega)
          have x1 : wr.cell? ⟨b, off + k * 4 + 1, none⟩ = some (.int .i64 o.t) := hOr.cell k o ho 1 (by omega)
          have x2 : wr.cell? ⟨b, off + k * 4 + 2, none⟩ = some (.int .i64 o.k) := hOr.cell k o ho 2 (by omega)
          have x3 : wr.cell? ⟨b, off + k * 4 + 3, none⟩ = some (.int .i64 o.n) := hOr.cell k o ho 3 (by omega)
          have y0 := (HI4.out.kept hN2).cell i T HT.out
          have z0 := ((HI7.out.kept hN2).cell k x hx).1
          rw [Nat.zero_add] at y0 z0
          have b6 : (0 : Int) ≤ (k : Int) := by omega
          have b7 : (k : Int) < (ops.length : Int) := by omega
          have hlen : (S ++ own1 T ((ops.zip an).take k)).length ≤ 300000 := by
            have h1 := length_own1 T ((ops.zip an).take k)
            have h2 := HBL.out
            rw [List.length_take] at h1
            rw [List.length_append]
            omega
          have HLEN := Lib.hid hlen
          have HN2 := Lib.hid hN2
          clear hOr hN2 ho hx hz hne hlen
          by_cases h1 : o.t = T
          · by_cases h2 : x.e = 0
            · rw [if_pos ⟨h1, h2⟩] at HOT
              rw [h2] at z0
              subst h1
              clear h2
              go_upto_region 12 with fail
              have HDQ : ∀ q, New wr (wr.drewN q) := fun q => New.drewN (Chg.refl _ _) q
              go_quiet (fail)
              have HD5 := HDQ nq
              clear HDQ
              generalize hLL : S ++ own1 o.t ((ops.zip an).take k) = L at HM2 HLEN
              have HLL := Lib.hid hLL
              clear hLL
              generalize wr.drewN _ = w5 at *
              have HM5 := Lib.hid (HM2.out.more HD5)
              have X0 := (HD5.cell (a := ⟨b, off + k * 4, none⟩) (World.block_lt_of_cell? wr _ x0) (fun h => h)).trans x0
              have X1 := (HD5.cell (a := ⟨b, off + k * 4 + 1, none⟩) (World.block_lt_of_cell? wr _ x1) (fun h => h)).trans x1
              have X2 := (HD5.cell (a := ⟨b, off + k * 4 + 2, none⟩) (World.block_lt_of_cell? wr _ x2) (fun h => h)).trans x2
              have X3 := (HD5.cell (a := ⟨b, off + k * 4 + 3, none⟩) (World.block_lt_of_cell? wr _ x3) (fun h => h)).trans x3
              have hrow := HM5.out.row.alloc (.cells #[.int .i64 o.d, .int .i64 o.t, .int .i64 o.k, .int .i64 o.n] 47)
              have hnews := news_alloc w5 #[.int .i64 o.d, .int .i64 o.t, .int .i64 o.k, .int .i64 o.n] 47
              have HROW := Lib.hid hrow; have HNEWS := Lib.hid hnews
              clear hrow hnews x0 x1 x2 x3 y0 z0 HD5
              go_wp2_with (refine wpList_append_lies _ rfl _ _ 22 rfl 0 47 i0 zero47 4 32 Try.underlying22 HI0.out HZ0.out HZ1.out HZ2.out rfl (by decide) u9 _ _ rfl HROW.out ⟨w5.heap.size, 0, none⟩ 1 1 [.int .i64 o.d, .int .i64 o.t, .int .i64 o.k, .int .i64 o.n] rfl rfl HNEWS.out (by simp [Value.oneCell']) (by decide) (by have := HLEN.out; unfold maxLen; omega) (by have := HLEN.out; omega) (Nat.zero_le _) _ rfl ?_; intro g6 cap6 w6 hown6 hg6 hat6 hlt6)
              refine ⟨⟨k + 1, by omega, by go_num, ?_⟩, by simp [intOf]; omega⟩
              rw [HOT.out, ← List.append_assoc, HLL.out]
              exact HM5.out.snoc hown6 hg6 hat6
            · rw [if_neg (fun h => h2 h.2), List.append_nil] at HOT
              have HH2 := Lib.hid h2
              have h22 : (x.e == 0) = false := by simp [h2]
              rw [h1] at x1
              clear h1
              go_upto_region 12 with fail
              go_quiet (fail)
              go_wp2_with fail
              refine ⟨⟨k + 1, by omega, by go_num, ?_⟩, by simp [intOf]; omega⟩
              rw [HOT.out]
              exact HM2.out.more (New.drewN (Chg.refl _ _) _)
          · rw [if_neg (fun h => h1 h.1), List.append_nil] at HOT
            have h11 : (o.t == T) = false := by simp [h1]
            go_upto_region 12 with fail
            go_quiet (fail)
            go_wp2_with fail
            refine ⟨⟨k + 1, by omega, by go_num, ?_⟩, by simp [intOf]; omega⟩
            rw [HOT.out]
            exact HM2.out.more (New.drewN (Chg.refl _ _) _)
        · obtain rfl : k = ops.length := by omega
          rw [List.take_of_length_le (by rw [List.length_zip]; omega)] at HM2
          clear hN2
          go_wp2_with fail
          refine ⟨⟨i + 1, by omega, by go_num, ?_⟩, by simp [intOf]; omega⟩
          rw [HBT.out]
          exact HM2.out
    · obtain rfl : i = sr.length := by omega
      rw [List.take_length] at HM
      go_wp2_with fail
      refine bodyPost_ret (results_tmp2 rfl _ _ _) rfl ?_
      exact ⟨_, rfl, HM3.out.new.trans HM.out.new, HM.out.row, fun g hg => by have h1 := HM.out.own g hg; have h2 := HM3.out.new.size; omega⟩
end
end Go.Proofs.Yteaeflmglppcdaa
namespace Go.Proofs.Yteaeflmglppcdaa
open Go.RowKit Tx

section
variable {w : World}
set_option maxRecDepth 100000 in
set_option maxHeartbeats 4000000 in
theorem tells_core (a : Option Addr) (n c : Nat) (i : Int) (hn : n ≤ 300) (A : List Ans) (W L S : List Int) (O : List Tx.Op) (N E1 E2 E3 E4 E5 : Int)
    (h12 : ∀ w', New w w' → Calls Try.prog 12 #[.slice a n c] w' fun e w'' => ∃ a1 g1 c1, e = .returned (.tuple #[.slice a1 A.length c1, .int .i64 E1]) ∧ New w' w'' ∧ AnsAt w'' a1 g1 0 A)
    (h13 : ∀ w', New w w' → Calls Try.prog 13 #[.slice a n c] w' fun e w'' => ∃ a1 g1 c1, e = .returned (.tuple #[.slice a1 A.length c1, .int .i64 E1]) ∧ New w' w'' ∧ AnsAt w'' a1 g1 0 A)
    (h14 : ∀ w', New w w' → Calls Try.prog 14 #[.slice a n c, .int .i64 i] w' fun e w'' => ∃ a1 g1 c1, e = .returned (.tuple #[.slice a1 W.length c1, .int .i64 E2]) ∧ New w' w'' ∧ IntsAt w'' a1 g1 0 W)
    (h15 : ∀ w', New w w' → Calls Try.prog 15 #[.slice a n c, .int .i64 i] w' fun e w'' => ∃ a1 g1 c1, e = .returned (.tuple #[.slice a1 W.length c1, .int .i64 E2]) ∧ New w' w'' ∧ IntsAt w'' a1 g1 0 W)
    (h16 : ∀ w', New w w' → Calls Try.prog 16 #[.slice a n c] w' fun e w'' => ∃ a1 g1 c1, e = .returned (.tuple #[.int .i64 N, .slice a1 L.length c1, .int .i64 E3]) ∧ New w' w'' ∧ IntsAt w'' a1 g1 0 L)
    (h17 : ∀ w', New w w' → Calls Try.prog 17 #[.slice a n c] w' fun e w'' => ∃ a1 g1 c1, e = .returned (.tuple #[.int .i64 N, .slice a1 L.length c1, .int .i64 E3]) ∧ New w' w'' ∧ IntsAt w'' a1 g1 0 L)
    (h18 : ∀ w', New w w' → Calls Try.prog 18 #[.slice a n c] w' fun e w'' => ∃ a1 g1 c1, e = .returned (.tuple #[.slice a1 S.length c1, .int .i64 E4]) ∧ New w' w'' ∧ IntsAt w'' a1 g1 0 S)
    (h19 : ∀ w', New w w' → Calls Try.prog 19 #[.slice a n c] w' fun e w'' => ∃ a1 g1 c1, e = .returned (.tuple #[.slice a1 S.length c1, .int .i64 E4]) ∧ New w' w'' ∧ IntsAt w'' a1 g1 0 S)
    (h20 : ∀ w', New w w' → Calls Try.prog 20 #[.slice a n c] w' fun e w'' => ∃ a1 g1 c1, e = .returned (.tuple #[.slice a1 O.length c1, .int .i64 E5]) ∧ New w' w'' ∧ OpsAt w'' a1 g1 0 O)
    (h21 : ∀ w', New w w' → Calls Try.prog 21 #[.slice a n c] w' fun e w'' => ∃ a1 g1 c1, e = .returned (.tuple #[.slice a1 O.length c1, .int .i64 E5]) ∧ New w' w'' ∧ OpsAt w'' a1 g1 0 O) :
    Calls Try.prog 3 #[.slice a n c, .int .i64 i] w fun e w' => e = .returned (.bool true) ∧ New w w' := by
  have hn2 : (n : Int) ≤ 300 := by omega
  have H12 := Lib.hid (h12 w (Chg.refl _ _)); have H13 := Lib.hid h13; have H14 := Lib.hid h14; have H15 := Lib.hid h15; have H16 := Lib.hid h16; have H17 := Lib.hid h17
  have H18 := Lib.hid h18; have H19 := Lib.hid h19; have H20 := Lib.hid h20; have H21 := Lib.hid h21
  clear h12 h13 h14 h15 h16 h17 h18 h19 h20 h21
  go_enter Try.func3, Try.ntmps3
  go_upto_region 13 with (first
    | ((with_reducible refine H12.out.mono ?_); rintro e w1 ⟨a1, g1, c1, rfl, hN1, hA1⟩; have N1 := Lib.hid hN1; have A1 := Lib.hid hA1; clear hN1 hA1)
    | ((with_reducible refine (H13.out _ N1.out).mono ?_); rintro e w2 ⟨a2, g2, c2, rfl, hN2, hA2⟩; have N2 := Lib.hid (N1.out.trans hN2); have A2 := Lib.hid hA2; have K2 := Lib.hid hN2; clear hN2 hA2)
    | ((with_reducible refine (H14.out _ N2.out).mono ?_); rintro e w3 ⟨a3, g3, c3, rfl, hN3, hA3⟩; have N3 := Lib.hid (N2.out.trans hN3); have A3 := Lib.hid hA3; have K3 := Lib.hid hN3; clear hN3 hA3)
    | ((with_reducible refine (H15.out _ N3.out).mono ?_); rintro e w4 ⟨a4, g4, c4, rfl, hN4, hA4⟩; have N4 := Lib.hid (N3.out.trans hN4); have A4 := Lib.hid hA4; have K4 := Lib.hid hN4; clear hN4 hA4)
    | ((with_reducible refine (H16.out _ N4.out).mono ?_); rintro e w5 ⟨a5, g5, c5, rfl, hN5, hA5⟩; have N5 := Lib.hid (N4.out.trans hN5); have A5 := Lib.hid hA5; have K5 := Lib.hid hN5; clear hN5 hA5)
    | ((with_reducible refine (H17.out _ N5.out).mono ?_); rintro e w6 ⟨a6, g6, c6, rfl, hN6, hA6⟩; have N6 := Lib.hid (N5.out.trans hN6); have A6 := Lib.hid hA6; have K6 := Lib.hid hN6; clear hN6 hA6)
    | ((with_reducible refine (H18.out _ N6.out).mono ?_); rintro e w7 ⟨a7, g7, c7, rfl, hN7, hA7⟩; have N7 := Lib.hid (N6.out.trans hN7); have A7 := Lib.hid hA7; have K7 := Lib.hid hN7; clear hN7 hA7)
    | ((with_reducible refine (H19.out _ N7.out).mono ?_); rintro e w8 ⟨a8, g8, c8, rfl, hN8, hA8⟩; have N8 := Lib.hid (N7.out.trans hN8); have A8 := Lib.hid hA8; have K8 := Lib.hid hN8; clear hN8 hA8)
    | ((with_reducible refine (H20.out _ N8.out).mono ?_); rintro e w9 ⟨a9, g9, c9, rfl, hN9, hA9⟩; have N9 := Lib.hid (N8.out.trans hN9); have A9 := Lib.hid hA9; have K9 := Lib.hid hN9; clear hN9 hA9)
    | ((with_reducible refine (H21.out _ N9.out).mono ?_); rintro e wx ⟨ax, gx, cx, rfl, hNx, hAx⟩; have NX := Lib.hid (N9.out.trans hNx); have AX := Lib.hid hAx; have KX := Lib.hid hNx; clear hNx hAx))
  have T9 : New w8 wx := K9.out.trans KX.out
  have T8 : New w7 wx := K8.out.trans T9
  have T7 : New w6 wx := K7.out.trans T8
  have T6 : New w5 wx := K6.out.trans T7
  have T5 : New w4 wx := K5.out.trans T6
  have T4 : New w3 wx := K4.out.trans T5
  have T3 : New w2 wx := K3.out.trans T4
  have T2 : New w1 wx := K2.out.trans T3
  have HA : Hid (∀ w', New wx w' → Calls Try.prog 22 #[.slice a1 A.length c1, .slice a2 A.length c2] w' fun e w'' => e = .returned (.bool true) ∧ New w' w'') := fun w' hn => by
    have h := same_new (c := c1) (c' := c2) (A1.out.kept (T2.trans hn)) (A2.out.kept (T3.trans hn))
    simpa using h
  have HW : Hid (∀ w', New wx w' → Calls Try.prog 23 #[.slice a3 W.length c3, .slice a4 W.length c4] w' fun e w'' => e = .returned (.bool true) ∧ New w' w'') := fun w' hn => by
    have h := equal_new (c := c3) (c' := c4) (A3.out.kept (T4.trans hn)) (A4.out.kept (T5.trans hn))
    simpa using h
  have HL : Hid (∀ w', New wx w' → Calls Try.prog 23 #[.slice a5 L.length c5, .slice a6 L.length c6] w' fun e w'' => e = .returned (.bool true) ∧ New w' w'') := fun w' hn => by
    have h := equal_new (c := c5) (c' := c6) (A5.out.kept (T6.trans hn)) (A6.out.kept (T7.trans hn))
    simpa using h
  have HS : Hid (∀ w', New wx w' → Calls Try.prog 23 #[.slice a7 S.length c7, .slice a8 S.length c8] w' fun e w'' => e = .returned (.bool true) ∧ New w' w'') := fun w' hn => by
    have h := equal_new (c := c7) (c' := c8) (A7.out.kept (T8.trans hn)) (A8.out.kept (T9.trans hn))
    simpa using h
  have HP : Hid (∀ w', New wx w' → Calls Try.prog 24 #[.slice a9 O.length c9, .slice ax O.length cx] w' fun e w'' => e = .returned (.bool true) ∧ New w' w'') := fun w' hn => by
    have h := sameOps_any a9 ax g9 gx 0 0 c9 cx O O (A9.out.kept (KX.out.trans hn) (fun h => h)) (AX.out.kept hn (fun h => h))
    refine h.mono ?_
    rintro e w'' ⟨rfl, q, rfl⟩
    exact ⟨by simp, (Chg.refl _ _).drewN q⟩
  clear H12 H13 H14 H15 H16 H17 H18 H19 H20 H21 A1 A2 A3 A4 A5 A6 A7 A8 A9 AX K2 K3 K4 K5 K6 K7 K8 K9 KX N1 N2 N3 N4 N5 N6 N7 N8 N9 T2 T3 T4 T5 T6 T7 T8 T9
  have HAW := Lib.hid awake_any
  go_wp2_with (first
    | ((with_reducible refine (HA.out _ (Chg.refl _ _)).mono ?_); rintro e v1 ⟨rfl, hM1⟩; have M1 := Lib.hid hM1; clear hM1)
    | ((with_reducible refine (HW.out _ M1.out).mono ?_); rintro e v2 ⟨rfl, hM2⟩; have M2 := Lib.hid (M1.out.trans hM2); clear hM2)
    | ((with_reducible refine (HL.out _ M2.out).mono ?_); rintro e v3 ⟨rfl, hM3⟩; have M3 := Lib.hid (M2.out.trans hM3); clear hM3)
    | ((with_reducible refine (HS.out _ M3.out).mono ?_); rintro e v4 ⟨rfl, hM4⟩; have M4 := Lib.hid (M3.out.trans hM4); clear hM4)
    | ((with_reducible refine (HP.out _ M4.out).mono ?_); rintro e v5 ⟨rfl, hM5⟩; have M5 := Lib.hid (M4.out.trans hM5); clear hM5)
    | ((with_reducible refine (HAW.out _).mono ?_); rintro e v6 ⟨rfl, hM6⟩; have M6 := Lib.hid (M5.out.trans hM6); clear hM6))
  go_ret
  exact ⟨rfl, NX.out.trans M6.out⟩
theorem AnsAt.none_ (w : World) : AnsAt w none 0 0 [] := ⟨by decide, fun h => absurd rfl h, fun i x hi => by simp at hi⟩
theorem IntsAt.none_ (w : World) : IntsAt w none 0 0 [] := ⟨by decide, fun h => absurd rfl h, fun i x hi => by simp at hi⟩
theorem OpsAt.none_ (w : World) : OpsAt w none 0 0 [] := ⟨by decide, fun h => absurd rfl h, fun i o hi => by simp at hi⟩
theorem ans_out {v : Value} {l : List Ans} {n : Nat} (h : w.ownsRow 0 49 2 v n (ansRow l)) (hl : l.length = n) : ∃ a g c, v = .slice a l.length c ∧ AnsAt w a g 0 l := by
  obtain ⟨a, c, rfl⟩ := row_shape h
  obtain ⟨g, hA, _⟩ := ans_row h hl
  exact ⟨a, g, c, by rw [hl], hA⟩
theorem ints_out {v : Value} {l : List Int} {n : Nat} (h : w.ownsRow 0 3 1 v n (intRow l)) (hl : l.length = n) : ∃ a g c, v = .slice a l.length c ∧ IntsAt w a g 0 l := by
  obtain ⟨a, c, rfl⟩ := row_shape h
  obtain ⟨g, hA, _⟩ := ints_row h hl
  exact ⟨a, g, c, by rw [hl], hA⟩
theorem ops_out {v : Value} {l : List Tx.Op} {n : Nat} (h : w.ownsRow 0 47 4 v n (opRow l)) (hl : l.length = n) : ∃ a g c, v = .slice a l.length c ∧ OpsAt w a g 0 l := by
  obtain ⟨a, c, rfl⟩ := row_shape h
  obtain ⟨g, hA, _⟩ := ops_row h hl
  exact ⟨a, g, c, by rw [hl], hA⟩
theorem wordsI_len (x : Inst) : (wordsI x).length = 16 := by simp [wordsI]
theorem ops_block {a : Option Addr} {b off : Nat} {ops : List Tx.Op} (h : OpsAt w a b off ops) : b < w.heap.size ∨ ops = [] := by
  cases ops with
  | nil => exact .inr rfl
  | cons o r => exact .inl (h.lt (by simp))
set_option maxRecDepth 100000 in
set_option maxHeartbeats 1000000 in
/-- For every script and every number the statement's call returns true. -/
theorem tells_walk (a : Option Addr) (b off c : Nat) (ops : List Tx.Op) (i : Int) (hO : OpsAt w a b off ops) :
    Calls Try.prog 3 #[.slice a ops.length c, .int .i64 i] w fun e w' => e = .returned (.bool true) ∧ New w w' := by
  by_cases hbig : 300 < ops.length
  · have h1 := hO.len
    unfold maxLen at h1
    have h2 : ¬ (ops.length : Int) ≤ 300 := by omega
    have h3 : (300 : Int) < (ops.length : Int) := by omega
    have h4 : (ops.length : Int) ≤ 9223372036854775807 := by omega
    have HAW := Lib.hid awake_any
    clear hO hbig h1
    go_enter Try.func3, Try.ntmps3
    go_wp2_with ((with_reducible refine (HAW.out _).mono ?_); rintro e v6 ⟨rfl, hM6⟩; have M6 := Lib.hid hM6; clear hM6)
    go_ret
    exact ⟨rfl, M6.out⟩
  · by_cases hl : 200 < ops.length
    · have h63 := hO.len
      refine tells_core a ops.length c i (by omega) [] [] [] [] [] 0 3 3 3 3 3 (fun w' hn => (run_no a _ c hl h63).mono ?_) (fun w' hn => (rrun_no a _ c hl h63).mono ?_) (fun w' hn => (at_no a _ c i hl h63).mono ?_) (fun w' hn => (rat_no a _ c i hl h63).mono ?_)
        (fun w' hn => (last_no a _ c hl h63).mono ?_) (fun w' hn => (rlast_no a _ c hl h63).mono ?_) (fun w' hn => (serial_no a _ c hl h63).mono ?_) (fun w' hn => (rserial_no a _ c hl h63).mono ?_) (fun w' hn => (alone_no a _ c hl h63).mono ?_) (fun w' hn => (ralone_no a _ c hl h63).mono ?_)
      · rintro e w1 ⟨rfl, hN⟩; exact ⟨none, 0, 0, rfl, hN, AnsAt.none_ _⟩
      · rintro e w1 ⟨rfl, hN⟩; exact ⟨none, 0, 0, rfl, hN, AnsAt.none_ _⟩
      · rintro e w1 ⟨rfl, hN⟩; exact ⟨none, 0, 0, rfl, hN, IntsAt.none_ _⟩
      · rintro e w1 ⟨rfl, hN⟩; exact ⟨none, 0, 0, rfl, hN, IntsAt.none_ _⟩
      · rintro e w1 ⟨rfl, hN⟩; exact ⟨none, 0, 0, rfl, hN, IntsAt.none_ _⟩
      · rintro e w1 ⟨rfl, hN⟩; exact ⟨none, 0, 0, rfl, hN, IntsAt.none_ _⟩
      · rintro e w1 ⟨rfl, hN⟩; exact ⟨none, 0, 0, rfl, hN, IntsAt.none_ _⟩
      · rintro e w1 ⟨rfl, hN⟩; exact ⟨none, 0, 0, rfl, hN, IntsAt.none_ _⟩
      · rintro e w1 ⟨rfl, hN⟩; exact ⟨none, 0, 0, rfl, hN, OpsAt.none_ _⟩
      · rintro e w1 ⟨rfl, hN⟩; exact ⟨none, 0, 0, rfl, hN, OpsAt.none_ _⟩
    · have hl2 : ops.length ≤ 200 := by omega
      have kO : ∀ w', New w w' → OpsAt w' a b off ops := fun w' hn => hO.kept hn (fun h => h)
      have hlen : (Tx.run St.zero ops).1.length = ops.length := length_run ops St.zero
      have h14 : ∃ (W : List Int) (E : Int), (∀ w', New w w' → Calls Try.prog 14 #[.slice a ops.length c, .int .i64 i] w' fun e w'' => ∃ a1 g1 c1, e = .returned (.tuple #[.slice a1 W.length c1, .int .i64 E]) ∧ New w' w'' ∧ IntsAt w'' a1 g1 0 W) ∧
          (∀ w', New w w' → Calls Try.prog 15 #[.slice a ops.length c, .int .i64 i] w' fun e w'' => ∃ a1 g1 c1, e = .returned (.tuple #[.slice a1 W.length c1, .int .i64 E]) ∧ New w' w'' ∧ IntsAt w'' a1 g1 0 W) := by
        by_cases hw : within i 0 ((Tx.run St.zero ops).2.insts.length - 1) = true
        · have hw2 : 0 ≤ i ∧ i ≤ ((Tx.run St.zero ops).2.insts.length : Int) - 1 := by simpa [within] using hw
          obtain ⟨I, rfl⟩ : ∃ I : Nat, i = (I : Int) := ⟨i.toNat, by omega⟩
          have hI : I < (Tx.run St.zero ops).2.insts.length := by omega
          refine ⟨wordsI ((Tx.run St.zero ops).2.inst I), 0, fun w' hn => (at_any a b off c ops I (kO w' hn) hl2 hI).mono ?_, fun w' hn => (rat_any a b off c ops I (kO w' hn) hl2 hI).mono ?_⟩
          · rintro e w1 ⟨v, rfl, hN, hrow, _⟩
            rw [wordsL_intRow] at hrow
            obtain ⟨a1, g1, c1, rfl, hI1⟩ := ints_out hrow (wordsI_len _)
            exact ⟨a1, g1, c1, rfl, hN, hI1⟩
          · rintro e w1 ⟨g, c1, rfl, hN, hI1, _⟩
            exact ⟨some ⟨g, 0, none⟩, g, c1, by rw [wordsI_len], hN, hI1⟩
        · have hw2 : within i 0 ((Tx.run St.zero ops).2.insts.length - 1) = false := by simpa using hw
          refine ⟨[], 2, fun w' hn => (at_range a b off c ops i (kO w' hn) hl2 hw2).mono ?_, fun w' hn => (rat_range a b off c ops i (kO w' hn) hl2 hw2).mono ?_⟩
          · rintro e w1 ⟨rfl, hN⟩; exact ⟨none, 0, 0, rfl, hN, IntsAt.none_ _⟩
          · rintro e w1 ⟨rfl, hN⟩; exact ⟨none, 0, 0, rfl, hN, IntsAt.none_ _⟩
      obtain ⟨W, E, h14, h15⟩ := h14
      refine tells_core a ops.length c i (by omega) (Tx.run St.zero ops).1 W (wordsI ((Tx.run St.zero ops).2.inst (last (Tx.run St.zero ops).2))) (serial (Tx.run St.zero ops).2) (alone ops) (last (Tx.run St.zero ops).2) 0 E 0 0 0
        (fun w' hn => (run_any a b off c ops (kO w' hn) (ops_block (kO w' hn)) hl2).mono ?_) (fun w' hn => (rrun_any a b off c ops (kO w' hn) hl2).mono ?_) h14 h15
        (fun w' hn => (last_yes a b off c ops (kO w' hn) hl2).mono ?_) (fun w' hn => (rlast_any a b off c ops (kO w' hn) hl2).mono ?_)
        (fun w' hn => (serial_yes a b off c ops (kO w' hn) hl2).mono ?_) (fun w' hn => (rserial_any a b off c ops (kO w' hn) hl2).mono ?_)
        (fun w' hn => (alone_yes a b off c ops (kO w' hn) hl2).mono ?_) (fun w' hn => (ralone_any a b off c ops (kO w' hn) hl2).mono ?_)
      · rintro e w1 ⟨v, rfl, hN, hrow, _⟩
        obtain ⟨a1, g1, c1, rfl, hA1⟩ := ans_out hrow hlen
        exact ⟨a1, g1, c1, rfl, hN, hA1⟩
      · rintro e w1 ⟨v, rfl, hN, hrow, _⟩
        obtain ⟨a1, g1, c1, rfl, hA1⟩ := ans_out hrow hlen
        exact ⟨a1, g1, c1, rfl, hN, hA1⟩
      · rintro e w1 ⟨v, rfl, hN, hrow, _⟩
        rw [wordsL_intRow] at hrow
        obtain ⟨a1, g1, c1, rfl, hI1⟩ := ints_out hrow (wordsI_len _)
        exact ⟨a1, g1, c1, rfl, hN, hI1⟩
      · rintro e w1 ⟨g, c1, rfl, hN, hI1, _⟩
        exact ⟨some ⟨g, 0, none⟩, g, c1, by rw [wordsI_len], hN, hI1⟩
      · rintro e w1 ⟨v, rfl, hN, hrow, _⟩
        obtain ⟨a1, g1, c1, rfl, hI1⟩ := ints_out hrow rfl
        exact ⟨a1, g1, c1, rfl, hN, hI1⟩
      · rintro e w1 ⟨v, rfl, hM⟩
        obtain ⟨a1, g1, c1, rfl, hI1⟩ := ints_out hM.row rfl
        exact ⟨a1, g1, c1, rfl, hM.new, hI1⟩
      · rintro e w1 ⟨v, rfl, hN, hrow, _⟩
        obtain ⟨a1, g1, c1, rfl, hI1⟩ := ops_out hrow rfl
        exact ⟨a1, g1, c1, rfl, hN, hI1⟩
      · rintro e w1 ⟨v, rfl, hM⟩
        obtain ⟨a1, g1, c1, rfl, hI1⟩ := ops_out hM.row rfl
        exact ⟨a1, g1, c1, rfl, hM.new, hI1⟩
end
end Go.Proofs.Yteaeflmglppcdaa
