/- The walk of TxLoses. -/
import Derived.Test.YteaeflmglppcdaaJ6
import Derived.Test.YteaeflmglppcdaaJ7
import Derived.Test.YteaeflmglppcdaaN8
import Derived.StillTailTactics
namespace Go.Proofs.Yteaeflmglppcdaa
open Go.RowKit Tx

theorem ans_ten {ops : List Tx.Op} {i : Nat} {o : Tx.Op} {a : Ans} (ho : ops[i]? = some o) (ha : (ans ops)[i]? = some a) (he : a.e = 10) : o.d = 4 := by
  rw [ans_at ho] at ha
  cases ha
  exact step_ten _ _ he
theorem wroteB_at {ops : List Tx.Op} {i : Nat} {t k : Int} (h : wroteB t k ((ops.take i).zip (ans ops)) = false) : ¬ wroteAt ops i t k := by
  rintro ⟨j, x, a, hj, h1, h2, h3, h4, h5, h6⟩
  have hm : wroteB t k ((ops.take i).zip (ans ops)) = true := by
    unfold wroteB
    rw [List.any_eq_true]
    refine ⟨(x, a), ?_, ?_⟩
    · refine List.mem_of_getElem? (i := j) ?_
      rw [List.getElem?_zip_eq_some]
      exact ⟨by rw [List.getElem?_take, if_pos hj]; exact h1, h2⟩
    · unfold wroteP
      rcases h5 with h5 | h5 <;> simp [h3, h4, h5, h6]
  rw [h] at hm
  cases hm
theorem MapIs.kept_new {K V : Type} {ek : K → Value} {ev : V → Value} {w w' : World} {m : Nat} {l : List (K × V)} (h : MapIs ek ev w m l) (hN : New w w') : MapIs ek ev w' m l :=
  h.kept (hN.block m h.lt (fun x => x))
theorem MapIs.kept_other {K V : Type} {ek : K → Value} {ev : V → Value} {w w' : World} {m b : Nat} {l : List (K × V)} (h : MapIs ek ev w m l) (hN : Chg (fun i => i = b) w w') (hne : m ≠ b) : MapIs ek ev w' m l :=
  h.kept (hN.block m h.lt hne)
section
variable {w : World}
set_option maxRecDepth 100000 in
set_option maxHeartbeats 16000000 in
theorem loses_walk (a : Option Addr) (b off c : Nat) (xs : List Int) (hU : U32At w a b off xs) (hc : xs.length ≤ c) (hc3 : c ≤ maxLen) :
    Calls Try.prog 7 #[.slice a xs.length c] w fun e w' => e = .returned (.bool true) ∧ New w w' := by
  by_cases hbig : 200 < xs.length
  · have hb2 : ¬ (xs.length : Int) ≤ 200 := by omega
    clear hU
    go_enter Try.func7, Try.ntmps7
    go_wp2_with ((with_reducible refine (awake_any _).mono ?_); rintro e w9 ⟨rfl, hN9⟩)
    go_ret
    exact ⟨rfl, hN9⟩
  · have hl : xs.length ≤ 200 := by omega
    have hl2 : (xs.length : Int) ≤ 200 := by omega
    have HM := Lib.hid (made_any a b off c xs hU hl hc hc3)
    have hm53 := make_map53
    have hm54 := make_map54
    have hm55 := make_map55
    clear hU
    go_enter Try.func7, Try.ntmps7
    go_wp2_with (first
      | ((with_reducible refine HM.out.mono ?_); rintro e w1 ⟨ops, v1, rfl, hN1, hlo, hr1, hg1⟩; obtain ⟨a1, g1, c1, rfl, hO1, hb1⟩ := row_len_ops hr1; have hcc := row_cap hr1; have hlo2 : ops.length ≤ 200 := (by omega); have hlo3 : (ops.length : Int) ≤ 200 := (by omega); have HA := Lib.hid (answered_any a1 g1 0 c1 ops hO1 hb1 hlo2); clear hr1 hlo)
      | ((with_reducible refine HA.out.mono ?_); rintro e w2 ⟨v2, rfl, hN2, hr2, hg2⟩; obtain ⟨a2, g2, c2, rfl, hA2⟩ := row_len_ans hr2 (length_run ops St.zero); change AnsAt w2 a2 g2 0 (ans ops) at hA2; have hO2 := hO1.kept hN2 (fun x => x);
          have HSE := Lib.hid (ser_ints (c := c1) hO2 hlo2); clear hr2 HA)
      | ((with_reducible refine HSE.out.mono ?_); rintro e w3 ⟨a3, g3, c3, rfl, hN3, hI3, hsl⟩; have hsl2 : ((serial (Tx.run St.zero ops).2).length : Int) ≤ 401 := (by omega); clear HSE))
    have hO3 := hO2.kept hN3 (fun x => x); have hA3 := hA2.kept hN3
    have HN0 := Lib.hid ((hN1.trans hN2).trans hN3)
    have hll : (ans ops).length = ops.length := length_run ops St.zero
    have HLL := Lib.hid hll
    have HOO := Lib.hid hO3; have HAO := Lib.hid hA3; have HIO := Lib.hid hI3
    have hG : Good (Tx.run St.zero ops).2 (0 + ops.length) := Good.zero.run
    have hGl : (Tx.run St.zero ops).2.insts.length ≤ 1000 := by have := hG.insts; omega
    have HGL := Lib.hid hGl
    have HNE : Hid (0 < (Tx.run St.zero ops).2.insts.length) := Lib.hid (by have := at_ne ops ops.length; rwa [at_all] at this)
    have HSO : Hid (Sound (Tx.run St.zero ops).2) := Lib.hid (by have := at_sound ops ops.length; rwa [at_all] at this)
    obtain ⟨st, hst⟩ : ∃ st, (Tx.run St.zero ops).2 = st := ⟨_, rfl⟩
    obtain ⟨sr, hsr⟩ : ∃ sr, serial st = sr := ⟨_, rfl⟩
    rw [hst] at HGL HNE HSO HIO hsl hsl2 ⊢
    rw [hsr] at HIO hsl hsl2 ⊢
    have HAL : Hid (at_ ops ops.length = st) := Lib.hid (by rw [at_all, hst])
    have HSR : Hid ((List.range st.insts.length).flatMap (Tx.partAt st) = sr) := hsr
    have HLT : Hid (∀ (I : List (Int × Int)) (W : List (Int × Bool)) (C : List (Int × Int)) (d : Nat) (K : List ((Int × Int) × Int)) (i : Nat) (o : Tx.Op) (x : Ans) (n : Int), LInv st I W C d → Taken st K → ops[i]? = some o → (ans ops)[i]? = some x → o.d = 3 → x.e = 0 → mget o.t C = some n → n ≠ 0 → ¬ wroteAt ops i o.t o.k →
        ∃ q : Int, mget o.t I = some q ∧ (∀ t, mget (q, o.k) K = some t → t = o.t) ∧ Taken st (mput (q, o.k) o.t K)) := Lib.hid (by
      intro I W C d K i o x n h1 h2 h3 h4 h5 h6 h7 h8 h9
      subst hst
      exact loses_taken h1 h2 h3 h4 h5 h6 h7 h8 h9)
    have hcc1 := hcc.1
    have hcc2 : (ops.length : Int) ≤ (c1 : Int) := by omega
    have HCM := Lib.hid hcc.2
    have hS3 : w3.heap.size + 4 = ((((w3.alloc (.map #[] 0)).alloc (.map #[] 0)).alloc (.map #[] 0)).alloc (.map #[] 0)).heap.size := by simp [World.size_alloc]
    have HM1 : Hid (MapIs ekInt ekInt ((((w3.alloc (.map #[] 0)).alloc (.map #[] 0)).alloc (.map #[] 0)).alloc (.map #[] 0)) w3.heap.size []) := Lib.hid ((((MapIs.new w3).kept_new ((Chg.refl _ _).alloc _)).kept_new ((Chg.refl _ _).alloc _)).kept_new ((Chg.refl _ _).alloc _))
    have HM2 : Hid (MapIs ekInt Value.bool ((((w3.alloc (.map #[] 0)).alloc (.map #[] 0)).alloc (.map #[] 0)).alloc (.map #[] 0)) (w3.alloc (.map #[] 0)).heap.size []) := Lib.hid (((MapIs.new (w3.alloc (.map #[] 0))).kept_new ((Chg.refl _ _).alloc _)).kept_new ((Chg.refl _ _).alloc _))
    have HM3 : Hid (MapIs ekCell ekInt ((((w3.alloc (.map #[] 0)).alloc (.map #[] 0)).alloc (.map #[] 0)).alloc (.map #[] 0)) ((w3.alloc (.map #[] 0)).alloc (.map #[] 0)).heap.size []) := Lib.hid ((MapIs.new ((w3.alloc (.map #[] 0)).alloc (.map #[] 0))).kept_new ((Chg.refl _ _).alloc _))
    have HM4 : Hid (MapIs ekInt ekInt ((((w3.alloc (.map #[] 0)).alloc (.map #[] 0)).alloc (.map #[] 0)).alloc (.map #[] 0)) (((w3.alloc (.map #[] 0)).alloc (.map #[] 0)).alloc (.map #[] 0)).heap.size []) := Lib.hid (MapIs.new (((w3.alloc (.map #[] 0)).alloc (.map #[] 0)).alloc (.map #[] 0)))
    have HNM : Hid (New w3 ((((w3.alloc (.map #[] 0)).alloc (.map #[] 0)).alloc (.map #[] 0)).alloc (.map #[] 0))) := Lib.hid (((((Chg.refl _ w3).alloc _).alloc _).alloc _).alloc _)
    clear hI3 hN1 hN2 hN3 hO1 hO2 hO3 hA2 hA3 hb1 hg1 hg2 hll hcc HM hG hGl hst hsr
    have e2 : (w3.alloc (.map #[] 0)).heap.size = w3.heap.size + 1 := World.size_alloc _ _
    have e3 : ((w3.alloc (.map #[] 0)).alloc (.map #[] 0)).heap.size = w3.heap.size + 1 + 1 := by rw [World.size_alloc, World.size_alloc]
    have e4 : (((w3.alloc (.map #[] 0)).alloc (.map #[] 0)).alloc (.map #[] 0)).heap.size = w3.heap.size + 1 + 1 + 1 := by rw [World.size_alloc, World.size_alloc, World.size_alloc]
    rw [e2] at HM2; rw [e3] at HM3; rw [e4] at HM4
    clear e2 e3 e4 hS3
    generalize (((w3.alloc _).alloc _).alloc _).alloc _ = wm at *
    generalize hmi : w3.heap.size = mi at *
    generalize hmw : mi + 1 = mw at *
    generalize hmt : mw + 1 = mt at *
    generalize hmc : mt + 1 = mc at *
    go_loopw [12, 55] (fun v12 v wr => ∃ (i d : Nat) (I : List (Int × Int)) (W : List (Int × Bool)) (C : List (Int × Int)), i ≤ ops.length ∧ d ≤ i ∧ v = .int .i64 i ∧ v12 = .int .i64 d ∧ New w3 wr ∧ MapIs ekInt ekInt wr mi I ∧ MapIs ekInt Value.bool wr mw W ∧ MapIs ekCell ekInt wr mt [] ∧ MapIs ekInt ekInt wr mc C ∧ LInv (at_ ops i) I W C d) (fun _ v _ => ops.length - (intOf v).toNat)
    case atStart => exact ⟨0, 0, [], [], [], by omega, by omega, rfl, rfl, HNM.out, HM1.out, HM2.out, HM3.out, HM4.out, LInv.zero⟩
    case round =>
     obtain ⟨i, d, I, W, C, hi, hdi, rfl, rfl, hN, hMI, hMW, hMT, hMC, hLI⟩ := hrel
     clear HM1 HM2 HM3 HM4 HNM hm53 hm54 hm55
     by_cases hlt : i < ops.length
     · obtain ⟨o, ho⟩ : ∃ o, ops[i]? = some o := ⟨_, List.getElem?_eq_getElem hlt⟩
       obtain ⟨⟨xe, xn⟩, hx⟩ : ∃ x, (ans ops)[i]? = some x := ⟨_, List.getElem?_eq_getElem (by rw [HLL.out]; omega)⟩
       have hne : ops ≠ [] := fun e => by rw [e] at hlt; simp at hlt
       obtain rfl := HOO.out.ptr hne
       obtain rfl := HAO.out.ptr (fun e => by rw [e] at hx; simp at hx)
       have hOw := HOO.out.kept hN (fun x => x)
       have x0 : wr.cell? ⟨g1, i * 4, none⟩ = some (.int .i64 o.d) := by have := hOw.cell i o ho 0 (by omega); rwa [Nat.zero_add] at this
       have x1 : wr.cell? ⟨g1, i * 4 + 1, none⟩ = some (.int .i64 o.t) := by have := hOw.cell i o ho 1 (by omega); rwa [Nat.zero_add] at this
       have x2 : wr.cell? ⟨g1, i * 4 + 2, none⟩ = some (.int .i64 o.k) := by have := hOw.cell i o ho 2 (by omega); rwa [Nat.zero_add] at this
       have x3 : wr.cell? ⟨g1, i * 4 + 3, none⟩ = some (.int .i64 o.n) := by have := hOw.cell i o ho 3 (by omega); rwa [Nat.zero_add] at this
       have b3 : (0 : Int) ≤ (i : Int) := by omega
       have b4 : (i : Int) < (ops.length : Int) := by omega
       obtain ⟨a0, a1⟩ := ((HAO.out.kept hN).kept ((Chg.refl _ wr).alloc (.cells #[.int .i64 o.d, .int .i64 o.t, .int .i64 o.k, .int .i64 o.n] 47))).cell i _ hx
       rw [Nat.zero_add] at a0 a1
       dsimp only at a0 a1
       have HN := Lib.hid (hN.alloc (.cells #[.int .i64 o.d, .int .i64 o.t, .int .i64 o.k, .int .i64 o.n] 47))
       have HOI := Lib.hid ho; have HXI := Lib.hid hx
       have hnb : (wr.alloc (.cells #[.int .i64 o.d, .int .i64 o.t, .int .i64 o.k, .int .i64 o.n] 47)).heap[wr.heap.size]? = some (.cells #[.int .i64 o.d, .int .i64 o.t, .int .i64 o.k, .int .i64 o.n] 47) := heap_alloc_new wr _
       have HMI := Lib.hid (hMI.kept_new ((Chg.refl _ wr).alloc (.cells #[.int .i64 o.d, .int .i64 o.t, .int .i64 o.k, .int .i64 o.n] 47))); have HMW := Lib.hid (hMW.kept_new ((Chg.refl _ wr).alloc (.cells #[.int .i64 o.d, .int .i64 o.t, .int .i64 o.k, .int .i64 o.n] 47))); have HMT := Lib.hid (hMT.kept_new ((Chg.refl _ wr).alloc (.cells #[.int .i64 o.d, .int .i64 o.t, .int .i64 o.k, .int .i64 o.n] 47))); have HMC := Lib.hid (hMC.kept_new ((Chg.refl _ wr).alloc (.cells #[.int .i64 o.d, .int .i64 o.t, .int .i64 o.k, .int .i64 o.n] 47)))
       have HLI := Lib.hid hLI
       clear hOw hne ho hx hN hMI hMW hMT hMC hLI
       go_upto_region 14 with fail
       generalize wr.alloc _ = w4 at *
       generalize wr.heap.size = nb at *
       have m0 : w4.cell? ⟨nb, 0, none⟩ = some (.int .i64 o.d) := by simp [World.cell?, hnb]
       have m1 : w4.cell? ⟨nb, 1, none⟩ = some (.int .i64 o.t) := by simp [World.cell?, hnb]
       have m2 : w4.cell? ⟨nb, 2, none⟩ = some (.int .i64 o.k) := by simp [World.cell?, hnb]
       have hnbl : nb < w4.heap.size := (Array.getElem?_eq_some_iff.1 hnb).1
       have hg2l : g2 < w4.heap.size := World.block_lt_of_cell? w4 _ a0
       clear x0 x1 x2 x3 hnb
       have HT : Hid (∀ {W' : World} {m : Nat}, mi ≤ m → New w3 w4 → Chg (fun b => b = m) w4 W' → New w3 W') := Lib.hid (fun hm h1 h2 => h1.then h2 (fun k hk e => by omega))
       by_cases he : xe = 0
       · subst he
         by_cases hd0 : o.d = 0
         · have HL := Lib.hid (loses_begin HLI.out HOI.out HXI.out (.inl rfl) hd0)
           go_upto_region 16 with fail
           go_still_tail 8, (by kernel_rfl)
           change wpList _ _ _ _ _ w4.drew
           refine wpList_mapUpd _ rfl _ _ _ 54 rfl key_int Try.underlying54 mi I o.t xn rfl rfl rfl (HMI.out.kept_new ((Chg.refl _ w4).drew)) ?_
           intro w5 hM5 hC5
           have hC : Chg (fun b => b = mi) w4 w5 := ((Chg.refl _ w4).drew).trans hC5
           have HC := Lib.hid hC; have HM5 := Lib.hid hM5
           clear hC hM5 hC5
           go_wp2_with fail
           refine ⟨⟨i + 1, d, _, _, _, by omega, by omega, by go_num, rfl, HT.out (Nat.le_refl _) HN.out HC.out, HM5.out, HMW.out.kept_other HC.out (by omega), HMT.out.kept_other HC.out (by omega), HMC.out.kept_other HC.out (by omega), HL.out⟩, by simp [intOf]; omega⟩
         · by_cases hd3 : o.d = 3
           · have HL := Lib.hid (loses_wrote HLI.out HOI.out HXI.out (.inl rfl) (.inl hd3))
             go_wp2_with (refine wpList_mapUpd _ rfl _ _ _ 53 rfl key_int Try.underlying53 mw W o.t true rfl rfl rfl HMW.out ?_; intro w5 hM5 hC5; have HC := Lib.hid hC5; have HM5 := Lib.hid hM5; clear hM5 hC5)
             refine ⟨⟨i + 1, d, _, _, _, by omega, by omega, by go_num, rfl, HT.out (by omega) HN.out HC.out, HMI.out.kept_other HC.out (by omega), HM5.out, HMT.out.kept_other HC.out (by omega), HMC.out.kept_other HC.out (by omega), HL.out⟩, by simp [intOf]; omega⟩
           · have y3 : (o.d == 3) = false := by simp [hd3]
             by_cases hd2 : o.d = 2
             · have y2 : (o.d == 2) = true := by simp [hd2]
               have HL := Lib.hid (loses_wrote HLI.out HOI.out HXI.out (.inl rfl) (.inr hd2))
               go_wp2_with (refine wpList_mapUpd _ rfl _ _ _ 53 rfl key_int Try.underlying53 mw W o.t true rfl rfl rfl HMW.out ?_; intro w5 hM5 hC5; have HC := Lib.hid hC5; have HM5 := Lib.hid hM5; clear hM5 hC5)
               refine ⟨⟨i + 1, d, _, _, _, by omega, by omega, by go_num, rfl, HT.out (by omega) HN.out HC.out, HMI.out.kept_other HC.out (by omega), HM5.out, HMT.out.kept_other HC.out (by omega), HMC.out.kept_other HC.out (by omega), HL.out⟩, by simp [intOf]; omega⟩
             · by_cases hd4 : o.d = 4
               · have HL := Lib.hid (loses_commit HLI.out HOI.out HXI.out rfl hd4)
                 go_upto_region 20 with fail
                 go_still_tail 8, (by kernel_rfl)
                 change wpList _ _ _ _ _ w4.drew
                 refine wpList_mapUpd _ rfl _ _ _ 54 rfl key_int Try.underlying54 mc C o.t xn rfl rfl rfl (HMC.out.kept_new ((Chg.refl _ w4).drew)) ?_
                 intro w5 hM5 hC5
                 have hC : Chg (fun b => b = mc) w4 w5 := ((Chg.refl _ w4).drew).trans hC5
                 have HC := Lib.hid hC; have HM5 := Lib.hid hM5
                 clear hC hM5 hC5
                 go_wp2_with fail
                 refine ⟨⟨i + 1, d + 1, _, _, _, by omega, by omega, by go_num, by go_num, HT.out (by omega) HN.out HC.out, HMI.out.kept_other HC.out (by omega), HMW.out.kept_other HC.out (by omega), HMT.out.kept_other HC.out (by omega), HM5.out, HL.out⟩, by simp [intOf]; omega⟩
               · have y2 : (o.d == 2) = false := by simp [hd2]
                 have y4 : (o.d == 4) = false := by simp [hd4]
                 have HL := Lib.hid (loses_other HLI.out HOI.out HXI.out ⟨hd0, hd2, hd3, hd4⟩)
                 go_wp2_with fail
                 refine ⟨⟨i + 1, d, _, _, _, by omega, by omega, by go_num, rfl, HN.out, HMI.out, HMW.out, HMT.out, HMC.out, HL.out⟩, by simp [intOf]; omega⟩
       · by_cases he10 : xe = 10
         · have hd4 := ans_ten HOI.out HXI.out he10
           obtain ⟨hw4, hl4⟩ := loses_clash HLI.out HOI.out HXI.out (.inr he10) he hd4
           have HL := Lib.hid hl4
           have hlk := run_lookup_map (ev := Value.bool) key_int Try.underlying53 HMW.out (zero4 _) o.t false
           rw [hw4] at hlk
           simp only [Bool.false_eq_true, if_false, Option.map_some, Option.getD_some, ekInt] at hlk
           clear hw4 hl4
           subst he10
           go_wp2_with fail
           refine ⟨⟨i + 1, d, _, _, _, by omega, by omega, by go_num, rfl, HN.out, HMI.out, HMW.out, HMT.out, HMC.out, HL.out⟩, by simp [intOf]; omega⟩
         · have z0 : (xe != 0) = true := by simp [he]
           have z1 : (xe != 10) = true := by simp [he10]
           have HL := Lib.hid (loses_skip HLI.out HOI.out HXI.out ⟨he, he10⟩)
           go_wp2_with fail
           refine ⟨⟨i + 1, d, _, _, _, by omega, by omega, by go_num, rfl, HN.out, HMI.out, HMW.out, HMT.out, HMC.out, HL.out⟩, by simp [intOf]; omega⟩
     · obtain rfl : i = ops.length := by omega
       rw [HAL.out] at hLI
       have HLI := Lib.hid hLI; have HN1 := Lib.hid hN
       clear hLI hlt hi hN
       go_wp2_with fail
       go_loopw [134] (fun v wr => ∃ (i : Nat) (K : List ((Int × Int) × Int)), i ≤ ops.length ∧ v = .int .i64 i ∧ New w3 wr ∧ MapIs ekInt ekInt wr mi I ∧ MapIs ekCell ekInt wr mt K ∧ MapIs ekInt ekInt wr mc C ∧ Taken st K) (fun v _ => ops.length - (intOf v).toNat)
       case atStart => exact ⟨0, [], by omega, rfl, HN1.out, hMI, hMT, hMC, Taken.nil _⟩
       case round =>
        obtain ⟨i, K, hi, rfl, hN, hMI', hMT', hMC', hTK⟩ := hrel
        clear hMI hMW hMT hMC HN1
        by_cases hlt : i < ops.length
        · obtain ⟨o, ho⟩ : ∃ o, ops[i]? = some o := ⟨_, List.getElem?_eq_getElem hlt⟩
          obtain ⟨⟨xe, xn⟩, hx⟩ : ∃ x, (ans ops)[i]? = some x := ⟨_, List.getElem?_eq_getElem (by rw [HLL.out]; omega)⟩
          have hne : ops ≠ [] := fun e => by rw [e] at hlt; simp at hlt
          obtain rfl := HOO.out.ptr hne
          obtain rfl := HAO.out.ptr (fun e => by rw [e] at hx; simp at hx)
          have hOw := HOO.out.kept hN (fun x => x)
          have x0 : wr.cell? ⟨g1, i * 4, none⟩ = some (.int .i64 o.d) := by have := hOw.cell i o ho 0 (by omega); rwa [Nat.zero_add] at this
          have x1 : wr.cell? ⟨g1, i * 4 + 1, none⟩ = some (.int .i64 o.t) := by have := hOw.cell i o ho 1 (by omega); rwa [Nat.zero_add] at this
          have x2 : wr.cell? ⟨g1, i * 4 + 2, none⟩ = some (.int .i64 o.k) := by have := hOw.cell i o ho 2 (by omega); rwa [Nat.zero_add] at this
          have x3 : wr.cell? ⟨g1, i * 4 + 3, none⟩ = some (.int .i64 o.n) := by have := hOw.cell i o ho 3 (by omega); rwa [Nat.zero_add] at this
          have b3 : (0 : Int) ≤ (i : Int) := by omega
          have b4 : (i : Int) < (ops.length : Int) := by omega
          obtain ⟨a0, a1⟩ := ((HAO.out.kept hN).kept ((Chg.refl _ wr).alloc (.cells #[.int .i64 o.d, .int .i64 o.t, .int .i64 o.k, .int .i64 o.n] 47))).cell i _ hx
          rw [Nat.zero_add] at a0 a1
          dsimp only at a0 a1
          have HN := Lib.hid (hN.alloc (.cells #[.int .i64 o.d, .int .i64 o.t, .int .i64 o.k, .int .i64 o.n] 47))
          have HOI := Lib.hid ho; have HXI := Lib.hid hx
          have hnb : (wr.alloc (.cells #[.int .i64 o.d, .int .i64 o.t, .int .i64 o.k, .int .i64 o.n] 47)).heap[wr.heap.size]? = some (.cells #[.int .i64 o.d, .int .i64 o.t, .int .i64 o.k, .int .i64 o.n] 47) := heap_alloc_new wr _
          have HMI := Lib.hid (hMI'.kept_new ((Chg.refl _ wr).alloc (.cells #[.int .i64 o.d, .int .i64 o.t, .int .i64 o.k, .int .i64 o.n] 47))); have HMT := Lib.hid (hMT'.kept_new ((Chg.refl _ wr).alloc (.cells #[.int .i64 o.d, .int .i64 o.t, .int .i64 o.k, .int .i64 o.n] 47))); have HMC := Lib.hid (hMC'.kept_new ((Chg.refl _ wr).alloc (.cells #[.int .i64 o.d, .int .i64 o.t, .int .i64 o.k, .int .i64 o.n] 47)))
          have HTK := Lib.hid hTK
          clear hOw hne ho hx hN hMI' hMT' hMC' hTK
          go_upto_region 28 with fail
          generalize wr.alloc _ = w4 at *
          generalize wr.heap.size = nb at *
          have m0 : w4.cell? ⟨nb, 0, none⟩ = some (.int .i64 o.d) := by simp [World.cell?, hnb]
          have m1 : w4.cell? ⟨nb, 1, none⟩ = some (.int .i64 o.t) := by simp [World.cell?, hnb]
          have m2 : w4.cell? ⟨nb, 2, none⟩ = some (.int .i64 o.k) := by simp [World.cell?, hnb]
          have hnbl : nb < w4.heap.size := (Array.getElem?_eq_some_iff.1 hnb).1
          have hg2l : g2 < w4.heap.size := World.block_lt_of_cell? w4 _ a0
          clear x0 x1 x2 x3 hnb
          obtain ⟨n, B, hlk, hBn⟩ : ∃ (n : Int) (B : Bool), (Instr.lookup 54 (.map (some mc)) (.int .i64 o.t) true).run Try.prog w4 = .ok (.tuple #[.int .i64 n, .bool B]) w4 ∧ (B = true → mget o.t C = some n) := by
            have h1 := run_lookup_map (ev := ekInt) key_int Try.underlying54 HMC.out (zero3 _) o.t true
            cases hm : mget o.t C with
            | none => rw [hm] at h1; exact ⟨0, false, h1, fun h => by cases h⟩
            | some n => rw [hm] at h1; exact ⟨n, true, h1, fun _ => rfl⟩
          have HBN := Lib.hid hBn
          clear hBn
          by_cases hd3 : o.d = 3
          · have z3 : (o.d != 3) = false := by simp [hd3]
            by_cases he : xe = 0
            · subst he
              cases B
              · go_upto_region 29 with fail
                go_quiet (fail)
                go_wp2_with fail
                refine ⟨⟨i + 1, K, by omega, by go_num, HN.out.drewN _, HMI.out.kept_new ((Chg.refl _ w4).drewN _), HMT.out.kept_new ((Chg.refl _ w4).drewN _), HMC.out.kept_new ((Chg.refl _ w4).drewN _), HTK.out⟩, by simp [intOf]; omega⟩
              · by_cases hn0 : n = 0
                · subst hn0
                  go_upto_region 29 with fail
                  go_quiet (fail)
                  go_wp2_with fail
                  refine ⟨⟨i + 1, K, by omega, by go_num, HN.out.drewN _, HMI.out.kept_new ((Chg.refl _ w4).drewN _), HMT.out.kept_new ((Chg.refl _ w4).drewN _), HMC.out.kept_new ((Chg.refl _ w4).drewN _), HTK.out⟩, by simp [intOf]; omega⟩
                · have zn : (n == 0) = false := by simp [hn0]
                  have hlt' : (ops.take i).length = i := by rw [List.length_take]; omega
                  obtain ⟨B2, hB2⟩ : ∃ B2, wroteB o.t o.k ((ops.take i).zip (ans ops)) = B2 := ⟨_, rfl⟩
                  have HWR : Hid (∀ Wd, New w4 Wd → Calls Try.prog 29 #[.slice (some ⟨g1, 0, none⟩) i c1, .slice (some ⟨g2, 0, none⟩) ops.length c2, .int .i64 o.t, .int .i64 o.k] Wd fun e w' => e = .returned (.bool B2) ∧ New Wd w') := fun Wd hWd => by
                    have h1 := written_any (some ⟨g1, 0, none⟩) (some ⟨g2, 0, none⟩) g1 g2 0 0 c1 c2 ops.length (ops.take i) (ans ops) o.t o.k ((HOO.out.kept (HN.out.trans hWd) (fun x => x)).take i) (HAO.out.kept (HN.out.trans hWd)) HLL.out (by omega) (by omega) hlo2
                    rw [hlt', hB2] at h1
                    exact h1
                  have HB2 := Lib.hid hB2
                  have hic : (i : Int) ≤ (c1 : Int) := by omega
                  clear hlt' hB2
                  go_upto_region 29 with fail
                  refine wp_region_still_tail 28 (by kernel_rfl) (by kernel_rfl) ?_
                  simp only [List.take_succ_cons, List.take_zero, List.drop_succ_cons, List.drop_zero]
                  change wpStill _ _ w4.drew (fun a' => wpList _ _ _ _ a' w4.drew) _ _
                  repeat still_step
                  refine wpStill_nil ?_
                  cases B2
                  · go_upto_region 30 with ((with_reducible refine (HWR.out _ ((Chg.refl _ w4).drew)).mono ?_); rintro e w5 ⟨rfl, hN5⟩; have hN45 : New w4 w5 := (Chg.refl _ w4).drew.trans hN5; have HN45 := Lib.hid hN45; clear hN45 hN5)
                    have n1 : w5.cell? ⟨nb, 1, none⟩ = some (.int .i64 o.t) := (HN45.out.cell (a := ⟨nb, 1, none⟩) hnbl (fun x => x)).trans m1
                    have n2 : w5.cell? ⟨nb, 2, none⟩ = some (.int .i64 o.k) := (HN45.out.cell (a := ⟨nb, 2, none⟩) hnbl (fun x => x)).trans m2
                    have hnb5 : nb < w5.heap.size := Nat.lt_of_lt_of_le hnbl HN45.out.size
                    obtain ⟨q, hq, hkq, hTK2⟩ := HLT.out I W C d K i o _ n HLI.out HTK.out HOI.out HXI.out hd3 rfl (HBN.out (by first | rfl | trivial)) hn0 (wroteB_at HB2.out)
                    have HM5I := Lib.hid (HMI.out.kept_new HN45.out); have HM5T := Lib.hid (HMT.out.kept_new HN45.out); have HM5C := Lib.hid (HMC.out.kept_new HN45.out)
                    have HN5 := Lib.hid (HN.out.trans HN45.out)
                    have hlI : (Instr.lookup 54 (.map (some mi)) (.int .i64 o.t) false).run Try.prog w5 = .ok (.int .i64 q) w5 := by
                      have h1 := run_lookup_map (ev := ekInt) key_int Try.underlying54 HM5I.out (zero3 _) o.t false
                      rw [hq] at h1
                      exact h1
                    have HKQ := Lib.hid hkq; have HTK2 := Lib.hid hTK2
                    clear hkq hTK2 hq hlk m0 m1 m2 a0 a1 hnbl hg2l HMI HMT HMC HN HN45 HWR
                    have hnc : (w5.alloc (.cells #[.int .i64 q, .int .i64 o.k] 58)).heap[w5.heap.size]? = some (.cells #[.int .i64 q, .int .i64 o.k] 58) := heap_alloc_new w5 _
                    have n1' : (w5.alloc (.cells #[.int .i64 q, .int .i64 o.k] 58)).cell? ⟨nb, 1, none⟩ = some (.int .i64 o.t) := (World.cell?_alloc_lt _ _ _ hnb5).trans n1
                    have HM6I := Lib.hid (HM5I.out.kept_new ((Chg.refl _ w5).alloc (.cells #[.int .i64 q, .int .i64 o.k] 58))); have HM6T := Lib.hid (HM5T.out.kept_new ((Chg.refl _ w5).alloc (.cells #[.int .i64 q, .int .i64 o.k] 58))); have HM6C := Lib.hid (HM5C.out.kept_new ((Chg.refl _ w5).alloc (.cells #[.int .i64 q, .int .i64 o.k] 58)))
                    have HN6 := Lib.hid (HN5.out.alloc (.cells #[.int .i64 q, .int .i64 o.k] 58))
                    go_upto_region 31 with fail
                    clear HM5I HM5T HM5C HN5 n1 n2 hlI hnb5
                    generalize w5.alloc _ = w6 at *
                    generalize w5.heap.size = nc at *
                    have e0 : w6.cell? ⟨nc, 0, none⟩ = some (.int .i64 q) := by simp [World.cell?, hnc]
                    have e1 : w6.cell? ⟨nc, 1, none⟩ = some (.int .i64 o.k) := by simp [World.cell?, hnc]
                    obtain ⟨tt, B3, hlT, hB3⟩ : ∃ (tt : Int) (B3 : Bool), (Instr.lookup 55 (.map (some mt)) (.agg #[.int .i64 q, .int .i64 o.k]) true).run Try.prog w6 = .ok (.tuple #[.int .i64 tt, .bool B3]) w6 ∧ (B3 = true → tt = o.t) := by
                      have h1 := run_lookup_map (ev := ekInt) key_pair Try.underlying55 HM6T.out (zero3 _) (q, o.k) true
                      cases hm : mget (q, o.k) K with
                      | none => rw [hm] at h1; exact ⟨0, false, h1, fun h => by cases h⟩
                      | some t => rw [hm] at h1; exact ⟨t, true, h1, fun _ => HKQ.out t hm⟩
                    clear hnc
                    cases B3
                    · go_wp2_with (refine wpList_mapUpd _ rfl _ _ _ 55 rfl key_pair Try.underlying55 mt K (q, o.k) o.t rfl rfl rfl HM6T.out ?_; intro w7 hM7 hC7; have HC := Lib.hid hC7; have HM7 := Lib.hid hM7; clear hM7 hC7)
                      refine ⟨⟨i + 1, _, by omega, by go_num, HN6.out.then HC.out (fun k hk e => by omega), HM6I.out.kept_other HC.out (by omega), HM7.out, HM6C.out.kept_other HC.out (by omega), HTK2.out⟩, by simp [intOf]; omega⟩
                    · obtain rfl := hB3 rfl
                      go_wp2_with (refine wpList_mapUpd _ rfl _ _ _ 55 rfl key_pair Try.underlying55 mt K (q, o.k) o.t rfl rfl rfl HM6T.out ?_; intro w7 hM7 hC7; have HC := Lib.hid hC7; have HM7 := Lib.hid hM7; clear hM7 hC7)
                      refine ⟨⟨i + 1, _, by omega, by go_num, HN6.out.then HC.out (fun k hk e => by omega), HM6I.out.kept_other HC.out (by omega), HM7.out, HM6C.out.kept_other HC.out (by omega), HTK2.out⟩, by simp [intOf]; omega⟩
                  · go_wp2_with ((with_reducible refine (HWR.out _ ((Chg.refl _ w4).drew)).mono ?_); rintro e w5 ⟨rfl, hN5⟩; have hN45 : New w4 w5 := (Chg.refl _ w4).drew.trans hN5; have HN45 := Lib.hid hN45; clear hN45 hN5)
                    refine ⟨⟨i + 1, K, by omega, by go_num, HN.out.trans HN45.out, HMI.out.kept_new HN45.out, HMT.out.kept_new HN45.out, HMC.out.kept_new HN45.out, HTK.out⟩, by simp [intOf]; omega⟩
            · have ze : (xe != 0) = true := by simp [he]
              go_upto_region 29 with fail
              go_quiet (fail)
              go_wp2_with fail
              refine ⟨⟨i + 1, K, by omega, by go_num, HN.out.drewN _, HMI.out.kept_new ((Chg.refl _ w4).drewN _), HMT.out.kept_new ((Chg.refl _ w4).drewN _), HMC.out.kept_new ((Chg.refl _ w4).drewN _), HTK.out⟩, by simp [intOf]; omega⟩
          · have z3 : (o.d != 3) = true := by simp [hd3]
            go_upto_region 29 with fail
            go_quiet (fail)
            go_wp2_with fail
            refine ⟨⟨i + 1, K, by omega, by go_num, HN.out.drewN _, HMI.out.kept_new ((Chg.refl _ w4).drewN _), HMT.out.kept_new ((Chg.refl _ w4).drewN _), HMC.out.kept_new ((Chg.refl _ w4).drewN _), HTK.out⟩, by simp [intOf]; omega⟩
        · obtain rfl : i = ops.length := by omega
          obtain ⟨L0, hL0⟩ : ∃ L0 : Int, L0 = 0 := ⟨_, rfl⟩
          have hOK : Tx.okOrder C 0 (sr.drop 0) := by
            have h1 := okOrder_all HLI.out.core HNE.out HGL.out
            rw [HSR.out] at h1
            exact h1
          have hlen : sr.length = d := by rw [← HSR.out]; exact length_order HLI.out.core HSO.out
          have HOK := Lib.hid hOK
          have HN1 := Lib.hid hN; have HMC1 := Lib.hid hMC'
          clear hN hMI' hMT' hMC' hTK hOK HLI HLT HSR HSO HNE HGL hlt hi
          rw [← hlen]
          have HDL := Lib.hid hdi
          clear hlen hdi hL0
          go_wp2_with fail
          go_loopw [22, 203] (fun v22 v wr => ∃ (j : Nat) (L : Int), j ≤ sr.length ∧ v = .int .i64 j ∧ v22 = .int .i64 L ∧ 0 ≤ L ∧ L ≤ 1000 ∧ Tx.okOrder C L (sr.drop j) ∧ New w3 wr ∧ MapIs ekInt ekInt wr mc C) (fun _ v _ => sr.length - (intOf v).toNat)
          case atStart => exact ⟨0, 0, by omega, rfl, rfl, by omega, by omega, HOK.out, HN1.out, HMC1.out⟩
          case round =>
           obtain ⟨j, L, hj, rfl, rfl, hL0, hL1, hok, hN, hMC2⟩ := hrel
           clear HOK HN1 HMC1
           by_cases hlt : j < sr.length
           · obtain ⟨t, ht⟩ : ∃ t, sr[j]? = some t := ⟨_, List.getElem?_eq_getElem hlt⟩
             obtain rfl := HIO.out.ptr (fun e => by rw [e] at hlt; simp at hlt)
             have hI5 := HIO.out.kept hN
             have x0 : wr.cell? ⟨g3, j, none⟩ = some (.int .i64 t) := by have := hI5.cell j t ht; rwa [Nat.zero_add] at this
             have b3 : (0 : Int) ≤ (j : Int) := by omega
             have b4 : (j : Int) < (sr.length : Int) := by omega
             rw [List.drop_eq_getElem_cons hlt, (List.getElem?_eq_some_iff.1 ht).2] at hok
             obtain ⟨n, hn, hn0, hn1, hnL, hrest⟩ := hok
             have hlk : (Instr.lookup 54 (.map (some mc)) (.int .i64 t) true).run Try.prog wr = .ok (.tuple #[.int .i64 n, .bool true]) wr := by
               have h1 := run_lookup_map (ev := ekInt) key_int Try.underlying54 hMC2 (zero3 _) t true
               rw [hn] at h1
               exact h1
             have HREST := Lib.hid hrest; have HN2 := Lib.hid hN; have HMC2 := Lib.hid hMC2
             clear hrest hN hMC2 hI5 hn ht
             by_cases hnz : n = 0
             · subst hnz
               go_wp2_with fail
               exact ⟨⟨j + 1, L, by omega, by go_num, rfl, hL0, hL1, by have h := HREST.out; rw [show max L 0 = L by omega] at h; exact h, HN2.out, HMC2.out⟩, by simp [intOf]; omega⟩
             · have hnL' : L < n := by omega
               have hnp : 0 < n := by omega
               have hnL2 : ¬ n ≤ L := by omega
               go_wp2_with fail
               exact ⟨⟨j + 1, n, by omega, by go_num, rfl, hn0, hn1, by have h := HREST.out; rw [show max L n = n by omega] at h; exact h, HN2.out, HMC2.out⟩, by simp [intOf]; omega⟩
           · obtain rfl : j = sr.length := by omega
             have HN2 := Lib.hid hN
             clear hok hN hMC2
             go_wp2_with ((with_reducible refine (awake_any _).mono ?_); rintro e w9 ⟨rfl, hN9⟩)
             go_ret
             exact ⟨rfl, (HN0.out.trans HN2.out).trans hN9⟩
end
end Go.Proofs.Yteaeflmglppcdaa
