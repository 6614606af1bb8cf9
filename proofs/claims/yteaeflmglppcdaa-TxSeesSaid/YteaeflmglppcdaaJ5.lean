/- The walk of TxSees. -/
import Derived.Test.YteaeflmglppcdaaJ4
import Derived.StillTailTactics
namespace Go.Proofs.Yteaeflmglppcdaa
open Go.RowKit Tx

theorem sees_lookup {w : World} {m : Nat} {M : List (Int × (Nat × Nat))} {f : Int → Option (List Int)} (h : SeesAt w m M f) {t : Int} {g c : Nat} (hm : mget t M = some (g, c)) :
    (Instr.lookup 51 (.map (some m)) (.int .i64 t) false).run Try.prog w = .ok (.slice (some ⟨g, 0, none⟩) 16 c) w := by
  have h1 := run_lookup_map (ev := evS) key_int Try.underlying51 h.map (zero28 w) t false
  rw [hm] at h1
  exact h1
section
variable {w : World}
set_option maxRecDepth 100000 in
set_option maxHeartbeats 4000000 in
theorem sees_walk (a : Option Addr) (b off c : Nat) (xs : List Int) (hU : U32At w a b off xs) (hc : xs.length ≤ c) (hc3 : c ≤ maxLen) :
    Calls Try.prog 5 #[.slice a xs.length c] w fun e w' => e = .returned (.bool true) ∧ New w w' := by
  by_cases hbig : 200 < xs.length
  · have hb2 : ¬ (xs.length : Int) ≤ 200 := by omega
    clear hU
    go_enter Try.func5, Try.ntmps5
    go_wp2_with ((with_reducible refine (awake_any _).mono ?_); rintro e w9 ⟨rfl, hN9⟩)
    go_ret
    exact ⟨rfl, hN9⟩
  · have hl : xs.length ≤ 200 := by omega
    have hl2 : (xs.length : Int) ≤ 200 := by omega
    have HM := Lib.hid (made_any a b off c xs hU hl hc hc3)
    have hmk := make_map51
    clear hU
    go_enter Try.func5, Try.ntmps5
    go_wp2_with (first
      | ((with_reducible refine HM.out.mono ?_); rintro e w1 ⟨ops, v1, rfl, hN1, hlo, hr1, hg1⟩; obtain ⟨a1, g1, c1, rfl, hO1, hb1⟩ := row_len_ops hr1; have hlo2 : ops.length ≤ 200 := (by omega); have hlo3 : (ops.length : Int) ≤ 200 := (by omega); have HA := Lib.hid (answered_any a1 g1 0 c1 ops hO1 hb1 hlo2); clear hr1 hlo)
      | ((with_reducible refine HA.out.mono ?_); rintro e w2 ⟨v2, rfl, hN2, hr2, hg2⟩; obtain ⟨a2, g2, c2, rfl, hA2⟩ := row_len_ans hr2 (length_run ops St.zero); clear hr2))
    have hNm : New w2 (w2.alloc (.map #[] 0)) := (Chg.refl _ w2).alloc _
    have HO := Lib.hid ((hO1.kept hN2 (fun x => x)).kept hNm (fun x => x)); have HAA := Lib.hid (hA2.kept hNm)
    change Hid (AnsAt (w2.alloc (.map #[] 0)) a2 g2 0 (ans ops)) at HAA
    have HN2 := Lib.hid ((hN1.trans hN2).trans hNm)
    have hll : (ans ops).length = ops.length := length_run ops St.zero
    have HLL := Lib.hid hll
    have hS0 : SeesAt (w2.alloc (.map #[] 0)) w2.heap.size [] (fun _ => none) := ⟨MapIs.new w2, fun t g c h => (by cases h), fun _ _ => rfl, fun t t' g c c' h => (by cases h)⟩
    have hNw : w.heap.size ≤ w2.heap.size := (hN1.trans hN2).size
    have HN0 : Hid (New w w2) := hN1.trans hN2
    have HOO := Lib.hid (hO1.kept hN2 (fun x => x)); have HAO := Lib.hid hA2
    change Hid (AnsAt w2 a2 g2 0 (ans ops)) at HAO
    clear hO1 hA2 hb1 hN1 hN2 hg1 hg2 HM HA hNm hll HO HAA
    generalize hm : w2.heap.size = m at *
    go_loopw [27] (fun v wr => ∃ (i : Nat) (M : List (Int × (Nat × Nat))) (f : Int → Option (List Int)), i ≤ ops.length ∧ v = .int .i64 i ∧ New w2 wr ∧ SeesAt wr m M f ∧ Sees (at_ ops i) f) (fun v _ => ops.length - (intOf v).toNat)
    case atStart => exact ⟨0, [], fun _ => none, by omega, rfl, (Chg.refl _ w2).alloc _, hS0, Sees.zero⟩
    case round =>
      obtain ⟨i, M, f, hi, rfl, hN, hS, hse⟩ := hrel
      by_cases hlt : i < ops.length
      · obtain ⟨o, ho⟩ : ∃ o, ops[i]? = some o := ⟨_, List.getElem?_eq_getElem hlt⟩
        obtain ⟨⟨xe, xn⟩, hx⟩ : ∃ x, (ans ops)[i]? = some x := ⟨_, List.getElem?_eq_getElem (by rw [HLL.out]; omega)⟩
        have hne : ops ≠ [] := fun e => by rw [e] at hlt; simp at hlt
        obtain rfl := HOO.out.ptr hne
        obtain rfl := HAO.out.ptr (fun e => by rw [e] at hx; simp at hx)
        have hOw := HOO.out.kept hN (fun x => x)
        have x0 : wr.cell? ⟨g1, i * 4, none⟩ = some (.int .i64 o.d) := by have := hOw.cell i o ho 0 (by omega); rwa [Nat.zero_add] at this
        have x1 : wr.cell? ⟨g1, i * 4 + 1, none⟩ = some (.int .i64 o.t) := by have := hOw.cell i o ho 1 (by omega); rwa [Nat.zero_add] at this
        have x2 : wr.cell? ⟨g1, i * 4 + 2, none⟩ = some (.int .i64 o.k) := by have := hOw.cell i o ho 2 (by omega); rwa [Nat.zero_add] at this
        have x3 : wr.cell? ⟨g1, i * 4 + 3, none⟩ = some (.int .i64 o.n) := by have := hOw.cell i o ho 3 (by omega); rwa [Nat.zero_add] at this
        have b3 : (0 : Int) ≤ (i : Int) := by omega
        have b4 : (i : Int) < (ops.length : Int) := by omega
        obtain ⟨a0, a1⟩ := ((HAO.out.kept hN).kept ((Chg.refl _ wr).alloc (.cells #[.int .i64 o.d, .int .i64 o.t, .int .i64 o.k, .int .i64 o.n] 47))).cell i _ hx
        rw [Nat.zero_add] at a0 a1
        dsimp only at a0 a1
        have HN := Lib.hid (hN.alloc (.cells #[.int .i64 o.d, .int .i64 o.t, .int .i64 o.k, .int .i64 o.n] 47))
        have HS := Lib.hid (hS.kept ((Chg.refl (fun _ => False) wr).alloc (.cells #[.int .i64 o.d, .int .i64 o.t, .int .i64 o.k, .int .i64 o.n] 47)))
        have HSE := Lib.hid hse; have HOI := Lib.hid ho; have HXI := Lib.hid hx
        have hnb : (wr.alloc (.cells #[.int .i64 o.d, .int .i64 o.t, .int .i64 o.k, .int .i64 o.n] 47)).heap[wr.heap.size]? = some (.cells #[.int .i64 o.d, .int .i64 o.t, .int .i64 o.k, .int .i64 o.n] 47) := heap_alloc_new wr _
        have hgw : ∀ t g c, mget t M = some (g, c) → g < wr.heap.size := fun t g c h => by obtain ⟨ws, _, h2, _⟩ := hS.row t g c h; exact h2.lt
        have HGW := Lib.hid hgw
        have hgn : g2 < wr.heap.size := World.block_lt_of_cell? wr _ ((HAO.out.kept hN).cell i _ hx).1
        clear hN hS hse hOw hne hx ho hgw
        go_upto_region 11 with fail
        generalize wr.alloc _ = w3 at *
        generalize wr.heap.size = nb at *
        have m0 : w3.cell? ⟨nb, 0, none⟩ = some (.int .i64 o.d) := by simp [World.cell?, hnb]
        have m1 : w3.cell? ⟨nb, 1, none⟩ = some (.int .i64 o.t) := by simp [World.cell?, hnb]
        have m2 : w3.cell? ⟨nb, 2, none⟩ = some (.int .i64 o.k) := by simp [World.cell?, hnb]
        have m3 : w3.cell? ⟨nb, 3, none⟩ = some (.int .i64 o.n) := by simp [World.cell?, hnb]
        have hnbl : nb < w3.heap.size := (Array.getElem?_eq_some_iff.1 hnb).1
        clear x0 x1 x2 x3 hnb
        by_cases he : xe = 0
        · subst he
          by_cases hd0 : o.d = 0
          · obtain ⟨n, hxn, hnl, hse⟩ := sees_begin HSE.out HOI.out HXI.out rfl hd0
            dsimp only at hxn
            subst hxn
            have HSB := Lib.hid hse
            have HAT : Hid (∀ w', New w2 w' → Calls Try.prog 14 #[.slice (some ⟨g1, 0, none⟩) ops.length c1, .int .i64 n] w' fun e w'' => ∃ b c, e = .returned (.tuple #[.slice (some ⟨b, 0, none⟩) 16 c, .int .i64 0]) ∧ New w' w'' ∧ w'.heap.size ≤ b ∧ WordsAt w'' b (wordsI ((Tx.run St.zero ops).2.inst n))) :=
              fun w' hw => at_words (HOO.out.kept hw (fun x => x)) hlo2 n hnl
            clear hse
            go_wp2_with (first
              | ((with_reducible refine (HAT.out _ HN.out).mono ?_); rintro e w4 ⟨b4, c4, rfl, hN4, hb4, hW4⟩; have y1 : w4.cell? ⟨nb, 1, none⟩ = some (.int .i64 o.t) := (hN4.cell (a := ⟨nb, 1, none⟩) hnbl (fun x => x)).trans m1; have HS4 := Lib.hid (HS.out.kept hN4); have HW4 := Lib.hid hW4; have HN4 := Lib.hid hN4; clear hW4 hN4)
              | (refine wpList_mapUpd _ rfl _ _ _ 51 rfl key_int Try.underlying51 m M o.t (b4, c4) rfl rfl rfl HS4.out.map ?_; intro w5 hM5 hC5; have HM5 := Lib.hid hM5; have HC5 := Lib.hid hC5; clear hM5 hC5))
            refine ⟨⟨i + 1, _, _, by omega, by go_num, (HN.out.trans HN4.out).then HC5.out (fun k hk e => by omega), SeesAt.lay HS4.out HW4.out (by have := HS.out.map.lt; omega) (fun t' c' h => by have := HGW.out t' b4 c' h; omega) HM5.out HC5.out, HSB.out⟩, by simp [intOf]; omega⟩
          · by_cases hd2 : o.d = 2
            · obtain ⟨ws, hf, k0, k1, hse⟩ := sees_write HSE.out HOI.out HXI.out rfl hd2
              obtain ⟨g, cg, hmg, hw, hmlt⟩ := HS.out.get hf
              have hlk := sees_lookup HS.out hmg
              obtain ⟨y, hy⟩ : ∃ y, ws[o.k.toNat]? = some y := ⟨_, List.getElem?_eq_getElem (by rw [hw.len]; omega)⟩
              have cy := hw.cell _ _ hy
              have fy := hw.free o.k.toNat
              have HEND : Hid (SeesAt (w3.setCell ⟨g, o.k.toNat, none⟩ (.int .i64 o.n)) m M (updf f o.t (ws.set o.k.toNat o.n))) := HS.out.write hf hmg _ _
              have HSB := Lib.hid hse
              have k2 : o.k < 16 := by omega
              have HMT := Lib.hid hmlt
              clear hse hf hw hmg hy hmlt
              go_wp2_with fail
              refine ⟨⟨i + 1, _, _, by omega, by go_num, HN.out.setCell (fun h => by have h' : g < w2.heap.size := h; have := HMT.out; omega) _, HEND.out, HSB.out⟩, by simp [intOf]; omega⟩
            · by_cases hd1 : o.d = 1
              · obtain ⟨ws, hf, k0, k1, hget, hse⟩ := sees_read HSE.out HOI.out HXI.out rfl hd1
                obtain ⟨g, cg, hmg, hw, hmlt⟩ := HS.out.get hf
                have hlk := sees_lookup HS.out hmg
                have hlq : ∀ nq, (Instr.lookup 51 (.map (some m)) (.int .i64 o.t) false).run Try.prog (w3.drewN nq) = .ok (.slice (some ⟨g, 0, none⟩) 16 cg) (w3.drewN nq) := fun nq => sees_lookup (HS.out.kept ((Chg.refl _ w3).drewN nq)) hmg
                have cy := hw.cell _ _ hget
                dsimp only at cy
                have HSB := Lib.hid hse
                have k2 : o.k < 16 := by omega
                clear hse hf hw hmg hget hmlt
                go_upto_region 28 with fail
                go_quiet (fail)
                go_wp2_with fail
                refine ⟨⟨i + 1, _, _, by omega, by go_num, HN.out.drewN _, HS.out.kept ((Chg.refl _ w3).drewN _), HSB.out⟩, by simp [intOf]; omega⟩
              · by_cases hd3 : o.d = 3
                · obtain ⟨ws, y, hf, k0, k1, hget, hxn, hse⟩ := sees_add HSE.out HOI.out HXI.out rfl hd3
                  dsimp only at hxn
                  subst hxn
                  obtain ⟨g, cg, hmg, hw, hmlt⟩ := HS.out.get hf
                  have hlk := sees_lookup HS.out hmg
                  have hld : (Instr.lookup 51 (.map (some m)) (.int .i64 o.t) false).run Try.prog w3.drew = .ok (.slice (some ⟨g, 0, none⟩) 16 cg) w3.drew := sees_lookup (HS.out.kept ((Chg.refl _ w3).drew)) hmg
                  have cy := hw.cell _ _ hget
                  have fy := hw.free o.k.toNat
                  have HSB := Lib.hid hse
                  have k2 : o.k < 16 := by omega
                  have hgnb : g < nb := HGW.out _ _ _ hmg
                  have HEND : Hid (SeesAt (w3.setCell ⟨g, o.k.toNat, none⟩ (.int .i64 (w32 (y + o.n)))).drew m M (updf f o.t (ws.set o.k.toNat (w32 (y + o.n))))) := (HS.out.write hf hmg _ _).kept ((Chg.refl _ _).drew)
                  have HMT := Lib.hid hmlt; have HMG := Lib.hid hmg
                  have hkl : o.k.toNat < ws.length := by rw [hw.len]; omega
                  have HKL := Lib.hid hkl
                  have ha2 : g2 ≠ g := fun e => by have h1 := World.block_lt_of_cell? w2 _ (HAO.out.cell i _ HXI.out).1; have h2 : g2 < w2.heap.size := h1; omega
                  clear hse hf hw hget hmlt hmg hkl
                  go_upto_region 27 with fail
                  have hne3 : g ≠ nb := by omega
                  refine wp_region_still_tail 18 (by kernel_rfl) (by kernel_rfl) ?_
                  simp only [List.take_succ_cons, List.take_zero, List.drop_succ_cons, List.drop_zero]
                  change wpStill _ _ w3.drew (fun a' => wpList _ _ _ _ a' w3.drew) _ _
                  repeat still_step
                  still_call (word_any _ _)
                  refine wpStill_nil ?_
                  rw [w32_wrap]
                  go_upto_region 28 with fail
                  have hC6 : Chg (fun b => b = g) w3 (w3.setCell ⟨g, o.k.toNat, none⟩ (.int .i64 (w32 (y + o.n)))).drew := ((Chg.refl (fun b => b = g) w3).setCell (fun _ => rfl) _).drew
                  have m1' := (hC6.cell (a := ⟨nb, 1, none⟩) hnbl (fun e => hne3 e.symm)).trans m1
                  have m2' := (hC6.cell (a := ⟨nb, 2, none⟩) hnbl (fun e => hne3 e.symm)).trans m2
                  have a1' := (hC6.cell (a := ⟨g2, i * 2 + 1, none⟩) (by have := World.block_lt_of_cell? w3 _ a1; exact this) ha2).trans a1
                  have cy' : (w3.setCell ⟨g, o.k.toNat, none⟩ (.int .i64 (w32 (y + o.n)))).drew.cell? ⟨g, o.k.toNat, none⟩ = some (.int .i64 (w32 (y + o.n))) := World.cell?_setCell_same w3 _ _ (by rw [cy])
                  have HN6 : Hid (New w2 (w3.setCell ⟨g, o.k.toNat, none⟩ (.int .i64 (w32 (y + o.n)))).drew) := (HN.out.setCell (fun h => by have h' : g < w2.heap.size := h; have := HMT.out; omega) _).drew
                  clear hlk hld cy fy m0 m1 m2 m3 a0 a1 HS HN hC6
                  generalize (w3.setCell ⟨g, o.k.toNat, none⟩ (.int .i64 (w32 (y + o.n)))).drew = w6 at *
                  have hlq : ∀ nq, (Instr.lookup 51 (.map (some m)) (.int .i64 o.t) false).run Try.prog (w6.drewN nq) = .ok (.slice (some ⟨g, 0, none⟩) 16 cg) (w6.drewN nq) := fun nq => sees_lookup (HEND.out.kept ((Chg.refl _ w6).drewN nq)) HMG.out
                  go_quiet (fail)
                  go_wp2_with fail
                  refine ⟨⟨i + 1, _, _, by omega, by go_num, HN6.out.drewN _, HEND.out.kept ((Chg.refl _ w6).drewN _), HSB.out⟩, by simp [intOf]; omega⟩
                · have HSB := Lib.hid (sees_end HSE.out HOI.out HXI.out ⟨hd0, hd1, hd2, hd3⟩)
                  go_wp2_with fail
                  refine ⟨⟨i + 1, _, _, by omega, by go_num, HN.out, HS.out, HSB.out⟩, by simp [intOf]; omega⟩
        · have HSB := Lib.hid (sees_error HSE.out HOI.out HXI.out he)
          go_wp2_with fail
          refine ⟨⟨i + 1, _, _, by omega, by go_num, HN.out, HS.out, HSB.out⟩, by simp [intOf]; omega⟩
      · obtain rfl : i = ops.length := by omega
        have HN := Lib.hid hN
        clear hN hS hse hS0
        go_wp2_with ((with_reducible refine (awake_any _).mono ?_); rintro e w9 ⟨rfl, hN9⟩)
        go_ret
        exact ⟨rfl, (HN0.out.trans HN.out).trans hN9⟩
end
end Go.Proofs.Yteaeflmglppcdaa
