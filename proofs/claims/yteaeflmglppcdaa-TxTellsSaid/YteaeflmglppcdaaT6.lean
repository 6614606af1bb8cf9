/- The reference: does a transaction clash? -/
import Derived.Test.YteaeflmglppcdaaT5
namespace Go.Proofs.Yteaeflmglppcdaa
open Go.RowKit Tx

theorem clash_no (st : St) (t : Nat) (h : ∀ i, (st.txs t).inst < i → i < st.insts.length → ∀ k, k < 16 → ((st.txs t).read k && (st.inst i).wrote k) = false) : clash st t = false := by
  unfold clash
  rw [List.any_eq_false]
  intro k hk
  have hk' := List.mem_range.1 hk
  cases hr : (st.txs t).read k with
  | false => simp
  | true =>
    have : behind st k (st.txs t).inst = false := by
      unfold behind
      rw [List.any_eq_false]
      intro i hi
      have h1 := List.mem_range.1 hi
      by_cases h2 : (st.txs t).inst < i
      · have := h i h2 h1 k hk'
        rw [hr, Bool.true_and] at this
        simp [this]
      · simp [h2]
    simp [this]
theorem clash_yes (st : St) (t : Nat) {i k : Nat} (h1 : (st.txs t).inst < i) (h2 : i < st.insts.length) (h3 : k < 16) (h4 : (st.txs t).read k = true) (h5 : (st.inst i).wrote k = true) : clash st t = true := by
  unfold clash
  rw [List.any_eq_true]
  refine ⟨k, List.mem_range.2 h3, ?_⟩
  have : behind st k (st.txs t).inst = true := by
    unfold behind
    rw [List.any_eq_true]
    exact ⟨i, List.mem_range.2 h2, by simp [h1, h5]⟩
  simp [h4, this]
section
variable {w : World} {P : RP} {X : XS}
set_option maxRecDepth 100000 in
set_option maxHeartbeats 4000000 in
theorem clashes_any (hR : RRep w P X) (t : Nat) (ht : t < 16) (hin : (X.st.txs t).inst < X.st.insts.length) (hlen : X.st.insts.length ≤ 1000) (b0 b1 b2 : Bool) (n7 n8 : Int) :
    Calls Try.prog 58 #[runV P X, .agg #[.bool b0, .bool b1, .bool b2, .int .i64 (X.st.txs t).inst, .slice (some ⟨P.rd t, 0, none⟩) 16 16, .slice (some ⟨P.wb t, 0, none⟩) 16 16, .slice (some ⟨P.vb t, 0, none⟩) 16 16, .int .i64 n7, .int .i64 n8]] w fun e w' => e = .returned (.bool (wr16 X.st t && Tx.clash X.st t)) ∧ New w w' := by
  have HR := Lib.hid hR
  obtain ⟨BW, hBW⟩ : ∃ B, wr16 X.st t = B := ⟨_, rfl⟩
  obtain ⟨BC, hBC⟩ : ∃ B, Tx.clash X.st t = B := ⟨_, rfl⟩
  have HBC := Lib.hid hBC
  have hlen2 : (X.st.insts.length : Int) ≤ 1000 := by omega
  have hin2 : ((X.st.txs t).inst : Int) < (X.st.insts.length : Int) := by omega
  have hin0 : (0 : Int) ≤ ((X.st.txs t).inst : Int) := by omega
  rw [hBW, hBC]
  clear hR
  unfold runV
  go_enter Try.func58, Try.ntmps58
  go_upto_region 1 with fail
  have hRa := HR.out.new (((Chg.refl _ w).alloc (.cells #[.slice (some ⟨P.ga, 0, none⟩) 16 P.ca, .slice (some ⟨P.gW, 0, none⟩) X.st.insts.length P.cW, .slice (some ⟨P.gC, 0, none⟩) X.st.insts.length P.cC, .int .i64 X.commits] 79)).alloc (.cells #[.bool b0, .bool b1, .bool b2, .int .i64 (X.st.txs t).inst, .slice (some ⟨P.rd t, 0, none⟩) 16 16, .slice (some ⟨P.wb t, 0, none⟩) 16 16, .slice (some ⟨P.vb t, 0, none⟩) 16 16, .int .i64 n7, .int .i64 n8] 93))
  have hNa : New w ((w.alloc (.cells #[.slice (some ⟨P.ga, 0, none⟩) 16 P.ca, .slice (some ⟨P.gW, 0, none⟩) X.st.insts.length P.cW, .slice (some ⟨P.gC, 0, none⟩) X.st.insts.length P.cC, .int .i64 X.commits] 79)).alloc (.cells #[.bool b0, .bool b1, .bool b2, .int .i64 (X.st.txs t).inst, .slice (some ⟨P.rd t, 0, none⟩) 16 16, .slice (some ⟨P.wb t, 0, none⟩) 16 16, .slice (some ⟨P.vb t, 0, none⟩) 16 16, .int .i64 n7, .int .i64 n8] 93)) := ((Chg.refl _ w).alloc _).alloc _
  have hb0 : ((w.alloc (.cells #[.slice (some ⟨P.ga, 0, none⟩) 16 P.ca, .slice (some ⟨P.gW, 0, none⟩) X.st.insts.length P.cW, .slice (some ⟨P.gC, 0, none⟩) X.st.insts.length P.cC, .int .i64 X.commits] 79)).alloc (.cells #[.bool b0, .bool b1, .bool b2, .int .i64 (X.st.txs t).inst, .slice (some ⟨P.rd t, 0, none⟩) 16 16, .slice (some ⟨P.wb t, 0, none⟩) 16 16, .slice (some ⟨P.vb t, 0, none⟩) 16 16, .int .i64 n7, .int .i64 n8] 93)).heap[w.heap.size]? = some (.cells #[.slice (some ⟨P.ga, 0, none⟩) 16 P.ca, .slice (some ⟨P.gW, 0, none⟩) X.st.insts.length P.cW, .slice (some ⟨P.gC, 0, none⟩) X.st.insts.length P.cC, .int .i64 X.commits] 79) := (Below.heap_alloc _ _ _ (by simp [World.size_alloc])).trans (heap_alloc_new w _)
  have hb1 : ((w.alloc (.cells #[.slice (some ⟨P.ga, 0, none⟩) 16 P.ca, .slice (some ⟨P.gW, 0, none⟩) X.st.insts.length P.cW, .slice (some ⟨P.gC, 0, none⟩) X.st.insts.length P.cC, .int .i64 X.commits] 79)).alloc (.cells #[.bool b0, .bool b1, .bool b2, .int .i64 (X.st.txs t).inst, .slice (some ⟨P.rd t, 0, none⟩) 16 16, .slice (some ⟨P.wb t, 0, none⟩) 16 16, .slice (some ⟨P.vb t, 0, none⟩) 16 16, .int .i64 n7, .int .i64 n8] 93)).heap[w.heap.size + 1]? = some (.cells #[.bool b0, .bool b1, .bool b2, .int .i64 (X.st.txs t).inst, .slice (some ⟨P.rd t, 0, none⟩) 16 16, .slice (some ⟨P.wb t, 0, none⟩) 16 16, .slice (some ⟨P.vb t, 0, none⟩) 16 16, .int .i64 n7, .int .i64 n8] 93) := by
    have := heap_alloc_new (w.alloc (.cells #[.slice (some ⟨P.ga, 0, none⟩) 16 P.ca, .slice (some ⟨P.gW, 0, none⟩) X.st.insts.length P.cW, .slice (some ⟨P.gC, 0, none⟩) X.st.insts.length P.cC, .int .i64 X.commits] 79)) (.cells #[.bool b0, .bool b1, .bool b2, .int .i64 (X.st.txs t).inst, .slice (some ⟨P.rd t, 0, none⟩) 16 16, .slice (some ⟨P.wb t, 0, none⟩) 16 16, .slice (some ⟨P.vb t, 0, none⟩) 16 16, .int .i64 n7, .int .i64 n8] 93)
    rwa [World.size_alloc] at this
  generalize (w.alloc _).alloc _ = w1 at *
  generalize w.heap.size = nr at *
  have hlt0 : nr < w1.heap.size := (Array.getElem?_eq_some_iff.1 hb0).1
  have hlt1 : nr + 1 < w1.heap.size := (Array.getElem?_eq_some_iff.1 hb1).1
  have HWR : Hid (∀ w', New w1 w' → Calls Try.prog 73 #[.agg #[.bool b0, .bool b1, .bool b2, .int .i64 (X.st.txs t).inst, .slice (some ⟨P.rd t, 0, none⟩) 16 16, .slice (some ⟨P.wb t, 0, none⟩) 16 16, .slice (some ⟨P.vb t, 0, none⟩) 16 16, .int .i64 n7, .int .i64 n8]] w' fun e w'' => e = .returned (.bool BW) ∧ New w' w'') := Lib.hid (fun w' hw => by
    have h1 := writes_any (w := w') b0 b1 b2 (X.st.txs t).inst n7 n8 (.slice (some ⟨P.rd t, 0, none⟩) 16 16) (.slice (some ⟨P.vb t, 0, none⟩) 16 16) (P.wb t) 16 (fun k => (mget ((t : Int), (k : Int)) X.st.wr).isSome) (fun k hk => (hRa.new hw).wbC t k ht hk) rfl rfl
    have e : ((List.range 16).any fun k => (mget ((t : Int), (k : Int)) X.st.wr).isSome) = BW := hBW
    rw [e] at h1
    exact h1)
  have r1 : w1.cell? ⟨nr, 1, none⟩ = some (.slice (some ⟨P.gW, 0, none⟩) X.st.insts.length P.cW) := by simp [World.cell?, hb0]
  have r2 : w1.cell? ⟨nr, 2, none⟩ = some (.slice (some ⟨P.gC, 0, none⟩) X.st.insts.length P.cC) := by simp [World.cell?, hb0]
  have s0 : w1.cell? ⟨nr + 1, 0, none⟩ = some (.bool b0) := by simp [World.cell?, hb1]
  have s1 : w1.cell? ⟨nr + 1, 1, none⟩ = some (.bool b1) := by simp [World.cell?, hb1]
  have s2 : w1.cell? ⟨nr + 1, 2, none⟩ = some (.bool b2) := by simp [World.cell?, hb1]
  have s3 : w1.cell? ⟨nr + 1, 3, none⟩ = some (.int .i64 (X.st.txs t).inst) := by simp [World.cell?, hb1]
  have s4 : w1.cell? ⟨nr + 1, 4, none⟩ = some (.slice (some ⟨P.rd t, 0, none⟩) 16 16) := by simp [World.cell?, hb1]
  have s5 : w1.cell? ⟨nr + 1, 5, none⟩ = some (.slice (some ⟨P.wb t, 0, none⟩) 16 16) := by simp [World.cell?, hb1]
  have s6 : w1.cell? ⟨nr + 1, 6, none⟩ = some (.slice (some ⟨P.vb t, 0, none⟩) 16 16) := by simp [World.cell?, hb1]
  have s7 : w1.cell? ⟨nr + 1, 7, none⟩ = some (.int .i64 n7) := by simp [World.cell?, hb1]
  have s8 : w1.cell? ⟨nr + 1, 8, none⟩ = some (.int .i64 n8) := by simp [World.cell?, hb1]
  have HRA := Lib.hid hRa; have HNA := Lib.hid hNa
  clear hb0 hb1 hRa hNa hBW hBC
  go_wp2_with fail
  go_loopw [5] (fun v wr => ∃ i : Nat, (X.st.txs t).inst + 1 ≤ i ∧ i ≤ X.st.insts.length ∧ v = .int .i64 i ∧ New w1 wr ∧ (∀ i', (X.st.txs t).inst < i' → i' < i → ∀ k, k < 16 → ((X.st.txs t).read k && (X.st.inst i').wrote k) = false)) (fun v _ => X.st.insts.length - (intOf v).toNat)
  case atStart => exact ⟨(X.st.txs t).inst + 1, by omega, by omega, by go_num, Chg.refl _ _, fun i' h1 h2 => by omega⟩
  case round =>
    obtain ⟨i, hi0, hi1, rfl, hN, hno⟩ := hrel
    have kp : ∀ (b q : Nat) (v : Value), w1.cell? ⟨b, q, none⟩ = some v → wr.cell? ⟨b, q, none⟩ = some v := fun b q v h => (hN.cell (a := ⟨b, q, none⟩) (World.block_lt_of_cell? w1 _ h) (fun x => x)).trans h
    have R1 := kp _ _ _ r1
    have S0 := kp _ _ _ s0; have S1 := kp _ _ _ s1; have S2 := kp _ _ _ s2; have S3 := kp _ _ _ s3; have S4 := kp _ _ _ s4; have S5 := kp _ _ _ s5; have S6 := kp _ _ _ s6; have S7 := kp _ _ _ s7; have S8 := kp _ _ _ s8
    have HNO := Lib.hid hno
    have b3 : (0 : Int) ≤ (i : Int) := by omega
    by_cases hlt : i < X.st.insts.length
    · have b4 : (i : Int) < (X.st.insts.length : Int) := by omega
      have HC := Lib.hid (HWR.out wr hN)
      have HN := Lib.hid hN
      clear hN hno kp
      cases BW
      · go_wp2_with ((with_reducible refine HC.out.mono ?_); rintro e w' ⟨rfl, hN2⟩)
        go_ret
        exact ⟨rfl, (HNA.out.trans HN.out).trans hN2⟩
      · go_wp2_with ((with_reducible refine HC.out.mono ?_); rintro e w' ⟨rfl, hN2⟩; have HN2 := Lib.hid (HN.out.trans hN2); clear hN2)
        clear R1 S0 S1 S2 S3 S4 S5 S6 S7 S8 HC
        go_loopw [6] (fun v wr => ∃ k : Nat, k ≤ 16 ∧ v = .int .i64 k ∧ wr = w' ∧ (∀ k', k' < k → ((X.st.txs t).read k' && (X.st.inst i).wrote k') = false)) (fun v _ => 16 - (intOf v).toNat)
        case atStart => exact ⟨0, by omega, rfl, rfl, fun k' h => by omega⟩
        case round =>
          obtain ⟨k, hk, rfl, rfl, hno2⟩ := hrel
          have HNO2 := Lib.hid hno2
          have kp : ∀ (b q : Nat) (v : Value), w1.cell? ⟨b, q, none⟩ = some v → wr.cell? ⟨b, q, none⟩ = some v := fun b q v h => (HN2.out.cell (a := ⟨b, q, none⟩) (World.block_lt_of_cell? w1 _ h) (fun x => x)).trans h
          clear hno2
          by_cases hk16 : k < 16
          · have S4 := kp _ _ _ s4
            have R2 := kp _ _ _ r2
            have HRn := HRA.out.new HN2.out
            obtain ⟨⟨gg, gcp⟩, hg⟩ : ∃ q, P.gc[i]? = some q := ⟨_, List.getElem?_eq_getElem (by rw [HR.out.gcL]; exact hlt)⟩
            have T0 := HRn.rowCc hg
            have T1 := HRn.chgd _ _ _ hg k hk16
            have T2 := HRn.rdC t k ht hk16
            have c3 : (0 : Int) ≤ (k : Int) := by omega
            have c4 : (k : Int) < 16 := by omega
            clear kp hg HRn
            cases hrd : (X.st.txs t).read k
            · rw [hrd] at T2
              go_wp2_with fail
              exact ⟨⟨k + 1, by omega, by go_num, (by first | rfl | trivial), fun k' hk' => by
                rcases Nat.lt_or_ge k' k with h | h
                · exact HNO2.out k' h
                · obtain rfl : k' = k := by omega
                  rw [hrd]; rfl⟩, by simp [intOf]; omega⟩
            · rw [hrd] at T2
              cases hwt : (X.st.inst i).wrote k
              · rw [hwt] at T1
                go_wp2_with fail
                exact ⟨⟨k + 1, by omega, by go_num, (by first | rfl | trivial), fun k' hk' => by
                  rcases Nat.lt_or_ge k' k with h | h
                  · exact HNO2.out k' h
                  · obtain rfl : k' = k := by omega
                    rw [hwt, Bool.and_false]⟩, by simp [intOf]; omega⟩
              · rw [hwt] at T1
                have HF := Lib.hid (HBC.out.symm.trans (clash_yes X.st t (by omega) hlt hk16 hrd hwt))
                clear hrd hwt
                go_wp2_with fail
                go_ret
                exact ⟨by rw [HF.out]; rfl, HNA.out.trans HN2.out⟩
          · obtain rfl : k = 16 := by omega
            clear kp hk16 hk
            go_wp2_with fail
            exact ⟨⟨i + 1, by omega, by omega, by go_num, HN2.out, fun i' h1 h2 k hk => by
              rcases Nat.lt_or_ge i' i with h | h
              · exact HNO.out i' h1 h k hk
              · obtain rfl : i' = i := by omega
                exact HNO2.out k hk⟩, by simp [intOf]; omega⟩
    · obtain rfl : i = X.st.insts.length := by omega
      have HF := Lib.hid (HBC.out.symm.trans (clash_no X.st t (fun i' h1 h2 k hk => HNO.out i' h1 h2 k hk)))
      have HN := Lib.hid hN
      clear hN hno kp hlt hi0 hi1
      go_wp2_with fail
      go_ret
      exact ⟨by rw [HF.out, Bool.and_false]; rfl, HNA.out.trans HN.out⟩
end
end Go.Proofs.Yteaeflmglppcdaa
