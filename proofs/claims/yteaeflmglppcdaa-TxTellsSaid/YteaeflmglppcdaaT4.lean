/- The reference: which operation is refused. -/
import Derived.Test.YteaeflmglppcdaaT3
namespace Go.Proofs.Yteaeflmglppcdaa
open Go.RowKit Tx

section
variable {w : World} {P : RP} {X : XS}
/-- The cells of a transaction's state, one by one. -/
theorem RRep.st9 (h : RRep w P X) {t : Nat} (ht : t < 16) :
    w.cell? ⟨P.ga, t * 9, none⟩ = some (.bool (X.st.txs t).begun) ∧ w.cell? ⟨P.ga, t * 9 + 1, none⟩ = some (.bool (X.st.txs t).over) ∧ w.cell? ⟨P.ga, t * 9 + 2, none⟩ = some (.bool (X.st.txs t).comm) ∧
    w.cell? ⟨P.ga, t * 9 + 3, none⟩ = some (.int .i64 (X.st.txs t).inst) ∧ w.cell? ⟨P.ga, t * 9 + 4, none⟩ = some (.slice (some ⟨P.rd t, 0, none⟩) 16 16) ∧ w.cell? ⟨P.ga, t * 9 + 5, none⟩ = some (.slice (some ⟨P.wb t, 0, none⟩) 16 16) ∧
    w.cell? ⟨P.ga, t * 9 + 6, none⟩ = some (.slice (some ⟨P.vb t, 0, none⟩) 16 16) ∧ w.cell? ⟨P.ga, t * 9 + 7, none⟩ = some (.int .i64 (X.made t)) ∧ w.cell? ⟨P.ga, t * 9 + 8, none⟩ = some (.int .i64 (X.turn t)) :=
  ⟨h.all t 0 ht (by omega), h.all t 1 ht (by omega), h.all t 2 ht (by omega), h.all t 3 ht (by omega), h.all t 4 ht (by omega), h.all t 5 ht (by omega), h.all t 6 ht (by omega), h.all t 7 ht (by omega), h.all t 8 ht (by omega)⟩
set_option maxRecDepth 100000 in
set_option maxHeartbeats 4000000 in
theorem refused_any (hR : RRep w P X) (o : Tx.Op) :
    Calls Try.prog 56 #[runV P X, .agg #[.int .i64 o.d, .int .i64 o.t, .int .i64 o.k, .int .i64 o.n]] w fun e w' => e = .returned (.int .i64 (refusedE X.st o)) ∧ New w w' := by
  obtain ⟨d, t, k, n⟩ := o
  dsimp only
  obtain ⟨E, hE⟩ : ∃ E, refusedE X.st ⟨d, t, k, n⟩ = E := ⟨_, rfl⟩
  rw [hE]
  obtain ⟨BK, hBK⟩ : ∃ B, Tx.keyed d = B := ⟨_, rfl⟩
  obtain ⟨BW, hBW⟩ : ∃ B, Tx.wordy d = B := ⟨_, rfl⟩
  obtain ⟨BN, hBN⟩ : ∃ B, Tx.word n = B := ⟨_, rfl⟩
  have HK : Hid (∀ w, Calls Try.prog 70 #[.int .i64 d] w fun e w' => e = .returned (.bool BK) ∧ w' = w) := fun w => by have := keyed_any (w := w) d; rwa [hBK] at this
  have HW : Hid (∀ w, Calls Try.prog 71 #[.int .i64 d] w fun e w' => e = .returned (.bool BW) ∧ w' = w) := fun w => by have := wordy_any (w := w) d; rwa [hBW] at this
  have HN : Hid (∀ w, Calls Try.prog 72 #[.int .i64 n] w fun e w' => e = .returned (.bool BN) ∧ w' = w) := fun w => by have := isWord_any (w := w) n; rwa [hBN] at this
  have HE : Hid ((if !within d 0 5 then 1 else if !(within t 0 15 && (!BK || within k 0 15) && (!BW || BN)) then 2 else if d = 0 then (if (X.st.txs t.toNat).begun then 5 else 0) else if !(X.st.txs t.toNat).live then 6 else 0) = E) := by
    rw [← hE, ← hBK, ← hBW, ← hBN]; rfl
  have HR := Lib.hid hR
  clear hE hBK hBW hBN hR
  unfold runV
  go_enter Try.func56, Try.ntmps56
  go_upto_region 1 with fail
  have hRb := HR.out.new (((Chg.refl _ w).alloc (.cells #[.slice (some ⟨P.ga, 0, none⟩) 16 P.ca, .slice (some ⟨P.gW, 0, none⟩) X.st.insts.length P.cW, .slice (some ⟨P.gC, 0, none⟩) X.st.insts.length P.cC, .int .i64 X.commits] 79)).alloc (.cells #[.int .i64 d, .int .i64 t, .int .i64 k, .int .i64 n] 47))
  have hNb : New w ((w.alloc (.cells #[.slice (some ⟨P.ga, 0, none⟩) 16 P.ca, .slice (some ⟨P.gW, 0, none⟩) X.st.insts.length P.cW, .slice (some ⟨P.gC, 0, none⟩) X.st.insts.length P.cC, .int .i64 X.commits] 79)).alloc (.cells #[.int .i64 d, .int .i64 t, .int .i64 k, .int .i64 n] 47)) := ((Chg.refl _ w).alloc _).alloc _
  have hb0 : ((w.alloc (.cells #[.slice (some ⟨P.ga, 0, none⟩) 16 P.ca, .slice (some ⟨P.gW, 0, none⟩) X.st.insts.length P.cW, .slice (some ⟨P.gC, 0, none⟩) X.st.insts.length P.cC, .int .i64 X.commits] 79)).alloc (.cells #[.int .i64 d, .int .i64 t, .int .i64 k, .int .i64 n] 47)).heap[w.heap.size]? = some (.cells #[.slice (some ⟨P.ga, 0, none⟩) 16 P.ca, .slice (some ⟨P.gW, 0, none⟩) X.st.insts.length P.cW, .slice (some ⟨P.gC, 0, none⟩) X.st.insts.length P.cC, .int .i64 X.commits] 79) := (Below.heap_alloc _ _ _ (by simp [World.size_alloc])).trans (heap_alloc_new w _)
  have hb1 : ((w.alloc (.cells #[.slice (some ⟨P.ga, 0, none⟩) 16 P.ca, .slice (some ⟨P.gW, 0, none⟩) X.st.insts.length P.cW, .slice (some ⟨P.gC, 0, none⟩) X.st.insts.length P.cC, .int .i64 X.commits] 79)).alloc (.cells #[.int .i64 d, .int .i64 t, .int .i64 k, .int .i64 n] 47)).heap[w.heap.size + 1]? = some (.cells #[.int .i64 d, .int .i64 t, .int .i64 k, .int .i64 n] 47) := by
    have := heap_alloc_new (w.alloc (.cells #[.slice (some ⟨P.ga, 0, none⟩) 16 P.ca, .slice (some ⟨P.gW, 0, none⟩) X.st.insts.length P.cW, .slice (some ⟨P.gC, 0, none⟩) X.st.insts.length P.cC, .int .i64 X.commits] 79)) (.cells #[.int .i64 d, .int .i64 t, .int .i64 k, .int .i64 n] 47)
    rwa [World.size_alloc] at this
  generalize (w.alloc _).alloc _ = wx at *
  generalize w.heap.size = nr at *
  have r0 : wx.cell? ⟨nr, 0, none⟩ = some (.slice (some ⟨P.ga, 0, none⟩) 16 P.ca) := by simp [World.cell?, hb0]
  have o0 : wx.cell? ⟨nr + 1, 0, none⟩ = some (.int .i64 d) := by simp [World.cell?, hb1]
  have o1 : wx.cell? ⟨nr + 1, 1, none⟩ = some (.int .i64 t) := by simp [World.cell?, hb1]
  have o2 : wx.cell? ⟨nr + 1, 2, none⟩ = some (.int .i64 k) := by simp [World.cell?, hb1]
  have o3 : wx.cell? ⟨nr + 1, 3, none⟩ = some (.int .i64 n) := by simp [World.cell?, hb1]
  have hnrl : nr + 1 < wx.heap.size := (Array.getElem?_eq_some_iff.1 hb1).1
  have HRB := Lib.hid hRb; have HNB := Lib.hid hNb
  clear hb0 hb1 hRb hNb
  by_cases d0 : d < 0
  · have d0' : ¬ 0 ≤ d := by omega
    have HF : Hid (E = 1) := by
      show _ = _
      rw [← HE.out]
      simp [within, Txn.live, *]
    go_wp2_with (first | ((with_reducible refine (HK.out _).mono ?_); rintro e w' ⟨rfl, hw⟩; obtain rfl := hw.symm) | ((with_reducible refine (HW.out _).mono ?_); rintro e w' ⟨rfl, hw⟩; obtain rfl := hw.symm) | ((with_reducible refine (HN.out _).mono ?_); rintro e w' ⟨rfl, hw⟩; obtain rfl := hw.symm))
    go_ret
    exact ⟨by rw [HF.out]; rfl, HNB.out⟩
  · have d0' : 0 ≤ d := by omega
    by_cases d5 : 5 < d
    · have d5' : ¬ d ≤ 5 := by omega
      have HF : Hid (E = 1) := by
        show _ = _
        rw [← HE.out]
        simp [within, Txn.live, *]
      go_wp2_with (first | ((with_reducible refine (HK.out _).mono ?_); rintro e w' ⟨rfl, hw⟩; obtain rfl := hw.symm) | ((with_reducible refine (HW.out _).mono ?_); rintro e w' ⟨rfl, hw⟩; obtain rfl := hw.symm) | ((with_reducible refine (HN.out _).mono ?_); rintro e w' ⟨rfl, hw⟩; obtain rfl := hw.symm))
      go_ret
      exact ⟨by rw [HF.out]; rfl, HNB.out⟩
    · have d5' : d ≤ 5 := by omega
      by_cases t0 : t < 0
      · have t0' : ¬ 0 ≤ t := by omega
        have HF : Hid (E = 2) := by
          show _ = _
          rw [← HE.out]
          simp [within, Txn.live, *]
        go_wp2_with (first | ((with_reducible refine (HK.out _).mono ?_); rintro e w' ⟨rfl, hw⟩; obtain rfl := hw.symm) | ((with_reducible refine (HW.out _).mono ?_); rintro e w' ⟨rfl, hw⟩; obtain rfl := hw.symm) | ((with_reducible refine (HN.out _).mono ?_); rintro e w' ⟨rfl, hw⟩; obtain rfl := hw.symm))
        go_ret
        exact ⟨by rw [HF.out]; rfl, HNB.out⟩
      · have t0' : 0 ≤ t := by omega
        by_cases t1 : 16 ≤ t
        · have t1' : ¬ t ≤ 15 := by omega
          have HF : Hid (E = 2) := by
            show _ = _
            rw [← HE.out]
            simp [within, Txn.live, *]
          go_wp2_with (first | ((with_reducible refine (HK.out _).mono ?_); rintro e w' ⟨rfl, hw⟩; obtain rfl := hw.symm) | ((with_reducible refine (HW.out _).mono ?_); rintro e w' ⟨rfl, hw⟩; obtain rfl := hw.symm) | ((with_reducible refine (HN.out _).mono ?_); rintro e w' ⟨rfl, hw⟩; obtain rfl := hw.symm))
          go_ret
          exact ⟨by rw [HF.out]; rfl, HNB.out⟩
        · have t1' : t ≤ 15 := by omega
          obtain ⟨a0, a1, a2, a3, a4, a5, a6, a7, a8⟩ := HRB.out.st9 (t := t.toNat) (by omega)
          cases BK
          · cases BW
            ·
              go_upto_region 6 with (first | ((with_reducible refine (HK.out _).mono ?_); rintro e w' ⟨rfl, hw⟩; obtain rfl := hw.symm) | ((with_reducible refine (HW.out _).mono ?_); rintro e w' ⟨rfl, hw⟩; obtain rfl := hw.symm) | ((with_reducible refine (HN.out _).mono ?_); rintro e w' ⟨rfl, hw⟩; obtain rfl := hw.symm))
              have p0 : (wx.alloc (.cells #[.bool (X.st.txs t.toNat).begun, .bool (X.st.txs t.toNat).over, .bool (X.st.txs t.toNat).comm, .int .i64 (X.st.txs t.toNat).inst, .slice (some ⟨P.rd t.toNat, 0, none⟩) 16 16, .slice (some ⟨P.wb t.toNat, 0, none⟩) 16 16, .slice (some ⟨P.vb t.toNat, 0, none⟩) 16 16, .int .i64 (X.made t.toNat), .int .i64 (X.turn t.toNat)] 93)).cell? ⟨nr + 1, 0, none⟩ = some (.int .i64 d) := (World.cell?_alloc_lt _ _ _ hnrl).trans o0
              have HNB := Lib.hid (HNB.out.alloc (.cells #[.bool (X.st.txs t.toNat).begun, .bool (X.st.txs t.toNat).over, .bool (X.st.txs t.toNat).comm, .int .i64 (X.st.txs t.toNat).inst, .slice (some ⟨P.rd t.toNat, 0, none⟩) 16 16, .slice (some ⟨P.wb t.toNat, 0, none⟩) 16 16, .slice (some ⟨P.vb t.toNat, 0, none⟩) 16 16, .int .i64 (X.made t.toNat), .int .i64 (X.turn t.toNat)] 93))
              have hnl : (wx.alloc (.cells #[.bool (X.st.txs t.toNat).begun, .bool (X.st.txs t.toNat).over, .bool (X.st.txs t.toNat).comm, .int .i64 (X.st.txs t.toNat).inst, .slice (some ⟨P.rd t.toNat, 0, none⟩) 16 16, .slice (some ⟨P.wb t.toNat, 0, none⟩) 16 16, .slice (some ⟨P.vb t.toNat, 0, none⟩) 16 16, .int .i64 (X.made t.toNat), .int .i64 (X.turn t.toNat)] 93)).heap[wx.heap.size]? = some (.cells #[.bool (X.st.txs t.toNat).begun, .bool (X.st.txs t.toNat).over, .bool (X.st.txs t.toNat).comm, .int .i64 (X.st.txs t.toNat).inst, .slice (some ⟨P.rd t.toNat, 0, none⟩) 16 16, .slice (some ⟨P.wb t.toNat, 0, none⟩) 16 16, .slice (some ⟨P.vb t.toNat, 0, none⟩) 16 16, .int .i64 (X.made t.toNat), .int .i64 (X.turn t.toNat)] 93) := heap_alloc_new wx _
              clear a0 a1 a2 a3 a4 a5 a6 a7 a8 o0 o1 o2 o3 r0
              generalize wx.alloc _ = wy at *
              generalize wx.heap.size = nl at *
              have s0 : wy.cell? ⟨nl, 0, none⟩ = some (.bool (X.st.txs t.toNat).begun) := by simp [World.cell?, hnl]
              have s1 : wy.cell? ⟨nl, 1, none⟩ = some (.bool (X.st.txs t.toNat).over) := by simp [World.cell?, hnl]
              clear hnl
              by_cases dz : d = 0
              · subst dz
                cases hbg : (X.st.txs t.toNat).begun
                · rw [hbg] at s0
                  have HF : Hid (E = 0) := by
                    show _ = _
                    rw [← HE.out]
                    simp [within, Txn.live, *]
                  go_wp2_with fail
                  go_ret
                  exact ⟨by rw [HF.out]; rfl, HNB.out⟩
                · rw [hbg] at s0
                  have HF : Hid (E = 5) := by
                    show _ = _
                    rw [← HE.out]
                    simp [within, Txn.live, *]
                  go_wp2_with fail
                  go_ret
                  exact ⟨by rw [HF.out]; rfl, HNB.out⟩
              · have dz' : (d == 0) = false := by simp [dz]
                cases hbg : (X.st.txs t.toNat).begun
                · rw [hbg] at s0
                  have HF : Hid (E = 6) := by
                    show _ = _
                    rw [← HE.out]
                    simp [within, Txn.live, *]
                  go_wp2_with fail
                  go_ret
                  exact ⟨by rw [HF.out]; rfl, HNB.out⟩
                · rw [hbg] at s0
                  cases hov : (X.st.txs t.toNat).over
                  · rw [hov] at s1
                    have HF : Hid (E = 0) := by
                      show _ = _
                      rw [← HE.out]
                      simp [within, Txn.live, *]
                    go_wp2_with fail
                    go_ret
                    exact ⟨by rw [HF.out]; rfl, HNB.out⟩
                  · rw [hov] at s1
                    have HF : Hid (E = 6) := by
                      show _ = _
                      rw [← HE.out]
                      simp [within, Txn.live, *]
                    go_wp2_with fail
                    go_ret
                    exact ⟨by rw [HF.out]; rfl, HNB.out⟩
            · cases BN
              ·
                have HF : Hid (E = 2) := by
                  show _ = _
                  rw [← HE.out]
                  simp [within, Txn.live, *]
                go_wp2_with (first | ((with_reducible refine (HK.out _).mono ?_); rintro e w' ⟨rfl, hw⟩; obtain rfl := hw.symm) | ((with_reducible refine (HW.out _).mono ?_); rintro e w' ⟨rfl, hw⟩; obtain rfl := hw.symm) | ((with_reducible refine (HN.out _).mono ?_); rintro e w' ⟨rfl, hw⟩; obtain rfl := hw.symm))
                go_ret
                exact ⟨by rw [HF.out]; rfl, HNB.out⟩
              ·
                go_upto_region 6 with (first | ((with_reducible refine (HK.out _).mono ?_); rintro e w' ⟨rfl, hw⟩; obtain rfl := hw.symm) | ((with_reducible refine (HW.out _).mono ?_); rintro e w' ⟨rfl, hw⟩; obtain rfl := hw.symm) | ((with_reducible refine (HN.out _).mono ?_); rintro e w' ⟨rfl, hw⟩; obtain rfl := hw.symm))
                have p0 : (wx.alloc (.cells #[.bool (X.st.txs t.toNat).begun, .bool (X.st.txs t.toNat).over, .bool (X.st.txs t.toNat).comm, .int .i64 (X.st.txs t.toNat).inst, .slice (some ⟨P.rd t.toNat, 0, none⟩) 16 16, .slice (some ⟨P.wb t.toNat, 0, none⟩) 16 16, .slice (some ⟨P.vb t.toNat, 0, none⟩) 16 16, .int .i64 (X.made t.toNat), .int .i64 (X.turn t.toNat)] 93)).cell? ⟨nr + 1, 0, none⟩ = some (.int .i64 d) := (World.cell?_alloc_lt _ _ _ hnrl).trans o0
                have HNB := Lib.hid (HNB.out.alloc (.cells #[.bool (X.st.txs t.toNat).begun, .bool (X.st.txs t.toNat).over, .bool (X.st.txs t.toNat).comm, .int .i64 (X.st.txs t.toNat).inst, .slice (some ⟨P.rd t.toNat, 0, none⟩) 16 16, .slice (some ⟨P.wb t.toNat, 0, none⟩) 16 16, .slice (some ⟨P.vb t.toNat, 0, none⟩) 16 16, .int .i64 (X.made t.toNat), .int .i64 (X.turn t.toNat)] 93))
                have hnl : (wx.alloc (.cells #[.bool (X.st.txs t.toNat).begun, .bool (X.st.txs t.toNat).over, .bool (X.st.txs t.toNat).comm, .int .i64 (X.st.txs t.toNat).inst, .slice (some ⟨P.rd t.toNat, 0, none⟩) 16 16, .slice (some ⟨P.wb t.toNat, 0, none⟩) 16 16, .slice (some ⟨P.vb t.toNat, 0, none⟩) 16 16, .int .i64 (X.made t.toNat), .int .i64 (X.turn t.toNat)] 93)).heap[wx.heap.size]? = some (.cells #[.bool (X.st.txs t.toNat).begun, .bool (X.st.txs t.toNat).over, .bool (X.st.txs t.toNat).comm, .int .i64 (X.st.txs t.toNat).inst, .slice (some ⟨P.rd t.toNat, 0, none⟩) 16 16, .slice (some ⟨P.wb t.toNat, 0, none⟩) 16 16, .slice (some ⟨P.vb t.toNat, 0, none⟩) 16 16, .int .i64 (X.made t.toNat), .int .i64 (X.turn t.toNat)] 93) := heap_alloc_new wx _
                clear a0 a1 a2 a3 a4 a5 a6 a7 a8 o0 o1 o2 o3 r0
                generalize wx.alloc _ = wy at *
                generalize wx.heap.size = nl at *
                have s0 : wy.cell? ⟨nl, 0, none⟩ = some (.bool (X.st.txs t.toNat).begun) := by simp [World.cell?, hnl]
                have s1 : wy.cell? ⟨nl, 1, none⟩ = some (.bool (X.st.txs t.toNat).over) := by simp [World.cell?, hnl]
                clear hnl
                by_cases dz : d = 0
                · subst dz
                  cases hbg : (X.st.txs t.toNat).begun
                  · rw [hbg] at s0
                    have HF : Hid (E = 0) := by
                      show _ = _
                      rw [← HE.out]
                      simp [within, Txn.live, *]
                    go_wp2_with fail
                    go_ret
                    exact ⟨by rw [HF.out]; rfl, HNB.out⟩
                  · rw [hbg] at s0
                    have HF : Hid (E = 5) := by
                      show _ = _
                      rw [← HE.out]
                      simp [within, Txn.live, *]
                    go_wp2_with fail
                    go_ret
                    exact ⟨by rw [HF.out]; rfl, HNB.out⟩
                · have dz' : (d == 0) = false := by simp [dz]
                  cases hbg : (X.st.txs t.toNat).begun
                  · rw [hbg] at s0
                    have HF : Hid (E = 6) := by
                      show _ = _
                      rw [← HE.out]
                      simp [within, Txn.live, *]
                    go_wp2_with fail
                    go_ret
                    exact ⟨by rw [HF.out]; rfl, HNB.out⟩
                  · rw [hbg] at s0
                    cases hov : (X.st.txs t.toNat).over
                    · rw [hov] at s1
                      have HF : Hid (E = 0) := by
                        show _ = _
                        rw [← HE.out]
                        simp [within, Txn.live, *]
                      go_wp2_with fail
                      go_ret
                      exact ⟨by rw [HF.out]; rfl, HNB.out⟩
                    · rw [hov] at s1
                      have HF : Hid (E = 6) := by
                        show _ = _
                        rw [← HE.out]
                        simp [within, Txn.live, *]
                      go_wp2_with fail
                      go_ret
                      exact ⟨by rw [HF.out]; rfl, HNB.out⟩
          · by_cases k0 : k < 0
            · have k0' : ¬ 0 ≤ k := by omega
              have HF : Hid (E = 2) := by
                show _ = _
                rw [← HE.out]
                simp [within, Txn.live, *]
              go_wp2_with (first | ((with_reducible refine (HK.out _).mono ?_); rintro e w' ⟨rfl, hw⟩; obtain rfl := hw.symm) | ((with_reducible refine (HW.out _).mono ?_); rintro e w' ⟨rfl, hw⟩; obtain rfl := hw.symm) | ((with_reducible refine (HN.out _).mono ?_); rintro e w' ⟨rfl, hw⟩; obtain rfl := hw.symm))
              go_ret
              exact ⟨by rw [HF.out]; rfl, HNB.out⟩
            · have k0' : 0 ≤ k := by omega
              by_cases k1 : 16 ≤ k
              · have k1' : ¬ k ≤ 15 := by omega
                have HF : Hid (E = 2) := by
                  show _ = _
                  rw [← HE.out]
                  simp [within, Txn.live, *]
                go_wp2_with (first | ((with_reducible refine (HK.out _).mono ?_); rintro e w' ⟨rfl, hw⟩; obtain rfl := hw.symm) | ((with_reducible refine (HW.out _).mono ?_); rintro e w' ⟨rfl, hw⟩; obtain rfl := hw.symm) | ((with_reducible refine (HN.out _).mono ?_); rintro e w' ⟨rfl, hw⟩; obtain rfl := hw.symm))
                go_ret
                exact ⟨by rw [HF.out]; rfl, HNB.out⟩
              · have k1' : k ≤ 15 := by omega
                cases BW
                ·
                  go_upto_region 6 with (first | ((with_reducible refine (HK.out _).mono ?_); rintro e w' ⟨rfl, hw⟩; obtain rfl := hw.symm) | ((with_reducible refine (HW.out _).mono ?_); rintro e w' ⟨rfl, hw⟩; obtain rfl := hw.symm) | ((with_reducible refine (HN.out _).mono ?_); rintro e w' ⟨rfl, hw⟩; obtain rfl := hw.symm))
                  have p0 : (wx.alloc (.cells #[.bool (X.st.txs t.toNat).begun, .bool (X.st.txs t.toNat).over, .bool (X.st.txs t.toNat).comm, .int .i64 (X.st.txs t.toNat).inst, .slice (some ⟨P.rd t.toNat, 0, none⟩) 16 16, .slice (some ⟨P.wb t.toNat, 0, none⟩) 16 16, .slice (some ⟨P.vb t.toNat, 0, none⟩) 16 16, .int .i64 (X.made t.toNat), .int .i64 (X.turn t.toNat)] 93)).cell? ⟨nr + 1, 0, none⟩ = some (.int .i64 d) := (World.cell?_alloc_lt _ _ _ hnrl).trans o0
                  have HNB := Lib.hid (HNB.out.alloc (.cells #[.bool (X.st.txs t.toNat).begun, .bool (X.st.txs t.toNat).over, .bool (X.st.txs t.toNat).comm, .int .i64 (X.st.txs t.toNat).inst, .slice (some ⟨P.rd t.toNat, 0, none⟩) 16 16, .slice (some ⟨P.wb t.toNat, 0, none⟩) 16 16, .slice (some ⟨P.vb t.toNat, 0, none⟩) 16 16, .int .i64 (X.made t.toNat), .int .i64 (X.turn t.toNat)] 93))
                  have hnl : (wx.alloc (.cells #[.bool (X.st.txs t.toNat).begun, .bool (X.st.txs t.toNat).over, .bool (X.st.txs t.toNat).comm, .int .i64 (X.st.txs t.toNat).inst, .slice (some ⟨P.rd t.toNat, 0, none⟩) 16 16, .slice (some ⟨P.wb t.toNat, 0, none⟩) 16 16, .slice (some ⟨P.vb t.toNat, 0, none⟩) 16 16, .int .i64 (X.made t.toNat), .int .i64 (X.turn t.toNat)] 93)).heap[wx.heap.size]? = some (.cells #[.bool (X.st.txs t.toNat).begun, .bool (X.st.txs t.toNat).over, .bool (X.st.txs t.toNat).comm, .int .i64 (X.st.txs t.toNat).inst, .slice (some ⟨P.rd t.toNat, 0, none⟩) 16 16, .slice (some ⟨P.wb t.toNat, 0, none⟩) 16 16, .slice (some ⟨P.vb t.toNat, 0, none⟩) 16 16, .int .i64 (X.made t.toNat), .int .i64 (X.turn t.toNat)] 93) := heap_alloc_new wx _
                  clear a0 a1 a2 a3 a4 a5 a6 a7 a8 o0 o1 o2 o3 r0
                  generalize wx.alloc _ = wy at *
                  generalize wx.heap.size = nl at *
                  have s0 : wy.cell? ⟨nl, 0, none⟩ = some (.bool (X.st.txs t.toNat).begun) := by simp [World.cell?, hnl]
                  have s1 : wy.cell? ⟨nl, 1, none⟩ = some (.bool (X.st.txs t.toNat).over) := by simp [World.cell?, hnl]
                  clear hnl
                  by_cases dz : d = 0
                  · subst dz
                    cases hbg : (X.st.txs t.toNat).begun
                    · rw [hbg] at s0
                      have HF : Hid (E = 0) := by
                        show _ = _
                        rw [← HE.out]
                        simp [within, Txn.live, *]
                      go_wp2_with fail
                      go_ret
                      exact ⟨by rw [HF.out]; rfl, HNB.out⟩
                    · rw [hbg] at s0
                      have HF : Hid (E = 5) := by
                        show _ = _
                        rw [← HE.out]
                        simp [within, Txn.live, *]
                      go_wp2_with fail
                      go_ret
                      exact ⟨by rw [HF.out]; rfl, HNB.out⟩
                  · have dz' : (d == 0) = false := by simp [dz]
                    cases hbg : (X.st.txs t.toNat).begun
                    · rw [hbg] at s0
                      have HF : Hid (E = 6) := by
                        show _ = _
                        rw [← HE.out]
                        simp [within, Txn.live, *]
                      go_wp2_with fail
                      go_ret
                      exact ⟨by rw [HF.out]; rfl, HNB.out⟩
                    · rw [hbg] at s0
                      cases hov : (X.st.txs t.toNat).over
                      · rw [hov] at s1
                        have HF : Hid (E = 0) := by
                          show _ = _
                          rw [← HE.out]
                          simp [within, Txn.live, *]
                        go_wp2_with fail
                        go_ret
                        exact ⟨by rw [HF.out]; rfl, HNB.out⟩
                      · rw [hov] at s1
                        have HF : Hid (E = 6) := by
                          show _ = _
                          rw [← HE.out]
                          simp [within, Txn.live, *]
                        go_wp2_with fail
                        go_ret
                        exact ⟨by rw [HF.out]; rfl, HNB.out⟩
                · cases BN
                  ·
                    have HF : Hid (E = 2) := by
                      show _ = _
                      rw [← HE.out]
                      simp [within, Txn.live, *]
                    go_wp2_with (first | ((with_reducible refine (HK.out _).mono ?_); rintro e w' ⟨rfl, hw⟩; obtain rfl := hw.symm) | ((with_reducible refine (HW.out _).mono ?_); rintro e w' ⟨rfl, hw⟩; obtain rfl := hw.symm) | ((with_reducible refine (HN.out _).mono ?_); rintro e w' ⟨rfl, hw⟩; obtain rfl := hw.symm))
                    go_ret
                    exact ⟨by rw [HF.out]; rfl, HNB.out⟩
                  ·
                    go_upto_region 6 with (first | ((with_reducible refine (HK.out _).mono ?_); rintro e w' ⟨rfl, hw⟩; obtain rfl := hw.symm) | ((with_reducible refine (HW.out _).mono ?_); rintro e w' ⟨rfl, hw⟩; obtain rfl := hw.symm) | ((with_reducible refine (HN.out _).mono ?_); rintro e w' ⟨rfl, hw⟩; obtain rfl := hw.symm))
                    have p0 : (wx.alloc (.cells #[.bool (X.st.txs t.toNat).begun, .bool (X.st.txs t.toNat).over, .bool (X.st.txs t.toNat).comm, .int .i64 (X.st.txs t.toNat).inst, .slice (some ⟨P.rd t.toNat, 0, none⟩) 16 16, .slice (some ⟨P.wb t.toNat, 0, none⟩) 16 16, .slice (some ⟨P.vb t.toNat, 0, none⟩) 16 16, .int .i64 (X.made t.toNat), .int .i64 (X.turn t.toNat)] 93)).cell? ⟨nr + 1, 0, none⟩ = some (.int .i64 d) := (World.cell?_alloc_lt _ _ _ hnrl).trans o0
                    have HNB := Lib.hid (HNB.out.alloc (.cells #[.bool (X.st.txs t.toNat).begun, .bool (X.st.txs t.toNat).over, .bool (X.st.txs t.toNat).comm, .int .i64 (X.st.txs t.toNat).inst, .slice (some ⟨P.rd t.toNat, 0, none⟩) 16 16, .slice (some ⟨P.wb t.toNat, 0, none⟩) 16 16, .slice (some ⟨P.vb t.toNat, 0, none⟩) 16 16, .int .i64 (X.made t.toNat), .int .i64 (X.turn t.toNat)] 93))
                    have hnl : (wx.alloc (.cells #[.bool (X.st.txs t.toNat).begun, .bool (X.st.txs t.toNat).over, .bool (X.st.txs t.toNat).comm, .int .i64 (X.st.txs t.toNat).inst, .slice (some ⟨P.rd t.toNat, 0, none⟩) 16 16, .slice (some ⟨P.wb t.toNat, 0, none⟩) 16 16, .slice (some ⟨P.vb t.toNat, 0, none⟩) 16 16, .int .i64 (X.made t.toNat), .int .i64 (X.turn t.toNat)] 93)).heap[wx.heap.size]? = some (.cells #[.bool (X.st.txs t.toNat).begun, .bool (X.st.txs t.toNat).over, .bool (X.st.txs t.toNat).comm, .int .i64 (X.st.txs t.toNat).inst, .slice (some ⟨P.rd t.toNat, 0, none⟩) 16 16, .slice (some ⟨P.wb t.toNat, 0, none⟩) 16 16, .slice (some ⟨P.vb t.toNat, 0, none⟩) 16 16, .int .i64 (X.made t.toNat), .int .i64 (X.turn t.toNat)] 93) := heap_alloc_new wx _
                    clear a0 a1 a2 a3 a4 a5 a6 a7 a8 o0 o1 o2 o3 r0
                    generalize wx.alloc _ = wy at *
                    generalize wx.heap.size = nl at *
                    have s0 : wy.cell? ⟨nl, 0, none⟩ = some (.bool (X.st.txs t.toNat).begun) := by simp [World.cell?, hnl]
                    have s1 : wy.cell? ⟨nl, 1, none⟩ = some (.bool (X.st.txs t.toNat).over) := by simp [World.cell?, hnl]
                    clear hnl
                    by_cases dz : d = 0
                    · subst dz
                      cases hbg : (X.st.txs t.toNat).begun
                      · rw [hbg] at s0
                        have HF : Hid (E = 0) := by
                          show _ = _
                          rw [← HE.out]
                          simp [within, Txn.live, *]
                        go_wp2_with fail
                        go_ret
                        exact ⟨by rw [HF.out]; rfl, HNB.out⟩
                      · rw [hbg] at s0
                        have HF : Hid (E = 5) := by
                          show _ = _
                          rw [← HE.out]
                          simp [within, Txn.live, *]
                        go_wp2_with fail
                        go_ret
                        exact ⟨by rw [HF.out]; rfl, HNB.out⟩
                    · have dz' : (d == 0) = false := by simp [dz]
                      cases hbg : (X.st.txs t.toNat).begun
                      · rw [hbg] at s0
                        have HF : Hid (E = 6) := by
                          show _ = _
                          rw [← HE.out]
                          simp [within, Txn.live, *]
                        go_wp2_with fail
                        go_ret
                        exact ⟨by rw [HF.out]; rfl, HNB.out⟩
                      · rw [hbg] at s0
                        cases hov : (X.st.txs t.toNat).over
                        · rw [hov] at s1
                          have HF : Hid (E = 0) := by
                            show _ = _
                            rw [← HE.out]
                            simp [within, Txn.live, *]
                          go_wp2_with fail
                          go_ret
                          exact ⟨by rw [HF.out]; rfl, HNB.out⟩
                        · rw [hov] at s1
                          have HF : Hid (E = 6) := by
                            show _ = _
                            rw [← HE.out]
                            simp [within, Txn.live, *]
                          go_wp2_with fail
                          go_ret
                          exact ⟨by rw [HF.out]; rfl, HNB.out⟩
end
end Go.Proofs.Yteaeflmglppcdaa
