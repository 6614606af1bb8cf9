/- The reference: an operation is done. -/
import Derived.Test.YteaeflmglppcdaaT7
namespace Go.Proofs.Yteaeflmglppcdaa
open Go.RowKit Tx

theorem refused_no {st : St} {o : Tx.Op} (h : refusedE st o ≠ 0) : Tx.step st o = (⟨refusedE st o, 0⟩, st) := by
  unfold refusedE at h ⊢
  unfold Tx.step does
  by_cases h1 : within o.d 0 5 = true
  · by_cases h2 : fits o = true
    · by_cases h3 : o.d = 0
      · rw [h3] at h1
        simp only [h1, h2, h3, Bool.not_true, Bool.false_eq_true, if_false, if_true] at h ⊢
        unfold begin_
        cases hb : (st.txs o.t.toNat).begun with
        | true => simp
        | false => rw [hb] at h; simp at h
      · simp only [h1, h2, h3, Bool.not_true, Bool.false_eq_true, if_false] at h ⊢
        cases hl : (st.txs o.t.toNat).live with
        | true => rw [hl] at h; simp at h
        | false => simp
    · simp only [h1, h2, Bool.not_true, Bool.false_eq_true, Bool.not_false, if_false, if_true]
  · simp only [h1, Bool.not_false, if_true]
theorem refused_isC {X : XS} {o : Tx.Op} (h : refusedE X.st o ≠ 0) : isC X o = false := by
  cases hc : isC X o with
  | false => rfl
  | true =>
    unfold isC at hc
    simp only [Bool.and_eq_true, decide_eq_true_eq] at hc
    obtain ⟨⟨⟨⟨h1, h2⟩, h3⟩, h4⟩, _⟩ := hc
    refine absurd ?_ h
    unfold refusedE
    simp only [h1, h2, h4, Bool.not_true, Bool.false_eq_true, if_false]
    rw [if_neg (by omega)]
theorem refused_step {X : XS} {o : Tx.Op} (h : refusedE X.st o ≠ 0) : xstep X o = X := by
  unfold xstep
  rw [refused_isC h, refused_no h]
  rfl
theorem refused_yes {st : St} {o : Tx.Op} (h : refusedE st o = 0) : within o.d 0 5 = true ∧ fits o = true ∧ (o.d = 0 → (st.txs o.t.toNat).begun = false) ∧ (o.d ≠ 0 → (st.txs o.t.toNat).live = true) := by
  unfold refusedE at h
  by_cases h1 : within o.d 0 5 = true
  · by_cases h2 : fits o = true
    · refine ⟨h1, h2, fun h3 => ?_, fun h3 => ?_⟩
      · rw [h3] at h1
        simp only [h1, h2, h3, Bool.not_true, Bool.false_eq_true, if_false, if_true] at h
        cases hb : (st.txs o.t.toNat).begun with
        | true => rw [hb] at h; simp at h
        | false => rfl
      · simp only [h1, h2, h3, Bool.not_true, Bool.false_eq_true, if_false] at h
        cases hl : (st.txs o.t.toNat).live with
        | true => rfl
        | false => rw [hl] at h; simp at h
    · simp only [h1, h2, Bool.not_true, Bool.false_eq_true, Bool.not_false, if_false, if_true] at h
      omega
  · simp only [h1, Bool.not_false, if_true] at h
    omega
/-- What Do leaves. -/
def DoPost (w : World) (P : RP) (a : Ans) (X' : XS) (e : Ending) (w' : World) : Prop :=
  ∃ P', e = .returned (.tuple #[.agg #[.int .i64 a.e, .int .i64 a.n], runV P' X']) ∧ RRep w' P' X' ∧ Chg (fun b => P.lab b ≠ 0) w w' ∧ ∀ b, P'.lab b ≠ 0 → P.lab b ≠ 0 ∨ w.heap.size ≤ b
/-- Four cells behind a store elsewhere. -/
theorem four_set {w : World} {b1 b2 i1 i2 i3 i4 : Nat} {v1 v2 v3 v4 : Value} (h : w.cell? ⟨b1, i1, none⟩ = some v1 ∧ w.cell? ⟨b1, i2, none⟩ = some v2 ∧ w.cell? ⟨b2, i3, none⟩ = some v3 ∧ w.cell? ⟨b2, i4, none⟩ = some v4) {b k : Nat} (v : Value) (h1 : b1 ≠ b) (h2 : b2 ≠ b) :
    (w.setCell ⟨b, k, none⟩ v).cell? ⟨b1, i1, none⟩ = some v1 ∧ (w.setCell ⟨b, k, none⟩ v).cell? ⟨b1, i2, none⟩ = some v2 ∧ (w.setCell ⟨b, k, none⟩ v).cell? ⟨b2, i3, none⟩ = some v3 ∧ (w.setCell ⟨b, k, none⟩ v).cell? ⟨b2, i4, none⟩ = some v4 := by
  refine ⟨?_, ?_, ?_, ?_⟩
  · rw [cell_set_other (p := ⟨b1, i1, none⟩) (a := ⟨b, k, none⟩) h1]; exact h.1
  · rw [cell_set_other (p := ⟨b1, i2, none⟩) (a := ⟨b, k, none⟩) h1]; exact h.2.1
  · rw [cell_set_other (p := ⟨b2, i3, none⟩) (a := ⟨b, k, none⟩) h2]; exact h.2.2.1
  · rw [cell_set_other (p := ⟨b2, i4, none⟩) (a := ⟨b, k, none⟩) h2]; exact h.2.2.2
/-- The results are stored. -/
def endW (wk : World) (d nz : Nat) (a0 a1 v0 v1 v2 v3 : Value) : World :=
  ((((((wk.setCell ⟨d, 0, none⟩ a0).setCell ⟨d, 1, none⟩ a1).setCell ⟨nz, 0, none⟩ v0).setCell ⟨nz, 1, none⟩ v1).setCell ⟨nz, 2, none⟩ v2).setCell ⟨nz, 3, none⟩ v3).drew
theorem end_cells {wk : World} {d nz : Nat} {fA fZ : Nat → Value} (a0 a1 v0 v1 v2 v3 : Value) (hA : Blk wk d 49 2 fA) (hZ : Blk wk nz 79 4 fZ) (hne : d ≠ nz) :
    (endW wk d nz a0 a1 v0 v1 v2 v3).cell? ⟨d, 0, none⟩ = some a0 ∧ (endW wk d nz a0 a1 v0 v1 v2 v3).cell? ⟨d, 1, none⟩ = some a1 ∧ (endW wk d nz a0 a1 v0 v1 v2 v3).cell? ⟨nz, 0, none⟩ = some v0 ∧
    (endW wk d nz a0 a1 v0 v1 v2 v3).cell? ⟨nz, 1, none⟩ = some v1 ∧ (endW wk d nz a0 a1 v0 v1 v2 v3).cell? ⟨nz, 2, none⟩ = some v2 ∧ (endW wk d nz a0 a1 v0 v1 v2 v3).cell? ⟨nz, 3, none⟩ = some v3 ∧
    Chg (fun b => b = d ∨ b = nz) wk (endW wk d nz a0 a1 v0 v1 v2 v3) := by
  have hA2 := ((((((hA.set 0 a0).set 1 a1).set_other (a := ⟨nz, 0, none⟩) hne v0).set_other (a := ⟨nz, 1, none⟩) hne v1).set_other (a := ⟨nz, 2, none⟩) hne v2).set_other (a := ⟨nz, 3, none⟩) hne v3).drew
  have hZ2 := ((((((hZ.set_other (a := ⟨d, 0, none⟩) hne.symm a0).set_other (a := ⟨d, 1, none⟩) hne.symm a1).set 0 v0).set 1 v1).set 2 v2).set 3 v3).drew
  exact ⟨hA2.cell (by decide), hA2.cell (by decide), hZ2.cell (by decide), hZ2.cell (by decide), hZ2.cell (by decide), hZ2.cell (by decide),
    (((((((Chg.refl (fun b => b = d ∨ b = nz) wk).setCell (fun _ => .inl rfl) _).setCell (fun _ => .inl rfl) _).setCell (fun _ => .inr rfl) _).setCell (fun _ => .inr rfl) _).setCell (fun _ => .inr rfl) _).setCell (fun _ => .inr rfl) _).drew⟩
theorem do_end {w wk W : World} {P P' : RP} {X' : XS} {d nz : Nat} (hR : RRep wk P' X') (hC : Chg (fun b => P.lab b ≠ 0) w wk) (hL : ∀ b, P'.lab b ≠ 0 → P.lab b ≠ 0 ∨ w.heap.size ≤ b) (hW : Chg (fun b => b = d ∨ b = nz) wk W)
    (hd : P'.lab d = 0) (hz : P'.lab nz = 0) (hd2 : w.heap.size ≤ d) (hz2 : w.heap.size ≤ nz) (a : Ans) : DoPost w P a X' (.returned (.tuple #[.agg #[.int .i64 a.e, .int .i64 a.n], runV P' X'])) W :=
  ⟨P', rfl, hR.kept hW (fun b hb e => e.elim (fun e => hb (by rw [e]; exact hd)) (fun e => hb (by rw [e]; exact hz))), hC.then hW (fun i hi e => e.elim (fun e => by omega) (fun e => by omega)), hL⟩
section
variable {w : World} {P : RP} {X : XS}
set_option maxRecDepth 100000 in
set_option maxHeartbeats 4000000 in
theorem do_no (hR : RRep w P X) (d t k n : Int) (hE : refusedE X.st ⟨d, t, k, n⟩ ≠ 0) :
    Calls Try.prog 51 #[runV P X, .agg #[.int .i64 d, .int .i64 t, .int .i64 k, .int .i64 n]] w (DoPost w P ⟨refusedE X.st ⟨d, t, k, n⟩, 0⟩ X) := by
  obtain ⟨E, hEE⟩ : ∃ E, refusedE X.st ⟨d, t, k, n⟩ = E := ⟨_, rfl⟩
  rw [hEE] at hE ⊢
  have HR := Lib.hid hR
  have HREF := fun (w' : World) (h : New w w') => refused_any (hR.new h) ⟨d, t, k, n⟩
  have HREF := Lib.hid HREF
  clear hR
  unfold runV at HREF
  unfold runV
  go_enter Try.func51, Try.ntmps51
  go_upto_region 1 with fail
  have hNa : New w ((((w.alloc (.cells #[.slice (some ⟨P.ga, 0, none⟩) 16 P.ca, .slice (some ⟨P.gW, 0, none⟩) X.st.insts.length P.cW, .slice (some ⟨P.gC, 0, none⟩) X.st.insts.length P.cC, .int .i64 X.commits] 79)).alloc (.cells #[.int .i64 d, .int .i64 t, .int .i64 k, .int .i64 n] 47)).alloc (.cells #[.int .i64 0, .int .i64 0] 49)).alloc (.cells #[.slice none 0 0, .slice none 0 0, .slice none 0 0, .int .i64 0] 79)) := ((((Chg.refl _ w).alloc _).alloc _).alloc _).alloc _
  have hBR : Blk ((((w.alloc (.cells #[.slice (some ⟨P.ga, 0, none⟩) 16 P.ca, .slice (some ⟨P.gW, 0, none⟩) X.st.insts.length P.cW, .slice (some ⟨P.gC, 0, none⟩) X.st.insts.length P.cC, .int .i64 X.commits] 79)).alloc (.cells #[.int .i64 d, .int .i64 t, .int .i64 k, .int .i64 n] 47)).alloc (.cells #[.int .i64 0, .int .i64 0] 49)).alloc (.cells #[.slice none 0 0, .slice none 0 0, .slice none 0 0, .int .i64 0] 79)) w.heap.size 79 4 (nth [.slice (some ⟨P.ga, 0, none⟩) 16 P.ca, .slice (some ⟨P.gW, 0, none⟩) X.st.insts.length P.cW, .slice (some ⟨P.gC, 0, none⟩) X.st.insts.length P.cC, .int .i64 X.commits]) := (((Blk.ofL w _ 79).alloc _).alloc _).alloc _
  have hBO : Blk ((((w.alloc (.cells #[.slice (some ⟨P.ga, 0, none⟩) 16 P.ca, .slice (some ⟨P.gW, 0, none⟩) X.st.insts.length P.cW, .slice (some ⟨P.gC, 0, none⟩) X.st.insts.length P.cC, .int .i64 X.commits] 79)).alloc (.cells #[.int .i64 d, .int .i64 t, .int .i64 k, .int .i64 n] 47)).alloc (.cells #[.int .i64 0, .int .i64 0] 49)).alloc (.cells #[.slice none 0 0, .slice none 0 0, .slice none 0 0, .int .i64 0] 79)) (w.heap.size + 1) 47 4 (nth [.int .i64 d, .int .i64 t, .int .i64 k, .int .i64 n]) := by
    have := ((Blk.ofL (w.alloc (.cells #[.slice (some ⟨P.ga, 0, none⟩) 16 P.ca, .slice (some ⟨P.gW, 0, none⟩) X.st.insts.length P.cW, .slice (some ⟨P.gC, 0, none⟩) X.st.insts.length P.cC, .int .i64 X.commits] 79)) [.int .i64 d, .int .i64 t, .int .i64 k, .int .i64 n] 47).alloc (.cells #[.int .i64 0, .int .i64 0] 49)).alloc (.cells #[.slice none 0 0, .slice none 0 0, .slice none 0 0, .int .i64 0] 79)
    rwa [World.size_alloc] at this
  have hBA : Blk ((((w.alloc (.cells #[.slice (some ⟨P.ga, 0, none⟩) 16 P.ca, .slice (some ⟨P.gW, 0, none⟩) X.st.insts.length P.cW, .slice (some ⟨P.gC, 0, none⟩) X.st.insts.length P.cC, .int .i64 X.commits] 79)).alloc (.cells #[.int .i64 d, .int .i64 t, .int .i64 k, .int .i64 n] 47)).alloc (.cells #[.int .i64 0, .int .i64 0] 49)).alloc (.cells #[.slice none 0 0, .slice none 0 0, .slice none 0 0, .int .i64 0] 79)) (w.heap.size + 2) 49 2 (nth [.int .i64 0, .int .i64 0]) := by
    have := (Blk.ofL ((w.alloc (.cells #[.slice (some ⟨P.ga, 0, none⟩) 16 P.ca, .slice (some ⟨P.gW, 0, none⟩) X.st.insts.length P.cW, .slice (some ⟨P.gC, 0, none⟩) X.st.insts.length P.cC, .int .i64 X.commits] 79)).alloc (.cells #[.int .i64 d, .int .i64 t, .int .i64 k, .int .i64 n] 47)) [.int .i64 0, .int .i64 0] 49).alloc (.cells #[.slice none 0 0, .slice none 0 0, .slice none 0 0, .int .i64 0] 79)
    rwa [World.size_alloc, World.size_alloc] at this
  have hBZ : Blk ((((w.alloc (.cells #[.slice (some ⟨P.ga, 0, none⟩) 16 P.ca, .slice (some ⟨P.gW, 0, none⟩) X.st.insts.length P.cW, .slice (some ⟨P.gC, 0, none⟩) X.st.insts.length P.cC, .int .i64 X.commits] 79)).alloc (.cells #[.int .i64 d, .int .i64 t, .int .i64 k, .int .i64 n] 47)).alloc (.cells #[.int .i64 0, .int .i64 0] 49)).alloc (.cells #[.slice none 0 0, .slice none 0 0, .slice none 0 0, .int .i64 0] 79)) (w.heap.size + 3) 79 4 (nth [.slice none 0 0, .slice none 0 0, .slice none 0 0, .int .i64 0]) := by
    have := Blk.ofL (((w.alloc (.cells #[.slice (some ⟨P.ga, 0, none⟩) 16 P.ca, .slice (some ⟨P.gW, 0, none⟩) X.st.insts.length P.cW, .slice (some ⟨P.gC, 0, none⟩) X.st.insts.length P.cC, .int .i64 X.commits] 79)).alloc (.cells #[.int .i64 d, .int .i64 t, .int .i64 k, .int .i64 n] 47)).alloc (.cells #[.int .i64 0, .int .i64 0] 49)) [.slice none 0 0, .slice none 0 0, .slice none 0 0, .int .i64 0] 79
    rwa [World.size_alloc, World.size_alloc, World.size_alloc] at this
  have hlab : ∀ i, P.lab (w.heap.size + i) = 0 := fun i => HR.out.hi _ (by omega)
  have HBR := Lib.hid hBR; have HBO := Lib.hid hBO; have HBA := Lib.hid hBA; have HBZ := Lib.hid hBZ; have HNa := Lib.hid hNa
  clear hBR hBO hBA hBZ hNa
  generalize (((w.alloc _).alloc _).alloc _).alloc _ = w1 at *
  generalize hnr : w.heap.size = nr at *
  have r0 : w1.cell? ⟨nr, 0, none⟩ = some (.slice (some ⟨P.ga, 0, none⟩) 16 P.ca) := HBR.out.cell (by decide)
  have r1 : w1.cell? ⟨nr, 1, none⟩ = some (.slice (some ⟨P.gW, 0, none⟩) X.st.insts.length P.cW) := HBR.out.cell (by decide)
  have r2 : w1.cell? ⟨nr, 2, none⟩ = some (.slice (some ⟨P.gC, 0, none⟩) X.st.insts.length P.cC) := HBR.out.cell (by decide)
  have r3 : w1.cell? ⟨nr, 3, none⟩ = some (.int .i64 X.commits) := HBR.out.cell (by decide)
  have o0 : w1.cell? ⟨(nr + 1), 0, none⟩ = some (.int .i64 d) := HBO.out.cell (by decide)
  have o1 : w1.cell? ⟨(nr + 1), 1, none⟩ = some (.int .i64 t) := HBO.out.cell (by decide)
  have o2 : w1.cell? ⟨(nr + 1), 2, none⟩ = some (.int .i64 k) := HBO.out.cell (by decide)
  have o3 : w1.cell? ⟨(nr + 1), 3, none⟩ = some (.int .i64 n) := HBO.out.cell (by decide)
  rw [hEE] at HREF
  have hE1 : (E == 0) = false := by simp [hE]
  clear hEE
  go_upto_region 3 with ((with_reducible refine (HREF.out _ HNa.out).mono ?_); rintro e w2 ⟨rfl, hN2⟩; have HN2 := Lib.hid hN2; clear hN2; have HBR2 := Lib.hid (HBR.out.chg HN2.out (fun h => h)); have HBA2 := Lib.hid (HBA.out.chg HN2.out (fun h => h)); have HBZ2 := Lib.hid (HBZ.out.chg HN2.out (fun h => h)))
  clear r0 r1 r2 r3 o0 o1 o2 o3
  have r0 : w2.cell? ⟨nr, 0, none⟩ = some (.slice (some ⟨P.ga, 0, none⟩) 16 P.ca) := HBR2.out.cell (by decide)
  have r1 : w2.cell? ⟨nr, 1, none⟩ = some (.slice (some ⟨P.gW, 0, none⟩) X.st.insts.length P.cW) := HBR2.out.cell (by decide)
  have r2 : w2.cell? ⟨nr, 2, none⟩ = some (.slice (some ⟨P.gC, 0, none⟩) X.st.insts.length P.cC) := HBR2.out.cell (by decide)
  have r3 : w2.cell? ⟨nr, 3, none⟩ = some (.int .i64 X.commits) := HBR2.out.cell (by decide)
  have z0 : w2.cell? ⟨nr + 2, 0, none⟩ = some (.int .i64 0) := HBA2.out.cell (by decide)
  have z1 : w2.cell? ⟨nr + 2, 1, none⟩ = some (.int .i64 0) := HBA2.out.cell (by decide)
  have zf := HBA2.out.free 0
  have zf1 := HBA2.out.free 1
  have y0 : w2.cell? ⟨nr + 3, 0, none⟩ = some (.slice none 0 0) := HBZ2.out.cell (by decide)
  have y1 : w2.cell? ⟨nr + 3, 1, none⟩ = some (.slice none 0 0) := HBZ2.out.cell (by decide)
  have y2 : w2.cell? ⟨nr + 3, 2, none⟩ = some (.slice none 0 0) := HBZ2.out.cell (by decide)
  have y3 : w2.cell? ⟨nr + 3, 3, none⟩ = some (.int .i64 0) := HBZ2.out.cell (by decide)
  have yf0 := HBZ2.out.free 0; have yf1 := HBZ2.out.free 1; have yf2 := HBZ2.out.free 2; have yf3 := HBZ2.out.free 3
  apply wp_once
  case h1 =>
    go_region_law (fail)
    all_goals exact ⟨rfl, rfl⟩
  obtain ⟨g0, g1, h0, h1, h2, h3, HE⟩ := end_cells (.int .i64 E) (.int .i64 0) (.slice (some ⟨P.ga, 0, none⟩) 16 P.ca) (.slice (some ⟨P.gW, 0, none⟩) X.st.insts.length P.cW) (.slice (some ⟨P.gC, 0, none⟩) X.st.insts.length P.cC) (.int .i64 X.commits) (d := nr + 1 + 1) (nz := nr + 1 + 1 + 1) HBA2.out HBZ2.out (by omega)
  unfold endW at g0 g1 h0 h1 h2 h3 HE
  have HE := Lib.hid HE
  clear r0 r1 r2 r3 z0 z1 zf zf1 y0 y1 y2 y3 yf0 yf1 yf2 yf3
  generalize World.drew _ = w3 at *
  go_wp2_with fail
  refine bodyPost_ret (results4979 rfl rfl rfl g0 g1 h0 h1 h2 h3) rfl ?_
  exact do_end (HR.out.new (HNa.out.trans HN2.out)) ((HNa.out.trans HN2.out).mono (fun _ _ h => absurd h id)) (fun b h => .inl h) HE.out (hlab 2) (hlab 3) (by omega) (by omega) ⟨E, 0⟩
end
end Go.Proofs.Yteaeflmglppcdaa
