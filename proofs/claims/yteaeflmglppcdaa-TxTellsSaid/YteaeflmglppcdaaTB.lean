/- The reference: all operations are done. -/
import Derived.Test.YteaeflmglppcdaaT9
import Derived.Test.YteaeflmglppcdaaTA
namespace Go.Proofs.Yteaeflmglppcdaa
open Go.RowKit Tx

theorem results_cell_tmp_tmp {fn : Func} {p u v : Tmp} {ty : TypeId} (h : fn.results = #[.cell p ty, .tmp u, .tmp v]) (tmps : Array Value) (P : Program) (w : World) :
    (results fn tmps).run P w = ((asAddr (tmps.getD p undef)).run P w).andThen fun a w₁ => ((loadVar ty a).run P w₁).andThen fun x w₂ => .ok (.tuple #[x, tmps.getD u undef, tmps.getD v undef]) w₂ := by
  simp only [results, h]
  simp [Sem.run_bind, Result.andThen]
theorem results79tt {fn : Func} {p u v : Tmp} (h : fn.results = #[.cell p 79, .tmp u, .tmp v]) {tmps : Array Value} {w : World} {b : Nat} {v0 v1 v2 v3 : Value} (hp : tmps.getD p undef = .pointer (some ⟨b, 0, none⟩))
    (h0 : w.cell? ⟨b, 0, none⟩ = some v0) (h1 : w.cell? ⟨b, 1, none⟩ = some v1) (h2 : w.cell? ⟨b, 2, none⟩ = some v2) (h3 : w.cell? ⟨b, 3, none⟩ = some v3) :
    (results fn tmps).run Try.prog w = .ok (.tuple #[.agg #[v0, v1, v2, v3], tmps.getD u undef, tmps.getD v undef]) w := by
  rw [results_cell_tmp_tmp h, hp]
  simp [asAddr, run_load79 h0 h1 h2 h3, Result.andThen]
theorem xstep_commits (X : XS) (o : Tx.Op) : (xstep X o).commits ≤ X.commits + 1 := by
  unfold xstep
  split
  · exact Nat.le_refl _
  · exact Nat.le_succ _
theorem xrun_commits (l : List Tx.Op) : ∀ X : XS, (xrun X l).commits ≤ X.commits + l.length := by
  induction l with
  | nil => intro X; exact Nat.le_refl _
  | cons o l ih =>
    intro X
    have h1 := ih (xstep X o)
    have h2 := xstep_commits X o
    simp only [List.length_cons]
    show (xrun (xstep X o) l).commits ≤ _
    omega
/-- The reference's state behind a script. -/
def xall (ops : List Tx.Op) : XS := xrun XS.zero ops
theorem xall_st (ops : List Tx.Op) : (xall ops).st = (Tx.run St.zero ops).2 := xrun_st ops XS.zero
theorem xall_inv (ops : List Tx.Op) : XInv (xall ops) := XInv.run ops XInv.begin0
theorem xall_commits (ops : List Tx.Op) : (xall ops).commits ≤ ops.length := by
  have := xrun_commits ops XS.zero
  have h0 : XS.zero.commits = 0 := rfl
  unfold xall
  omega
theorem xall_good (ops : List Tx.Op) : Good (xall ops).st ops.length := by
  rw [xall_st]
  have := Good.zero.run (l := ops)
  rwa [Nat.zero_add] at this
theorem xall_take {ops : List Tx.Op} {j : Nat} {o : Tx.Op} (h : ops[j]? = some o) : xall (ops.take (j + 1)) = xstep (xall (ops.take j)) o := by
  have hlt := (List.getElem?_eq_some_iff.1 h).1
  unfold xall
  rw [List.take_succ_eq_append_getElem hlt, (List.getElem?_eq_some_iff.1 h).2, xrun_snoc]
def runL (P : RP) (X : XS) : List Value :=
  [.slice (some ⟨P.ga, 0, none⟩) 16 P.ca, .slice (some ⟨P.gW, 0, none⟩) X.st.insts.length P.cW, .slice (some ⟨P.gC, 0, none⟩) X.st.insts.length P.cC, .int .i64 X.commits]
theorem runV_eq (P : RP) (X : XS) : runV P X = .agg (runL P X).toArray := rfl
/-- What there is behind j operations. -/
structure AInv (w wr : World) (nz nb j : Nat) (va : Value) (ops : List Tx.Op) (P : RP) : Prop where
  rep : RRep wr P (xall (ops.take j))
  bR : Blk wr nb 79 4 (nth (runL P (xall (ops.take j))))
  bZ : Blk wr nz 79 4 (nth [.slice none 0 0, .slice none 0 0, .slice none 0 0, .int .i64 0])
  lR : P.lab nb = 0
  lZ : P.lab nz = 0
  ne : nb ≠ nz
  row : wr.ownsRow 0 49 2 va j (ansRow (Tx.run St.zero (ops.take j)).1)
  own : ∀ g, va.ownBlock = some g → w.heap.size ≤ g ∧ P.lab g = 0 ∧ g ≠ nb ∧ g ≠ nz
  new : ∀ b, P.lab b ≠ 0 → w.heap.size ≤ b
  gR : w.heap.size ≤ nb
  gZ : w.heap.size ≤ nz
  chg : New w wr
/-- Eight cells, behind whatever leaves their blocks alone. -/
theorem eight {w w' : World} {b1 b2 o : Nat} {v0 v1 v2 v3 u0 u1 u2 u3 : Value} {S : Nat → Prop}
    (h : w.cell? ⟨b1, 0, none⟩ = some v0 ∧ w.cell? ⟨b1, 1, none⟩ = some v1 ∧ w.cell? ⟨b1, 2, none⟩ = some v2 ∧ w.cell? ⟨b1, 3, none⟩ = some v3 ∧ w.cell? ⟨b2, o, none⟩ = some u0 ∧ w.cell? ⟨b2, o + 1, none⟩ = some u1 ∧ w.cell? ⟨b2, o + 2, none⟩ = some u2 ∧ w.cell? ⟨b2, o + 3, none⟩ = some u3)
    (hC : Chg S w w') (h1 : ¬ S b1) (h2 : ¬ S b2) :
    w'.cell? ⟨b1, 0, none⟩ = some v0 ∧ w'.cell? ⟨b1, 1, none⟩ = some v1 ∧ w'.cell? ⟨b1, 2, none⟩ = some v2 ∧ w'.cell? ⟨b1, 3, none⟩ = some v3 ∧ w'.cell? ⟨b2, o, none⟩ = some u0 ∧ w'.cell? ⟨b2, o + 1, none⟩ = some u1 ∧ w'.cell? ⟨b2, o + 2, none⟩ = some u2 ∧ w'.cell? ⟨b2, o + 3, none⟩ = some u3 := by
  have k1 : ∀ i v, w.cell? ⟨b1, i, none⟩ = some v → w'.cell? ⟨b1, i, none⟩ = some v := fun i v hv => (hC.cell (a := ⟨b1, i, none⟩) (World.block_lt_of_cell? w _ hv) h1).trans hv
  have k2 : ∀ i v, w.cell? ⟨b2, i, none⟩ = some v → w'.cell? ⟨b2, i, none⟩ = some v := fun i v hv => (hC.cell (a := ⟨b2, i, none⟩) (World.block_lt_of_cell? w _ hv) h2).trans hv
  exact ⟨k1 _ _ h.1, k1 _ _ h.2.1, k1 _ _ h.2.2.1, k1 _ _ h.2.2.2.1, k2 _ _ h.2.2.2.2.1, k2 _ _ h.2.2.2.2.2.1, k2 _ _ h.2.2.2.2.2.2.1, k2 _ _ h.2.2.2.2.2.2.2⟩
/-- Six cells, behind whatever leaves their blocks alone. -/
theorem six {w w' : World} {b1 b2 : Nat} {v0 v1 v2 v3 u0 u1 : Value} {S : Nat → Prop}
    (h : w.cell? ⟨b1, 0, none⟩ = some v0 ∧ w.cell? ⟨b1, 1, none⟩ = some v1 ∧ w.cell? ⟨b1, 2, none⟩ = some v2 ∧ w.cell? ⟨b1, 3, none⟩ = some v3 ∧ w.cell? ⟨b2, 0, none⟩ = some u0 ∧ w.cell? ⟨b2, 1, none⟩ = some u1)
    (hC : Chg S w w') (h1 : ¬ S b1) (h2 : ¬ S b2) :
    w'.cell? ⟨b1, 0, none⟩ = some v0 ∧ w'.cell? ⟨b1, 1, none⟩ = some v1 ∧ w'.cell? ⟨b1, 2, none⟩ = some v2 ∧ w'.cell? ⟨b1, 3, none⟩ = some v3 ∧ w'.cell? ⟨b2, 0, none⟩ = some u0 ∧ w'.cell? ⟨b2, 1, none⟩ = some u1 := by
  have k1 : ∀ i v, w.cell? ⟨b1, i, none⟩ = some v → w'.cell? ⟨b1, i, none⟩ = some v := fun i v hv => (hC.cell (a := ⟨b1, i, none⟩) (World.block_lt_of_cell? w _ hv) h1).trans hv
  have k2 : ∀ i v, w.cell? ⟨b2, i, none⟩ = some v → w'.cell? ⟨b2, i, none⟩ = some v := fun i v hv => (hC.cell (a := ⟨b2, i, none⟩) (World.block_lt_of_cell? w _ hv) h2).trans hv
  exact ⟨k1 _ _ h.1, k1 _ _ h.2.1, k1 _ _ h.2.2.1, k1 _ _ h.2.2.2.1, k2 _ _ h.2.2.2.2.1, k2 _ _ h.2.2.2.2.2⟩
theorem Blk.set2 {w : World} {b : Nat} {T : TypeId} {f : Nat → Value} (h : Blk w b T 2 f) (v0 v1 : Value) : Blk ((w.setCell ⟨b, 0, none⟩ v0).setCell ⟨b, 1, none⟩ v1) b T 2 (nth [v0, v1]) :=
  ((h.set 0 v0).set 1 v1).congr (fun i hi => by
    have : i = 0 ∨ i = 1 := by omega
    rcases this with rfl | rfl <;> rfl)
theorem Blk.set4 {w : World} {b : Nat} {T : TypeId} {f : Nat → Value} (h : Blk w b T 4 f) (v0 v1 v2 v3 : Value) :
    Blk ((((w.setCell ⟨b, 0, none⟩ v0).setCell ⟨b, 1, none⟩ v1).setCell ⟨b, 2, none⟩ v2).setCell ⟨b, 3, none⟩ v3) b T 4 (nth [v0, v1, v2, v3]) :=
  ((((h.set 0 v0).set 1 v1).set 2 v2).set 3 v3).congr (fun i hi => by
    have : i = 0 ∨ i = 1 ∨ i = 2 ∨ i = 3 := by omega
    rcases this with rfl | rfl | rfl | rfl <;> rfl)
theorem AInv.next {w wr W w6 : World} {nz nb j g6 cap6 : Nat} {u : Value} {ops : List Tx.Op} {P P' : RP} {X2 : XS} {z : Ans} (h : AInv w wr nz nb j u ops P) (hX : xall (ops.take (j + 1)) = X2) (hA : (Tx.run St.zero (ops.take (j + 1))).1 = (Tx.run St.zero (ops.take j)).1 ++ [z])
    (hR : RRep W P' X2) (hC : Chg (fun b => P.lab b ≠ 0) wr W) (hL : ∀ b, P'.lab b ≠ 0 → P.lab b ≠ 0 ∨ wr.heap.size ≤ b) (hrow : w6.ownsRow 0 49 2 (.slice (some ⟨g6, 0, none⟩) (j + 1) cap6) (j + 1) (ansRow (Tx.run St.zero (ops.take j)).1 ++ [.int .i64 z.e, .int .i64 z.n]))
    (hC6 : Chg (fun k => u.ownBlock = some k) W w6) (hat : u.ownBlock = some g6 ∨ W.heap.size < g6) :
    AInv w ((((w6.setCell ⟨nb, 0, none⟩ (.slice (some ⟨P'.ga, 0, none⟩) 16 P'.ca)).setCell ⟨nb, 1, none⟩ (.slice (some ⟨P'.gW, 0, none⟩) X2.st.insts.length P'.cW)).setCell ⟨nb, 2, none⟩ (.slice (some ⟨P'.gC, 0, none⟩) X2.st.insts.length P'.cC)).setCell ⟨nb, 3, none⟩ (.int .i64 X2.commits))
      nz nb (j + 1) (.slice (some ⟨g6, 0, none⟩) (j + 1) cap6) ops P' := by
  have hnb := h.bR.lt
  have hnz := h.bZ.lt
  have hs := hC.size
  have low : ∀ b, b < wr.heap.size → P.lab b = 0 → P'.lab b = 0 := fun b hb h0 => Decidable.byContradiction fun e => by
    rcases hL b e with h1 | h1
    · exact h1 h0
    · omega
  have hown : ∀ g, u.ownBlock = some g → g < wr.heap.size := fun g hg => (h.row.lt g hg).2
  have lR := low nb hnb h.lR
  have lZ := low nz hnz h.lZ
  have C7 : Chg (fun k => k = nb) w6 ((((w6.setCell ⟨nb, 0, none⟩ (.slice (some ⟨P'.ga, 0, none⟩) 16 P'.ca)).setCell ⟨nb, 1, none⟩ (.slice (some ⟨P'.gW, 0, none⟩) X2.st.insts.length P'.cW)).setCell ⟨nb, 2, none⟩ (.slice (some ⟨P'.gC, 0, none⟩) X2.st.insts.length P'.cC)).setCell ⟨nb, 3, none⟩ (.int .i64 X2.commits)) :=
    ((((Chg.refl (fun k => k = nb) w6).setCell (fun _ => rfl) _).setCell (fun _ => rfl) _).setCell (fun _ => rfl) _).setCell (fun _ => rfl) _
  have ug : ∀ g, u.ownBlock = some g → P'.lab g = 0 := fun g hg => low g (hown g hg) (h.own g hg).2.1
  have g6p : w.heap.size ≤ g6 ∧ P'.lab g6 = 0 ∧ g6 ≠ nb ∧ g6 ≠ nz := by
    rcases hat with e | e
    · obtain ⟨q1, _, q3, q4⟩ := h.own g6 e
      exact ⟨q1, ug g6 e, q3, q4⟩
    · have := h.gR
      exact ⟨by omega, hR.hi _ (by omega), by omega, by omega⟩
  refine ⟨?_, ?_, ?_, lR, lZ, h.ne, ?_, fun g hg => ?_, fun b hb => ?_, h.gR, h.gZ, ?_⟩
  · rw [hX]
    exact (hR.kept hC6 (fun b hb e => hb (ug b e))).kept C7 (fun b hb e => hb (by rw [e]; exact lR))
  · rw [hX]
    exact Blk.set4 ((h.bR.chg hC (fun e => e h.lR)).chg hC6 (fun e => (h.own nb e).2.2.1 rfl)) _ _ _ _
  · exact ((h.bZ.chg hC (fun e => e h.lZ)).chg hC6 (fun e => (h.own nz e).2.2.2 rfl)).chg C7 (fun e => h.ne e.symm)
  · rw [hA, show ansRow ((Tx.run St.zero (ops.take j)).1 ++ [z]) = ansRow (Tx.run St.zero (ops.take j)).1 ++ [.int .i64 z.e, .int .i64 z.n] by simp [ansRow, ansCells]]
    exact C7.ownsRow hrow (fun k hk e => by simp [Value.ownBlock] at hk; exact g6p.2.2.1 (hk.trans e))
  · simp [Value.ownBlock] at hg
    rw [← hg]
    exact g6p
  · rcases hL b hb with h1 | h1
    · exact h.new b h1
    · have := h.chg.size
      omega
  · exact ((h.chg.then hC (fun i hi e => by have := h.new i e; omega)).then hC6 (fun i hi e => by have := (h.own i e).1; omega)).then C7 (fun i hi e => by have := h.gR; omega)
section
variable {w : World}
set_option maxRecDepth 100000 in
theorem all_no (a : Option Addr) (n c : Nat) (hl : 200 < n) (h63 : n ≤ maxLen) :
    Calls Try.prog 35 #[.slice a n c] w fun e w' => e = .returned (.tuple #[.agg #[.slice none 0 0, .slice none 0 0, .slice none 0 0, .int .i64 0], .slice none 0 0, .int .i64 3]) ∧ New w w' := by
  unfold maxLen at h63
  have hl2 : ¬ (n : Int) ≤ 200 := by omega
  have hl3 : (200 : Int) < (n : Int) := by omega
  have hl4 : (n : Int) ≤ 9223372036854775807 := by omega
  go_enter Try.func35, Try.ntmps35
  go_wp2_with fail
  have hB := Blk.ofL w [.slice none 0 0, .slice none 0 0, .slice none 0 0, .int .i64 0] 79
  exact bodyPost_ret (results79tt rfl rfl (hB.cell (by decide)) (hB.cell (by decide)) (hB.cell (by decide)) (hB.cell (by decide))) rfl ⟨rfl, (Chg.refl _ w).alloc _⟩
set_option maxRecDepth 100000 in
set_option maxHeartbeats 3000000 in
theorem all_any (a : Option Addr) (b off c : Nat) (ops : List Tx.Op) (hO : OpsAt w a b off ops) (hl : ops.length ≤ 200) :
    Calls Try.prog 35 #[.slice a ops.length c] w fun e w' => ∃ v P, e = .returned (.tuple #[runV P (xall ops), v, .int .i64 0]) ∧ RRep w' P (xall ops) ∧ New w w' ∧ w'.ownsRow 0 49 2 v ops.length (ansRow (Tx.run St.zero ops).1) ∧
      (∀ b, P.lab b ≠ 0 → w.heap.size ≤ b) ∧ ∀ g, v.ownBlock = some g → w.heap.size ≤ g := by
  have hl2 : (ops.length : Int) ≤ 200 := by omega
  have hbl : ops ≠ [] → b < w.heap.size := hO.lt
  have HBL := Lib.hid hbl; have HO := Lib.hid hO
  clear hbl hO
  go_enter Try.func35, Try.ntmps35
  have hN1 : New w (w.alloc (.cells #[.slice none 0 0, .slice none 0 0, .slice none 0 0, .int .i64 0] 79)) := (Chg.refl _ w).alloc _
  have hBZ1 := Blk.ofL w [.slice none 0 0, .slice none 0 0, .slice none 0 0, .int .i64 0] 79
  have hsz1 : (w.alloc (.cells #[.slice none 0 0, .slice none 0 0, .slice none 0 0, .int .i64 0] 79)).heap.size = w.heap.size + 1 := World.size_alloc _ _
  have HN1 := Lib.hid hN1; have HBZ1 := Lib.hid hBZ1; have HSZ1 := Lib.hid hsz1
  clear hN1 hBZ1 hsz1
  have HST : Hid (∀ w : World, Calls Try.prog 50 #[] w fun e w' => ∃ P, e = .returned (.agg #[.slice (some ⟨P.ga, 0, none⟩) 16 P.ca, .slice (some ⟨P.gW, 0, none⟩) (xall []).st.insts.length P.cW, .slice (some ⟨P.gC, 0, none⟩) (xall []).st.insts.length P.cC, .int .i64 (xall []).commits]) ∧ RRep w' P (xall []) ∧ New w w' ∧ ∀ b, P.lab b ≠ 0 → w.heap.size ≤ b) := fun w => by
    have h := start_any w
    unfold runV at h
    exact h
  go_upto_region 4 with ((with_reducible refine (HST.out _).mono ?_); rintro e w2 ⟨P0, rfl, hR2, hN2, hL2⟩; have HR2 := Lib.hid hR2; have HN2 := Lib.hid hN2; have HL2 := Lib.hid hL2; clear hR2 hN2 hL2)
  have HBZ2 := Lib.hid (HBZ1.out.chg HN2.out (fun h => h))
  have HA : Hid (AInv w (w2.alloc (.cells (runL P0 (xall [])).toArray 79)) w.heap.size w2.heap.size 0 (.slice none 0 0) ops P0) := by
    have hz := HBZ2.out.lt
    have hs := HN2.out.size
    rw [HSZ1.out] at hs
    refine Lib.hid ⟨HR2.out.new ((Chg.refl _ _).alloc _), Blk.ofL w2 _ 79, HBZ2.out.alloc _, HR2.out.hi _ (Nat.le_refl _), ?_, by omega, World.ownsRow_nil _ _ _ _, fun g hg => by simp [Value.ownBlock] at hg, fun b hb => ?_, by omega, Nat.le_refl _, (HN1.out.trans HN2.out).alloc _⟩
    · refine Decidable.byContradiction fun h => ?_
      have := HL2.out _ h
      rw [HSZ1.out] at this
      omega
    · have := HL2.out _ hb
      rw [HSZ1.out] at this
      omega
  unfold runL at HA
  clear HR2 HN2 HL2 HBZ2 HN1 HBZ1 HSZ1 HST
  generalize w2.alloc _ = w3 at *
  generalize w2.heap.size = nb at *
  go_wp2_with fail
  go_loopw [6, 7] (fun v6 v wr => ∃ j : Nat, j ≤ ops.length ∧ v = .int .i64 j ∧ ∃ P, AInv w wr w.heap.size nb j v6 ops P) (fun _ v _ => ops.length - (intOf v).toNat)
  case atStart => exact ⟨0, by omega, rfl, _, HA.out⟩
  case round =>
    obtain ⟨j, hj, rfl, P, hA⟩ := hrel
    have HAJ := Lib.hid hA
    clear hA HA
    by_cases hlt : j < ops.length
    · obtain ⟨o, ho⟩ : ∃ o, ops[j]? = some o := ⟨_, List.getElem?_eq_getElem hlt⟩
      have hne : ops ≠ [] := fun e => by rw [e] at hlt; simp at hlt
      obtain rfl := HO.out.ptr hne
      have hOr := HO.out.kept HAJ.out.chg (fun h => h)
      have x0 : wr.cell? ⟨b, off + j * 4, none⟩ = some (.int .i64 o.d) := hOr.cell j o ho 0 (by omega)
      have x1 : wr.cell? ⟨b, off + j * 4 + 1, none⟩ = some (.int .i64 o.t) := hOr.cell j o ho 1 (by omega)
      have x2 : wr.cell? ⟨b, off + j * 4 + 2, none⟩ = some (.int .i64 o.k) := hOr.cell j o ho 2 (by omega)
      have x3 : wr.cell? ⟨b, off + j * 4 + 3, none⟩ = some (.int .i64 o.n) := hOr.cell j o ho 3 (by omega)
      have b3 : (0 : Int) ≤ (j : Int) := by omega
      have b4 : (j : Int) < (ops.length : Int) := by omega
      have hblt : b < w.heap.size := HBL.out hne
      have HXO := Lib.hid (xall_take ho)
      have HAN : Hid (Tx.run St.zero (ops.take (j + 1)) = ((Tx.run St.zero (ops.take j)).1 ++ [(Tx.step (xall (ops.take j)).st o).1], (Tx.step (xall (ops.take j)).st o).2)) := by
        show _ = _
        rw [xall_st, List.take_succ_eq_append_getElem hlt, run_append, (List.getElem?_eq_some_iff.1 ho).2]
        simp [Tx.run]
      have hlj : (ops.take j).length = j := by rw [List.length_take]; omega
      have HG := Lib.hid (xall_good (ops.take j)); have HI := Lib.hid (xall_inv (ops.take j)); have HCM := Lib.hid (xall_commits (ops.take j))
      clear hOr ho
      generalize hX : xall (ops.take j) = X at *
      generalize hAns : (Tx.step X.st o).1 = z at *
      have HDO : Hid (∀ w', New wr w' → Calls Try.prog 51 #[.agg #[.slice (some ⟨P.ga, 0, none⟩) 16 P.ca, .slice (some ⟨P.gW, 0, none⟩) X.st.insts.length P.cW, .slice (some ⟨P.gC, 0, none⟩) X.st.insts.length P.cC, .int .i64 X.commits], .agg #[.int .i64 o.d, .int .i64 o.t, .int .i64 o.k, .int .i64 o.n]] w' fun e w'' =>
          ∃ P', e = .returned (.tuple #[.agg #[.int .i64 z.e, .int .i64 z.n], .agg #[.slice (some ⟨P'.ga, 0, none⟩) 16 P'.ca, .slice (some ⟨P'.gW, 0, none⟩) (xstep X o).st.insts.length P'.cW, .slice (some ⟨P'.gC, 0, none⟩) (xstep X o).st.insts.length P'.cC, .int .i64 (xstep X o).commits]]) ∧
            RRep w'' P' (xstep X o) ∧ Chg (fun b => P.lab b ≠ 0) w' w'' ∧ ∀ b, P'.lab b ≠ 0 → P.lab b ≠ 0 ∨ w'.heap.size ≤ b) := fun w' hn => by
        have hR := HAJ.out.rep
        rw [hX] at hR
        have hi := HG.out.insts
        rw [hlj] at hi
        have hc := HCM.out
        rw [hlj] at hc
        have h := do_any (hR.new hn) HI.out HG.out.inst (by omega) (by omega) o
        rw [hAns] at h
        exact h
      have HR := Lib.hid HAJ.out.rep
      have hbR := HAJ.out.bR
      rw [hX] at hbR
      unfold runL at hbR
      have HBR := Lib.hid hbR
      have hlnb : ¬ (P.lab nb ≠ 0) := fun h => h HAJ.out.lR
      have hlb : ¬ (P.lab b ≠ 0) := fun h => by have := HAJ.out.new b h; omega
      have r0 : wr.cell? ⟨nb, 0, none⟩ = some (.slice (some ⟨P.ga, 0, none⟩) 16 P.ca) := hbR.cell (by decide)
      have r1 : wr.cell? ⟨nb, 1, none⟩ = some (.slice (some ⟨P.gW, 0, none⟩) X.st.insts.length P.cW) := hbR.cell (by decide)
      have r2 : wr.cell? ⟨nb, 2, none⟩ = some (.slice (some ⟨P.gC, 0, none⟩) X.st.insts.length P.cC) := hbR.cell (by decide)
      have r3 : wr.cell? ⟨nb, 3, none⟩ = some (.int .i64 X.commits) := hbR.cell (by decide)
      have hnbl : nb < wr.heap.size := hbR.lt
      have hbl2 : b < wr.heap.size := Nat.lt_of_lt_of_le hblt HAJ.out.chg.size
      have hS0 := And.intro r0 (And.intro r1 (And.intro r2 (And.intro r3 (And.intro x0 (And.intro x1 (And.intro x2 x3))))))
      clear hbR
      go_upto_region 8 with fail
      generalize hsz : wr.heap.size = sz at *
      generalize hX2 : xstep X o = X2 at *
      apply wp_only (fun a' W => ∃ (P' : RP) (b8 b9 : Nat), a' = ⟨List.toArray ((.slice (some ⟨b, off, none⟩) ops.length c) :: (undef) :: (.pointer (some ⟨w.heap.size, 0, none⟩)) :: (.slice none 0 0) :: (.int .i64 0) :: (.pointer (some ⟨nb, 0, none⟩)) :: (u6) :: (.int .i64 j) :: (.pointer (some ⟨b8, 0, none⟩)) :: (.pointer (some ⟨b9, 0, none⟩)) :: (.slice (some ⟨b, off, none⟩) ops.length c) :: (.int .i64 ops.length) :: (.bool (decide (200 < (ops.length : Int)))) :: (undef) :: (.agg #[.slice (some ⟨P0.ga, 0, none⟩) 16 P0.ca, .slice (some ⟨P0.gW, 0, none⟩) (xall []).st.insts.length P0.cW, .slice (some ⟨P0.gC, 0, none⟩) (xall []).st.insts.length P0.cC, .int .i64 (xall []).commits]) :: (.int .i64 j) :: (.slice (some ⟨b, off, none⟩) ops.length c) :: (.int .i64 ops.length) :: (.bool true) :: (u19) :: (u20) :: (.tuple #[.agg #[.int .i64 z.e, .int .i64 z.n], .agg #[.slice (some ⟨P'.ga, 0, none⟩) 16 P'.ca, .slice (some ⟨P'.gW, 0, none⟩) X2.st.insts.length P'.cW, .slice (some ⟨P'.gC, 0, none⟩) X2.st.insts.length P'.cC, .int .i64 X2.commits]]) :: (.agg #[.slice (some ⟨P.ga, 0, none⟩) 16 P.ca, .slice (some ⟨P.gW, 0, none⟩) X.st.insts.length P.cW, .slice (some ⟨P.gC, 0, none⟩) X.st.insts.length P.cC, .int .i64 X.commits]) :: (.slice (some ⟨b, off, none⟩) ops.length c) :: (.int .i64 j) :: (.pointer (some ⟨b, off + j * 4, none⟩)) :: (.agg #[.int .i64 o.d, .int .i64 o.t, .int .i64 o.k, .int .i64 o.n]) :: (.tuple #[.agg #[.int .i64 z.e, .int .i64 z.n], .agg #[.slice (some ⟨P'.ga, 0, none⟩) 16 P'.ca, .slice (some ⟨P'.gW, 0, none⟩) X2.st.insts.length P'.cW, .slice (some ⟨P'.gC, 0, none⟩) X2.st.insts.length P'.cC, .int .i64 X2.commits]]) :: (.agg #[.int .i64 z.e, .int .i64 z.n]) :: (.agg #[.slice (some ⟨P'.ga, 0, none⟩) 16 P'.ca, .slice (some ⟨P'.gW, 0, none⟩) X2.st.insts.length P'.cW, .slice (some ⟨P'.gC, 0, none⟩) X2.st.insts.length P'.cC, .int .i64 X2.commits]) :: (u30) :: (u31) :: (u32) :: (u33) :: (u34) :: (undef) :: (undef) :: []), []⟩ ∧
        Blk W b8 49 2 (nth [.int .i64 z.e, .int .i64 z.n]) ∧ Blk W b9 79 4 (nth [.slice (some ⟨P'.ga, 0, none⟩) 16 P'.ca, .slice (some ⟨P'.gW, 0, none⟩) X2.st.insts.length P'.cW, .slice (some ⟨P'.gC, 0, none⟩) X2.st.insts.length P'.cC, .int .i64 X2.commits]) ∧
        RRep W P' X2 ∧ Chg (fun b => P.lab b ≠ 0) wr W ∧ (∀ b, P'.lab b ≠ 0 → P.lab b ≠ 0 ∨ sz ≤ b) ∧ P'.lab b8 = 0 ∧ P'.lab b9 = 0 ∧ sz ≤ b8 ∧ sz ≤ b9 ∧ b8 ≠ b9)
      case h1 =>
        go_region_held3 (fun w' => w'.cell? ⟨nb, 0, none⟩ = some (.slice (some ⟨P.ga, 0, none⟩) 16 P.ca) ∧ w'.cell? ⟨nb, 1, none⟩ = some (.slice (some ⟨P.gW, 0, none⟩) X.st.insts.length P.cW) ∧ w'.cell? ⟨nb, 2, none⟩ = some (.slice (some ⟨P.gC, 0, none⟩) X.st.insts.length P.cC) ∧ w'.cell? ⟨nb, 3, none⟩ = some (.int .i64 X.commits) ∧
            w'.cell? ⟨b, off + j * 4, none⟩ = some (.int .i64 o.d) ∧ w'.cell? ⟨b, off + j * 4 + 1, none⟩ = some (.int .i64 o.t) ∧ w'.cell? ⟨b, off + j * 4 + 2, none⟩ = some (.int .i64 o.k) ∧ w'.cell? ⟨b, off + j * 4 + 3, none⟩ = some (.int .i64 o.n))
          (first
            | with_reducible exact hS5
            | with_reducible exact hS0
            | (with_reducible refine eight hS5 (S := fun i => sz ≤ i) ?_ (by omega) (by omega)
               repeat (first | with_reducible exact Chg.refl _ _ | with_reducible refine Chg.drew ?_ | with_reducible refine Chg.alloc ?_ _ | with_reducible refine Chg.setCell ?_ (fun _ => by first | exact Nat.le_refl _ | exact Nat.le_succ _ | exact hz5 | exact Nat.le_succ_of_le hz5) _)
               done)
            | (with_reducible refine eight hS0 (S := fun i => sz ≤ i) ?_ (by omega) (by omega)
               repeat (first | with_reducible exact Chg.refl _ _ | with_reducible refine Chg.drew ?_ | with_reducible refine Chg.alloc ?_ _ | with_reducible refine Chg.setCell ?_ (fun _ => by first | exact Nat.le_refl _ | exact Nat.le_succ _ | exact hz5 | exact Nat.le_succ_of_le hz5) _)
               done))
          (first
            | (go_at_call 51
               refine (HDO.out _ (by repeat (first | exact Chg.refl _ _ | refine Chg.drew ?_ | refine Chg.alloc ?_ _))).mono ?_
               rintro e w5 ⟨P5, rfl, hR5, hC5, hL5⟩
               have hC5w : Chg (fun b => P.lab b ≠ 0) wr w5 := Chg.trans (by repeat (first | exact Chg.refl _ _ | refine Chg.drew ?_ | refine Chg.alloc ?_ _)) hC5
               have hS5 := eight hS0 hC5w hlnb hlb
               have hz5 : sz ≤ w5.heap.size := by have := hC5w.size; omega
               have HR5 := Lib.hid hR5; have HC5W := Lib.hid hC5w; have HL5 := Lib.hid hL5
               (first
                 | (refine cut_ (p := Blk w5 sz 49 2 (nth [.int .i64 0, .int .i64 0])) ?_ (fun hb0 => ?_)
                    · refine hC5.blk ?_ (fun h => h (HR.out.hi _ (by omega)))
                      first | refine Blk.drew ?_ | skip
                      repeat (first | (refine atL _ [.int .i64 0, .int .i64 0] _ ?_ rfl; simp [hsz]; done) | refine Blk.alloc ?_ _)
                      done
                    have hl0 : P5.lab sz = 0 := Decidable.byContradiction fun h => by
                      rcases hL5 _ h with h1 | h1
                      · exact h1 (HR.out.hi _ (by omega))
                      · simp [hsz] at h1
                        try omega
                    have HLB0 := Lib.hid hl0
                    have hq0 : sz < w5.heap.size := hb0.lt
                    have hp0 : sz ≠ w5.heap.size := by omega
                    have hp0' : w5.heap.size ≠ sz := by omega
                    have k00 : w5.cell? ⟨sz, 0, none⟩ = some (.int .i64 0) := hb0.cell (by decide)
                    have m00 : ∀ q, (w5.alloc q).cell? ⟨sz, 0, none⟩ = some (.int .i64 0) := fun q => (hb0.alloc q).cell (by decide)
                    have k01 : w5.cell? ⟨sz, 1, none⟩ = some (.int .i64 0) := hb0.cell (by decide)
                    have m01 : ∀ q, (w5.alloc q).cell? ⟨sz, 1, none⟩ = some (.int .i64 0) := fun q => (hb0.alloc q).cell (by decide)
                    have kf0 : ∀ i, w5.frozen? ⟨sz, i, none⟩ = false := fun i => hb0.free i
                    have mf0 : ∀ q i, (w5.alloc q).frozen? ⟨sz, i, none⟩ = false := fun q i => (hb0.alloc q).free i
                    have HB0 := Lib.hid hb0
                    clear hb0 hl0)
                 | (refine cut_ (p := Blk w5 sz 79 4 (nth [.slice none 0 0, .slice none 0 0, .slice none 0 0, .int .i64 0])) ?_ (fun hb0 => ?_)
                    · refine hC5.blk ?_ (fun h => h (HR.out.hi _ (by omega)))
                      first | refine Blk.drew ?_ | skip
                      repeat (first | (refine atL _ [.slice none 0 0, .slice none 0 0, .slice none 0 0, .int .i64 0] _ ?_ rfl; simp [hsz]; done) | refine Blk.alloc ?_ _)
                      done
                    have hl0 : P5.lab sz = 0 := Decidable.byContradiction fun h => by
                      rcases hL5 _ h with h1 | h1
                      · exact h1 (HR.out.hi _ (by omega))
                      · simp [hsz] at h1
                        try omega
                    have HLB0 := Lib.hid hl0
                    have hq0 : sz < w5.heap.size := hb0.lt
                    have hp0 : sz ≠ w5.heap.size := by omega
                    have hp0' : w5.heap.size ≠ sz := by omega
                    have k00 : w5.cell? ⟨sz, 0, none⟩ = some (.slice none 0 0) := hb0.cell (by decide)
                    have m00 : ∀ q, (w5.alloc q).cell? ⟨sz, 0, none⟩ = some (.slice none 0 0) := fun q => (hb0.alloc q).cell (by decide)
                    have k01 : w5.cell? ⟨sz, 1, none⟩ = some (.slice none 0 0) := hb0.cell (by decide)
                    have m01 : ∀ q, (w5.alloc q).cell? ⟨sz, 1, none⟩ = some (.slice none 0 0) := fun q => (hb0.alloc q).cell (by decide)
                    have k02 : w5.cell? ⟨sz, 2, none⟩ = some (.slice none 0 0) := hb0.cell (by decide)
                    have m02 : ∀ q, (w5.alloc q).cell? ⟨sz, 2, none⟩ = some (.slice none 0 0) := fun q => (hb0.alloc q).cell (by decide)
                    have k03 : w5.cell? ⟨sz, 3, none⟩ = some (.int .i64 0) := hb0.cell (by decide)
                    have m03 : ∀ q, (w5.alloc q).cell? ⟨sz, 3, none⟩ = some (.int .i64 0) := fun q => (hb0.alloc q).cell (by decide)
                    have kf0 : ∀ i, w5.frozen? ⟨sz, i, none⟩ = false := fun i => hb0.free i
                    have mf0 : ∀ q i, (w5.alloc q).frozen? ⟨sz, i, none⟩ = false := fun q i => (hb0.alloc q).free i
                    have HB0 := Lib.hid hb0
                    clear hb0 hl0)
                 | skip)
               (first
                 | (refine cut_ (p := Blk w5 (sz + 1) 49 2 (nth [.int .i64 0, .int .i64 0])) ?_ (fun hb1 => ?_)
                    · refine hC5.blk ?_ (fun h => h (HR.out.hi _ (by omega)))
                      first | refine Blk.drew ?_ | skip
                      repeat (first | (refine atL _ [.int .i64 0, .int .i64 0] _ ?_ rfl; simp [hsz]; done) | refine Blk.alloc ?_ _)
                      done
                    have hl1 : P5.lab (sz + 1) = 0 := Decidable.byContradiction fun h => by
                      rcases hL5 _ h with h1 | h1
                      · exact h1 (HR.out.hi _ (by omega))
                      · simp [hsz] at h1
                        try omega
                    have HLB1 := Lib.hid hl1
                    have hq1 : (sz + 1) < w5.heap.size := hb1.lt
                    have hp1 : (sz + 1) ≠ w5.heap.size := by omega
                    have hp1' : w5.heap.size ≠ (sz + 1) := by omega
                    have k10 : w5.cell? ⟨(sz + 1), 0, none⟩ = some (.int .i64 0) := hb1.cell (by decide)
                    have m10 : ∀ q, (w5.alloc q).cell? ⟨(sz + 1), 0, none⟩ = some (.int .i64 0) := fun q => (hb1.alloc q).cell (by decide)
                    have k11 : w5.cell? ⟨(sz + 1), 1, none⟩ = some (.int .i64 0) := hb1.cell (by decide)
                    have m11 : ∀ q, (w5.alloc q).cell? ⟨(sz + 1), 1, none⟩ = some (.int .i64 0) := fun q => (hb1.alloc q).cell (by decide)
                    have kf1 : ∀ i, w5.frozen? ⟨(sz + 1), i, none⟩ = false := fun i => hb1.free i
                    have mf1 : ∀ q i, (w5.alloc q).frozen? ⟨(sz + 1), i, none⟩ = false := fun q i => (hb1.alloc q).free i
                    have HB1 := Lib.hid hb1
                    clear hb1 hl1)
                 | (refine cut_ (p := Blk w5 (sz + 1) 79 4 (nth [.slice none 0 0, .slice none 0 0, .slice none 0 0, .int .i64 0])) ?_ (fun hb1 => ?_)
                    · refine hC5.blk ?_ (fun h => h (HR.out.hi _ (by omega)))
                      first | refine Blk.drew ?_ | skip
                      repeat (first | (refine atL _ [.slice none 0 0, .slice none 0 0, .slice none 0 0, .int .i64 0] _ ?_ rfl; simp [hsz]; done) | refine Blk.alloc ?_ _)
                      done
                    have hl1 : P5.lab (sz + 1) = 0 := Decidable.byContradiction fun h => by
                      rcases hL5 _ h with h1 | h1
                      · exact h1 (HR.out.hi _ (by omega))
                      · simp [hsz] at h1
                        try omega
                    have HLB1 := Lib.hid hl1
                    have hq1 : (sz + 1) < w5.heap.size := hb1.lt
                    have hp1 : (sz + 1) ≠ w5.heap.size := by omega
                    have hp1' : w5.heap.size ≠ (sz + 1) := by omega
                    have k10 : w5.cell? ⟨(sz + 1), 0, none⟩ = some (.slice none 0 0) := hb1.cell (by decide)
                    have m10 : ∀ q, (w5.alloc q).cell? ⟨(sz + 1), 0, none⟩ = some (.slice none 0 0) := fun q => (hb1.alloc q).cell (by decide)
                    have k11 : w5.cell? ⟨(sz + 1), 1, none⟩ = some (.slice none 0 0) := hb1.cell (by decide)
                    have m11 : ∀ q, (w5.alloc q).cell? ⟨(sz + 1), 1, none⟩ = some (.slice none 0 0) := fun q => (hb1.alloc q).cell (by decide)
                    have k12 : w5.cell? ⟨(sz + 1), 2, none⟩ = some (.slice none 0 0) := hb1.cell (by decide)
                    have m12 : ∀ q, (w5.alloc q).cell? ⟨(sz + 1), 2, none⟩ = some (.slice none 0 0) := fun q => (hb1.alloc q).cell (by decide)
                    have k13 : w5.cell? ⟨(sz + 1), 3, none⟩ = some (.int .i64 0) := hb1.cell (by decide)
                    have m13 : ∀ q, (w5.alloc q).cell? ⟨(sz + 1), 3, none⟩ = some (.int .i64 0) := fun q => (hb1.alloc q).cell (by decide)
                    have kf1 : ∀ i, w5.frozen? ⟨(sz + 1), i, none⟩ = false := fun i => hb1.free i
                    have mf1 : ∀ q i, (w5.alloc q).frozen? ⟨(sz + 1), i, none⟩ = false := fun q i => (hb1.alloc q).free i
                    have HB1 := Lib.hid hb1
                    clear hb1 hl1)
                 | skip)
               clear hR5 hC5 hL5 hC5w))
        all_goals
          refine ⟨P5, _, _, rfl, ?_, ?_, ?_, ?_, fun b hb => (HL5.out b hb).imp id (fun h => ?_), ?_, ?_, ?_, ?_, ?_⟩
          ·
            first | with_reducible refine Blk.drew ?_ | skip
            repeat (first
              | with_reducible exact HB0.out
              | with_reducible exact HB1.out
              | (with_reducible refine atL _ _ _ ?_ ?_
                 · first | rfl | (simp [World.setCell]; done)
                 · rfl)
              | with_reducible refine Blk.alloc ?_ _
              | with_reducible exact HB0.out.set2 _ _
              | with_reducible exact HB1.out.set2 _ _
              | with_reducible refine Blk.set2 (f := nth [.int .i64 0, .int .i64 0]) ?_ _ _
              | (with_reducible refine Blk.set_other ?_ ?_ _
                 rotate_left 1
                 · dsimp only; omega))
            done
          ·
            first | with_reducible refine Blk.drew ?_ | skip
            repeat (first
              | with_reducible exact HB0.out
              | with_reducible exact HB1.out
              | (with_reducible refine atL _ _ _ ?_ ?_
                 · first | rfl | (simp [World.setCell]; done)
                 · rfl)
              | with_reducible refine Blk.alloc ?_ _
              | with_reducible exact HB0.out.set4 _ _ _ _
              | with_reducible exact HB1.out.set4 _ _ _ _
              | with_reducible refine Blk.set4 (f := nth [.slice none 0 0, .slice none 0 0, .slice none 0 0, .int .i64 0]) ?_ _ _ _ _
              | (with_reducible refine Blk.set_other ?_ ?_ _
                 rotate_left 1
                 · dsimp only; omega))
            done
          · refine HR5.out.kept (S := fun i => P5.lab i = 0) ?_ (fun b hb e => hb e)
            repeat (first
              | with_reducible exact Chg.refl _ _
              | with_reducible refine Chg.drew ?_
              | with_reducible refine Chg.alloc ?_ _
              | (with_reducible refine Chg.setCell ?_ ?_ _
                 rotate_left 1
                 · first | exact fun _ => HLB0.out | exact fun _ => HLB1.out | (intro h; dsimp only at h; omega)))
            done
          · repeat (first
              | with_reducible exact HC5W.out
              | with_reducible refine Chg.drew ?_
              | with_reducible refine Chg.alloc ?_ _
              | (with_reducible refine Chg.setCell ?_ ?_ _
                 rotate_left 1
                 · intro h; dsimp only at h; omega))
            done
          · first | exact Nat.le_trans (by omega) h | (simp [hsz] at h; omega)
          · first | exact HLB0.out | exact HLB1.out | exact HR5.out.hi _ (by omega)
          · first | exact HLB0.out | exact HLB1.out | exact HR5.out.hi _ (by omega)
          · omega
          · omega
          · omega
      rintro A W ⟨P', b8, b9, rfl, hB8, hB9, hRW, hCW, hLW, hl8, hl9, hg8, hg9, hn89⟩
      clear HDO HG HI HCM HR hS0 r0 r1 r2 r3 x0 x1 x2 x3
      have HBRW := HBR.out.chg hCW hlnb
      have hb8l := hB8.lt
      have hb9l := hB9.lt
      have hszW := hCW.size
      have r0 : W.cell? ⟨b9, 0, none⟩ = some (.slice (some ⟨P'.ga, 0, none⟩) 16 P'.ca) := hB9.cell (by decide)
      have r1 : W.cell? ⟨b9, 1, none⟩ = some (.slice (some ⟨P'.gW, 0, none⟩) X2.st.insts.length P'.cW) := hB9.cell (by decide)
      have r2 : W.cell? ⟨b9, 2, none⟩ = some (.slice (some ⟨P'.gC, 0, none⟩) X2.st.insts.length P'.cC) := hB9.cell (by decide)
      have r3 : W.cell? ⟨b9, 3, none⟩ = some (.int .i64 X2.commits) := hB9.cell (by decide)
      have q0 : W.cell? ⟨b8, 0, none⟩ = some (.int .i64 z.e) := hB8.cell (by decide)
      have q1 : W.cell? ⟨b8, 1, none⟩ = some (.int .i64 z.n) := hB8.cell (by decide)
      have hS7 := And.intro r0 (And.intro r1 (And.intro r2 (And.intro r3 (And.intro q0 q1))))
      have hnb8 : b8 ≠ nb := by omega
      have hnb9 : b9 ≠ nb := by omega
      have hrow := HAJ.out.row
      have hlr : (Tx.run St.zero (ops.take j)).1.length = j := by rw [length_run, hlj]
      have hown : ∀ g, u6.ownBlock = some g → g < wr.heap.size ∧ w.heap.size ≤ g ∧ P.lab g = 0 ∧ g ≠ nb ∧ g ≠ w.heap.size := fun g hg => ⟨(hrow.lt g hg).2, HAJ.out.own g hg⟩
      have HROW := Lib.hid (hCW.ownsRow hrow (fun k hk h => h (hown k hk).2.2.1))
      have HOWN := Lib.hid hown
      obtain ⟨i49, hi49, hz490, hz491, hz492⟩ := info_parts Try.info49
      have HI9 := Lib.hid hi49; have HZ90 := Lib.hid hz490; have HZ91 := Lib.hid hz491; have HZ92 := Lib.hid hz492
      have HBRW2 := Lib.hid HBRW; have HRW := Lib.hid hRW; have HCW := Lib.hid hCW; have HLW := Lib.hid hLW
      have hszw := Lib.hid hsz
      clear hi49 hz490 hz491 hz492 hrow hown HBRW hRW hCW hLW hB8 hB9 r0 r1 r2 r3 q0 q1 hsz
      go_upto_region 9 with fail
      go_region_held3 (fun w' => w'.cell? ⟨b9, 0, none⟩ = some (.slice (some ⟨P'.ga, 0, none⟩) 16 P'.ca) ∧ w'.cell? ⟨b9, 1, none⟩ = some (.slice (some ⟨P'.gW, 0, none⟩) X2.st.insts.length P'.cW) ∧ w'.cell? ⟨b9, 2, none⟩ = some (.slice (some ⟨P'.gC, 0, none⟩) X2.st.insts.length P'.cC) ∧ w'.cell? ⟨b9, 3, none⟩ = some (.int .i64 X2.commits) ∧
          w'.cell? ⟨b8, 0, none⟩ = some (.int .i64 z.e) ∧ w'.cell? ⟨b8, 1, none⟩ = some (.int .i64 z.n))
        (first
          | exact six hS8 (((((Chg.refl (fun i => i = nb) w6).setCell (fun _ => rfl) _).setCell (fun _ => rfl) _).setCell (fun _ => rfl) _).setCell (fun _ => rfl) _) hnb9 hnb8
          | with_reducible exact hS8
          | with_reducible exact hS7
          | (with_reducible refine six hS8 (S := fun i => i = nb) ?_ (by omega) (by omega)
             repeat (first | with_reducible exact Chg.refl _ _ | with_reducible refine Chg.drew ?_ | with_reducible refine Chg.alloc ?_ _ | with_reducible refine Chg.setCell ?_ (fun _ => rfl) _)
             done)
          | (with_reducible refine six hS7 (S := fun i => i = nb) ?_ (by omega) (by omega)
             repeat (first | with_reducible exact Chg.refl _ _ | with_reducible refine Chg.drew ?_ | with_reducible refine Chg.alloc ?_ _ | with_reducible refine Chg.setCell ?_ (fun _ => rfl) _)
             done))
        (first
          | (refine step_append_new rfl _ _ 24 rfl 49 i49 _ 2 16 Try.underlying24 HI9.out HZ90.out HZ91.out HZ92.out rfl (by decide) u6 j (ansRow (Tx.run St.zero (ops.take j)).1) rfl ?_ W.heap.size rfl rfl ?_ ?_ (by unfold maxLen; omega) (by omega) ?_
             · exact HROW.out
             · rfl
             · simp [Value.oneCell']
             intro g6 cap6 w6 hown6 hC6 hat6 hlt6
             have hS8 := six hS7 hC6 (fun e => by have := (HOWN.out _ e).1; rw [hszw.out] at this; omega) (fun e => by have := (HOWN.out _ e).1; rw [hszw.out] at this; omega)
             have hBR6 := HBRW2.out.chg hC6 (fun e => (HOWN.out _ e).2.2.2.1 rfl)
             have k0 : w6.cell? ⟨nb, 0, none⟩ = some (.slice (some ⟨P.ga, 0, none⟩) 16 P.ca) := hBR6.cell (by decide)
             have k1 : w6.cell? ⟨nb, 1, none⟩ = some (.slice (some ⟨P.gW, 0, none⟩) X.st.insts.length P.cW) := hBR6.cell (by decide)
             have k2 : w6.cell? ⟨nb, 2, none⟩ = some (.slice (some ⟨P.gC, 0, none⟩) X.st.insts.length P.cC) := hBR6.cell (by decide)
             have k3 : w6.cell? ⟨nb, 3, none⟩ = some (.int .i64 X.commits) := hBR6.cell (by decide)
             have kf := fun i => hBR6.free i
             have HBR6 := Lib.hid hBR6; have HOW6 := Lib.hid hown6; have HC6 := Lib.hid hC6; have HAT := Lib.hid hat6
             clear hBR6 hown6 hC6 hat6))
      all_goals
        have hA2 : (Tx.run St.zero (ops.take (j + 1))).1 = (Tx.run St.zero (ops.take j)).1 ++ [z] := by rw [HAN.out]
        have HNX := Lib.hid (HAJ.out.next HXO.out hA2 HRW.out HCW.out (fun b hb => by rw [hszw.out]; exact HLW.out b hb) HOW6.out HC6.out HAT.out)
        clear hA2 hS8 k0 k1 k2 k3 kf HBR6 HOW6 HC6 HAT hS7
        go_wp2_with fail
        exact ⟨⟨j + 1, by omega, by go_num, _, HNX.out⟩, by simp [intOf]; omega⟩
    · obtain rfl : j = ops.length := by omega
      have hR := HAJ.out.rep
      have hbR := HAJ.out.bR
      have hrow := HAJ.out.row
      rw [List.take_length] at hR hbR hrow
      unfold runL at hbR
      have r0 : wr.cell? ⟨nb, 0, none⟩ = some (.slice (some ⟨P.ga, 0, none⟩) 16 P.ca) := hbR.cell (by decide)
      have r1 : wr.cell? ⟨nb, 1, none⟩ = some (.slice (some ⟨P.gW, 0, none⟩) (xall ops).st.insts.length P.cW) := hbR.cell (by decide)
      have r2 : wr.cell? ⟨nb, 2, none⟩ = some (.slice (some ⟨P.gC, 0, none⟩) (xall ops).st.insts.length P.cC) := hbR.cell (by decide)
      have r3 : wr.cell? ⟨nb, 3, none⟩ = some (.int .i64 (xall ops).commits) := hbR.cell (by decide)
      have HR := Lib.hid hR; have HROW := Lib.hid hrow
      clear hR hbR hrow
      go_wp2_with (refine wpList_storeN 79 4 Try.info79s _ rfl _ _ rfl w.heap.size 0 _ rfl rfl rfl (by simp [Value.oneCell']) (fun j hj => by rw [show wr.cell? ⟨w.heap.size, 0 + j, none⟩ = _ from HAJ.out.bZ.cell (by omega)]; rfl) (fun i => HAJ.out.bZ.free i) ?_; intro w7 hC7 hin7 _ _; have HC7 := Lib.hid hC7; have HI7 := Lib.hid hin7; clear hC7 hin7)
      refine bodyPost_ret (results79tt rfl rfl (HI7.out 0 _ rfl) (HI7.out 1 _ rfl) (HI7.out 2 _ rfl) (HI7.out 3 _ rfl)) rfl ?_
      refine ⟨_, P, rfl, HR.out.kept HC7.out (fun b hb e => hb (by rw [e]; exact HAJ.out.lZ)), HAJ.out.chg.then HC7.out (fun i hi e => by omega), HC7.out.ownsRow HROW.out (fun k hk e => (HAJ.out.own k hk).2.2.2 e), HAJ.out.new, fun g hg => (HAJ.out.own g hg).1⟩
end
end Go.Proofs.Yteaeflmglppcdaa
