/- The reference: each operation that is not refused; all of them by one contract. -/
import Derived.Test.YteaeflmglppcdaaT8
namespace Go.Proofs.Yteaeflmglppcdaa
open Go.RowKit Tx
section
variable {w : World} {P : RP} {X : XS}
set_option maxRecDepth 100000 in
set_option maxHeartbeats 4000000 in
theorem do_0 (hR : RRep w P X) (t : Nat) (ht : t < 16) (k n : Int) (hE : refusedE X.st ⟨0, t, k, n⟩ = 0) (hne : 0 < X.st.insts.length) (hlen : X.st.insts.length ≤ 1000) :
    Calls Try.prog 51 #[runV P X, .agg #[.int .i64 0, .int .i64 t, .int .i64 k, .int .i64 n]] w (DoPost w P ⟨0, last X.st⟩ { X with st := X.st.setTx t { X.st.txs t with begun := true, inst := last X.st } }) := by
  have HR := Lib.hid hR
  have HREF := fun (w' : World) (h : New w w') => refused_any (hR.new h) ⟨0, t, k, n⟩
  have HREF := Lib.hid HREF
  clear hR
  unfold runV at HREF
  unfold runV
  go_enter Try.func51, Try.ntmps51
  go_upto_region 1 with fail
  have hNa : New w ((((w.alloc (.cells #[.slice (some ⟨P.ga, 0, none⟩) 16 P.ca, .slice (some ⟨P.gW, 0, none⟩) X.st.insts.length P.cW, .slice (some ⟨P.gC, 0, none⟩) X.st.insts.length P.cC, .int .i64 X.commits] 79)).alloc (.cells #[.int .i64 0, .int .i64 t, .int .i64 k, .int .i64 n] 47)).alloc (.cells #[.int .i64 0, .int .i64 0] 49)).alloc (.cells #[.slice none 0 0, .slice none 0 0, .slice none 0 0, .int .i64 0] 79)) := ((((Chg.refl _ w).alloc _).alloc _).alloc _).alloc _
  have hBR : Blk ((((w.alloc (.cells #[.slice (some ⟨P.ga, 0, none⟩) 16 P.ca, .slice (some ⟨P.gW, 0, none⟩) X.st.insts.length P.cW, .slice (some ⟨P.gC, 0, none⟩) X.st.insts.length P.cC, .int .i64 X.commits] 79)).alloc (.cells #[.int .i64 0, .int .i64 t, .int .i64 k, .int .i64 n] 47)).alloc (.cells #[.int .i64 0, .int .i64 0] 49)).alloc (.cells #[.slice none 0 0, .slice none 0 0, .slice none 0 0, .int .i64 0] 79)) w.heap.size 79 4 (nth [.slice (some ⟨P.ga, 0, none⟩) 16 P.ca, .slice (some ⟨P.gW, 0, none⟩) X.st.insts.length P.cW, .slice (some ⟨P.gC, 0, none⟩) X.st.insts.length P.cC, .int .i64 X.commits]) := (((Blk.ofL w _ 79).alloc _).alloc _).alloc _
  have hBO : Blk ((((w.alloc (.cells #[.slice (some ⟨P.ga, 0, none⟩) 16 P.ca, .slice (some ⟨P.gW, 0, none⟩) X.st.insts.length P.cW, .slice (some ⟨P.gC, 0, none⟩) X.st.insts.length P.cC, .int .i64 X.commits] 79)).alloc (.cells #[.int .i64 0, .int .i64 t, .int .i64 k, .int .i64 n] 47)).alloc (.cells #[.int .i64 0, .int .i64 0] 49)).alloc (.cells #[.slice none 0 0, .slice none 0 0, .slice none 0 0, .int .i64 0] 79)) (w.heap.size + 1) 47 4 (nth [.int .i64 0, .int .i64 t, .int .i64 k, .int .i64 n]) := by
    have := ((Blk.ofL (w.alloc (.cells #[.slice (some ⟨P.ga, 0, none⟩) 16 P.ca, .slice (some ⟨P.gW, 0, none⟩) X.st.insts.length P.cW, .slice (some ⟨P.gC, 0, none⟩) X.st.insts.length P.cC, .int .i64 X.commits] 79)) [.int .i64 0, .int .i64 t, .int .i64 k, .int .i64 n] 47).alloc (.cells #[.int .i64 0, .int .i64 0] 49)).alloc (.cells #[.slice none 0 0, .slice none 0 0, .slice none 0 0, .int .i64 0] 79)
    rwa [World.size_alloc] at this
  have hBA : Blk ((((w.alloc (.cells #[.slice (some ⟨P.ga, 0, none⟩) 16 P.ca, .slice (some ⟨P.gW, 0, none⟩) X.st.insts.length P.cW, .slice (some ⟨P.gC, 0, none⟩) X.st.insts.length P.cC, .int .i64 X.commits] 79)).alloc (.cells #[.int .i64 0, .int .i64 t, .int .i64 k, .int .i64 n] 47)).alloc (.cells #[.int .i64 0, .int .i64 0] 49)).alloc (.cells #[.slice none 0 0, .slice none 0 0, .slice none 0 0, .int .i64 0] 79)) (w.heap.size + 2) 49 2 (nth [.int .i64 0, .int .i64 0]) := by
    have := (Blk.ofL ((w.alloc (.cells #[.slice (some ⟨P.ga, 0, none⟩) 16 P.ca, .slice (some ⟨P.gW, 0, none⟩) X.st.insts.length P.cW, .slice (some ⟨P.gC, 0, none⟩) X.st.insts.length P.cC, .int .i64 X.commits] 79)).alloc (.cells #[.int .i64 0, .int .i64 t, .int .i64 k, .int .i64 n] 47)) [.int .i64 0, .int .i64 0] 49).alloc (.cells #[.slice none 0 0, .slice none 0 0, .slice none 0 0, .int .i64 0] 79)
    rwa [World.size_alloc, World.size_alloc] at this
  have hBZ : Blk ((((w.alloc (.cells #[.slice (some ⟨P.ga, 0, none⟩) 16 P.ca, .slice (some ⟨P.gW, 0, none⟩) X.st.insts.length P.cW, .slice (some ⟨P.gC, 0, none⟩) X.st.insts.length P.cC, .int .i64 X.commits] 79)).alloc (.cells #[.int .i64 0, .int .i64 t, .int .i64 k, .int .i64 n] 47)).alloc (.cells #[.int .i64 0, .int .i64 0] 49)).alloc (.cells #[.slice none 0 0, .slice none 0 0, .slice none 0 0, .int .i64 0] 79)) (w.heap.size + 3) 79 4 (nth [.slice none 0 0, .slice none 0 0, .slice none 0 0, .int .i64 0]) := by
    have := Blk.ofL (((w.alloc (.cells #[.slice (some ⟨P.ga, 0, none⟩) 16 P.ca, .slice (some ⟨P.gW, 0, none⟩) X.st.insts.length P.cW, .slice (some ⟨P.gC, 0, none⟩) X.st.insts.length P.cC, .int .i64 X.commits] 79)).alloc (.cells #[.int .i64 0, .int .i64 t, .int .i64 k, .int .i64 n] 47)).alloc (.cells #[.int .i64 0, .int .i64 0] 49)) [.slice none 0 0, .slice none 0 0, .slice none 0 0, .int .i64 0] 79
    rwa [World.size_alloc, World.size_alloc, World.size_alloc] at this
  have hlab : ∀ i, P.lab (w.heap.size + i) = 0 := fun i => HR.out.hi _ (by omega)
  have HBR := Lib.hid hBR; have HBO := Lib.hid hBO; have HBA := Lib.hid hBA; have HBZ := Lib.hid hBZ; have HNa := Lib.hid hNa
  clear hBR hBO hBA hBZ hNa
  generalize (((w.alloc _).alloc _).alloc _).alloc _ = w1 at *
  generalize hnr : w.heap.size = nr at *
  have r0 : w1.cell? ⟨nr, 0, none⟩ = some (.slice (some ⟨P.ga, 0, none⟩) 16 P.ca) := HBR.out.cell (by decide)
  have r1 : w1.cell? ⟨nr, 1, none⟩ = some (.slice (some ⟨P.gW, 0, none⟩) X.st.insts.length P.cW) := HBR.out.cell (by decide)
  have r2 : w1.cell? ⟨nr, 2, none⟩ = some (.slice (some ⟨P.gC, 0, none⟩) X.st.insts.length P.cC) := HBR.out.cell (by decide)
  have r3 : w1.cell? ⟨nr, 3, none⟩ = some (.int .i64 X.commits) := HBR.out.cell (by decide)
  have o0 : w1.cell? ⟨(nr + 1), 0, none⟩ = some (.int .i64 0) := HBO.out.cell (by decide)
  have o1 : w1.cell? ⟨(nr + 1), 1, none⟩ = some (.int .i64 t) := HBO.out.cell (by decide)
  have o2 : w1.cell? ⟨(nr + 1), 2, none⟩ = some (.int .i64 k) := HBO.out.cell (by decide)
  have o3 : w1.cell? ⟨(nr + 1), 3, none⟩ = some (.int .i64 n) := HBO.out.cell (by decide)
  rw [hE] at HREF
  have ht1 : (t : Int) < 16 := by omega
  have ht0 : (0 : Int) ≤ (t : Int) := by omega
  go_upto_region 4 with ((with_reducible refine (HREF.out _ HNa.out).mono ?_); rintro e w2 ⟨rfl, hN2⟩; have HN2 := Lib.hid hN2; clear hN2)
  clear r0 r1 r2 r3 o0 o1 o2 o3
  have HBR2 := Lib.hid (HBR.out.chg HN2.out (fun h => h)); have HBO2 := Lib.hid (HBO.out.chg HN2.out (fun h => h)); have HBA2 := Lib.hid (HBA.out.chg HN2.out (fun h => h)); have HBZ2 := Lib.hid (HBZ.out.chg HN2.out (fun h => h))
  have HNw2 := Lib.hid (HNa.out.trans HN2.out)
  have HR2 := Lib.hid (HR.out.new HNw2.out)
  clear HBR HBO HBA HBZ HNa HN2 HREF
  have r0 : w2.cell? ⟨nr, 0, none⟩ = some (.slice (some ⟨P.ga, 0, none⟩) 16 P.ca) := HBR2.out.cell (by decide)
  have o1 : w2.cell? ⟨nr + 1, 1, none⟩ = some (.int .i64 t) := HBO2.out.cell (by decide)
  obtain ⟨a0, a1, a2, a3, a4, a5, a6, a7, a8⟩ := HR2.out.st9 ht
  have HBR3 := Lib.hid (HBR2.out.alloc (.cells #[.bool (X.st.txs t).begun, .bool (X.st.txs t).over, .bool (X.st.txs t).comm, .int .i64 (X.st.txs t).inst, .slice (some ⟨P.rd t, 0, none⟩) 16 16, .slice (some ⟨P.wb t, 0, none⟩) 16 16, .slice (some ⟨P.vb t, 0, none⟩) 16 16, .int .i64 (X.made t), .int .i64 (X.turn t)] 93)); have HBO3 := Lib.hid (HBO2.out.alloc (.cells #[.bool (X.st.txs t).begun, .bool (X.st.txs t).over, .bool (X.st.txs t).comm, .int .i64 (X.st.txs t).inst, .slice (some ⟨P.rd t, 0, none⟩) 16 16, .slice (some ⟨P.wb t, 0, none⟩) 16 16, .slice (some ⟨P.vb t, 0, none⟩) 16 16, .int .i64 (X.made t), .int .i64 (X.turn t)] 93)); have HBA3 := Lib.hid (HBA2.out.alloc (.cells #[.bool (X.st.txs t).begun, .bool (X.st.txs t).over, .bool (X.st.txs t).comm, .int .i64 (X.st.txs t).inst, .slice (some ⟨P.rd t, 0, none⟩) 16 16, .slice (some ⟨P.wb t, 0, none⟩) 16 16, .slice (some ⟨P.vb t, 0, none⟩) 16 16, .int .i64 (X.made t), .int .i64 (X.turn t)] 93)); have HBZ3 := Lib.hid (HBZ2.out.alloc (.cells #[.bool (X.st.txs t).begun, .bool (X.st.txs t).over, .bool (X.st.txs t).comm, .int .i64 (X.st.txs t).inst, .slice (some ⟨P.rd t, 0, none⟩) 16 16, .slice (some ⟨P.wb t, 0, none⟩) 16 16, .slice (some ⟨P.vb t, 0, none⟩) 16 16, .int .i64 (X.made t), .int .i64 (X.turn t)] 93))
  have HBL3 : Hid (Blk (w2.alloc (.cells #[.bool (X.st.txs t).begun, .bool (X.st.txs t).over, .bool (X.st.txs t).comm, .int .i64 (X.st.txs t).inst, .slice (some ⟨P.rd t, 0, none⟩) 16 16, .slice (some ⟨P.wb t, 0, none⟩) 16 16, .slice (some ⟨P.vb t, 0, none⟩) 16 16, .int .i64 (X.made t), .int .i64 (X.turn t)] 93)) w2.heap.size 93 9 (nth [.bool (X.st.txs t).begun, .bool (X.st.txs t).over, .bool (X.st.txs t).comm, .int .i64 (X.st.txs t).inst, .slice (some ⟨P.rd t, 0, none⟩) 16 16, .slice (some ⟨P.wb t, 0, none⟩) 16 16, .slice (some ⟨P.vb t, 0, none⟩) 16 16, .int .i64 (X.made t), .int .i64 (X.turn t)])) := Lib.hid (Blk.ofL w2 _ 93)
  have HNw3 := Lib.hid (HNw2.out.alloc (.cells #[.bool (X.st.txs t).begun, .bool (X.st.txs t).over, .bool (X.st.txs t).comm, .int .i64 (X.st.txs t).inst, .slice (some ⟨P.rd t, 0, none⟩) 16 16, .slice (some ⟨P.wb t, 0, none⟩) 16 16, .slice (some ⟨P.vb t, 0, none⟩) 16 16, .int .i64 (X.made t), .int .i64 (X.turn t)] 93))
  have hll : P.lab w2.heap.size = 0 := HR2.out.hi _ (Nat.le_refl _)
  have hzl : nr + 3 < w2.heap.size := HBZ2.out.lt
  have HR3 := Lib.hid (HR.out.new HNw3.out)
  go_upto_region 5 with fail
  clear r0 o1 a0 a1 a2 a3 a4 a5 a6 a7 a8 HBR2 HBO2 HBA2 HBZ2 HNw2 HR2
  generalize w2.alloc _ = w3 at *
  generalize w2.heap.size = nl at *
  have hnr2 : w.heap.size ≤ nr := by omega
  have hlA := HR3.out.la
  have hA0 : nr ≠ P.ga := fun e => by have := hlab 0; rw [Nat.add_zero, e, hlA] at this; cases this
  have hA1 : nr + 1 ≠ P.ga := fun e => by have := hlab 1; rw [e, hlA] at this; cases this
  have hA2 : nr + 2 ≠ P.ga := fun e => by have := hlab 2; rw [e, hlA] at this; cases this
  have hA3 : nr + 3 ≠ P.ga := fun e => by have := hlab 3; rw [e, hlA] at this; cases this
  have hAl : nl ≠ P.ga := fun e => by rw [e, hlA] at hll; cases hll
  have hix : (X.st.insts.length : Int) - 1 = (last X.st : Int) := by unfold last; omega
  have hlen2 : (X.st.insts.length : Int) ≤ 1000 := by omega
  have hne2 : (0 : Int) < (X.st.insts.length : Int) := by omega
  have hix0 : (0 : Int) ≤ (last X.st : Int) := by omega
  have hix1 : (last X.st : Int) ≤ 1000 := by omega
  have hwrl : IntKind.i64.wrap (last X.st : Int) = (last X.st : Int) := by rw [IntKind.wrap_i64]; omega
  have o0 : w3.cell? ⟨nr + 1, 0, none⟩ = some (.int .i64 0) := HBO3.out.cell (by decide)
  have r1 : w3.cell? ⟨nr, 1, none⟩ = some (.slice (some ⟨P.gW, 0, none⟩) X.st.insts.length P.cW) := HBR3.out.cell (by decide)
  have l0 := HBL3.out.cell (i := 0) (by decide)
  have l3 := HBL3.out.cell (i := 3) (by decide)
  have f0 := HBL3.out.free 0
  have f3 := HBL3.out.free 3
  go_upto_region 7 with fail
  apply wp_once
  case h1 =>
    go_region_law (fail)
    all_goals exact ⟨rfl, rfl⟩
  have HBL4 : Hid (Blk ((w3.setCell ⟨nl, 0, none⟩ (.bool true)).setCell ⟨nl, 3, none⟩ (.int .i64 (last X.st))).drew nl 93 9 (nth [.bool true, .bool (X.st.txs t).over, .bool (X.st.txs t).comm, .int .i64 (last X.st), .slice (some ⟨P.rd t, 0, none⟩) 16 16, .slice (some ⟨P.wb t, 0, none⟩) 16 16, .slice (some ⟨P.vb t, 0, none⟩) 16 16, .int .i64 (X.made t), .int .i64 (X.turn t)])) := Lib.hid (((HBL3.out.setL 0 _ (by simp)).setL 3 _ (by simp)).drew)
  have HC4 : Hid (Chg (fun b => b = nl) w3 ((w3.setCell ⟨nl, 0, none⟩ (.bool true)).setCell ⟨nl, 3, none⟩ (.int .i64 (last X.st))).drew) := Lib.hid ((((Chg.refl (fun b => b = nl) w3).setCell (fun _ => rfl) _).setCell (fun _ => rfl) _).drew)
  clear r1 l0 l3 f0 f3 o0
  generalize World.drew _ = w4 at *
  have HBR4 := Lib.hid (HBR3.out.chg HC4.out (by omega)); have HBO4 := Lib.hid (HBO3.out.chg HC4.out (by omega)); have HBA4 := Lib.hid (HBA3.out.chg HC4.out (by omega)); have HBZ4 := Lib.hid (HBZ3.out.chg HC4.out (by omega))
  have HNw4 : Hid (New w w4) := Lib.hid (HNw3.out.then HC4.out (fun i hi e => by omega))
  have HR4 := Lib.hid (HR.out.new HNw4.out)
  have l0 : w4.cell? ⟨nl, 0, none⟩ = some (.bool true) := HBL4.out.cell (by decide)
  have l1 : w4.cell? ⟨nl, 1, none⟩ = some (.bool (X.st.txs t).over) := HBL4.out.cell (by decide)
  have l2 : w4.cell? ⟨nl, 2, none⟩ = some (.bool (X.st.txs t).comm) := HBL4.out.cell (by decide)
  have l3 : w4.cell? ⟨nl, 3, none⟩ = some (.int .i64 (last X.st)) := HBL4.out.cell (by decide)
  have l4 : w4.cell? ⟨nl, 4, none⟩ = some (.slice (some ⟨P.rd t, 0, none⟩) 16 16) := HBL4.out.cell (by decide)
  have l5 : w4.cell? ⟨nl, 5, none⟩ = some (.slice (some ⟨P.wb t, 0, none⟩) 16 16) := HBL4.out.cell (by decide)
  have l6 : w4.cell? ⟨nl, 6, none⟩ = some (.slice (some ⟨P.vb t, 0, none⟩) 16 16) := HBL4.out.cell (by decide)
  have l7 : w4.cell? ⟨nl, 7, none⟩ = some (.int .i64 (X.made t)) := HBL4.out.cell (by decide)
  have l8 : w4.cell? ⟨nl, 8, none⟩ = some (.int .i64 (X.turn t)) := HBL4.out.cell (by decide)
  have r0 : w4.cell? ⟨nr, 0, none⟩ = some (.slice (some ⟨P.ga, 0, none⟩) 16 P.ca) := HBR4.out.cell (by decide)
  have o1 : w4.cell? ⟨nr + 1, 1, none⟩ = some (.int .i64 t) := HBO4.out.cell (by decide)
  go_upto_region 9 with (refine wpList_storeN 93 9 Try.info93s _ rfl _ _ rfl P.ga (t * 9) _ rfl rfl rfl (by simp [Value.oneCell']) (fun j hj => by rw [HR4.out.all t j ht hj]; rfl) HR4.out.allF ?_; intro w5 hC hin hout hfr; have HC5 := Lib.hid hC; have HI5 := Lib.hid hin; have HO5 := Lib.hid hout; have HF5 := Lib.hid hfr; clear hC hin hout hfr)
  clear l0 l1 l2 l3 l4 l5 l6 l7 l8 r0 o1
  have HBL5 := Lib.hid (HBL4.out.chg HC5.out hAl)
  have HBR5 := Lib.hid (HBR4.out.chg HC5.out hA0); have HBO5 := Lib.hid (HBO4.out.chg HC5.out hA1); have HBA5 := Lib.hid (HBA4.out.chg HC5.out hA2); have HBZ5 := Lib.hid (HBZ4.out.chg HC5.out hA3)
  have HR5 : Hid (RRep w5 P { X with st := X.st.setTx t { X.st.txs t with begun := true, inst := last X.st } }) :=
    Lib.hid (HR4.out.setTxn (x := { X.st.txs t with begun := true, inst := last X.st }) (m := X.made t) (n := X.turn t) ht HC5.out (nine (HI5.out 0 _ rfl) (HI5.out 1 _ rfl) (HI5.out 2 _ rfl) (HI5.out 3 _ rfl) (HI5.out 4 _ rfl) (HI5.out 5 _ rfl) (HI5.out 6 _ rfl) (HI5.out 7 _ rfl) (HI5.out 8 _ rfl)) HO5.out HF5.out rfl rfl (fun _ => rfl) rfl rfl (fun i hi => ⟨rfl, rfl⟩) rfl (fun h => h))
  have HCw : Hid (Chg (fun b => P.lab b ≠ 0) w w5) := Lib.hid ((HNw4.out.mono (fun _ _ h => absurd h id)).then HC5.out (fun i _ e => by rw [e, hlA]; decide))
  have l3 : w5.cell? ⟨nl, 3, none⟩ = some (.int .i64 (last X.st)) := HBL5.out.cell (by decide)
  have r0 : w5.cell? ⟨nr, 0, none⟩ = some (.slice (some ⟨P.ga, 0, none⟩) 16 P.ca) := HBR5.out.cell (by decide)
  have r1 : w5.cell? ⟨nr, 1, none⟩ = some (.slice (some ⟨P.gW, 0, none⟩) X.st.insts.length P.cW) := HBR5.out.cell (by decide)
  have r2 : w5.cell? ⟨nr, 2, none⟩ = some (.slice (some ⟨P.gC, 0, none⟩) X.st.insts.length P.cC) := HBR5.out.cell (by decide)
  have r3 : w5.cell? ⟨nr, 3, none⟩ = some (.int .i64 X.commits) := HBR5.out.cell (by decide)
  have z0 := HBA5.out.cell (i := 0) (by decide)
  have z1 := HBA5.out.cell (i := 1) (by decide)
  have zf := HBA5.out.free 0
  have zf1 := HBA5.out.free 1
  have y0 := HBZ5.out.cell (i := 0) (by decide)
  have y1 := HBZ5.out.cell (i := 1) (by decide)
  have y2 := HBZ5.out.cell (i := 2) (by decide)
  have y3 := HBZ5.out.cell (i := 3) (by decide)
  have yf0 := HBZ5.out.free 0; have yf1 := HBZ5.out.free 1; have yf2 := HBZ5.out.free 2; have yf3 := HBZ5.out.free 3
  apply wp_once
  case h1 =>
    go_region_law (fail)
    all_goals exact ⟨rfl, rfl⟩
  obtain ⟨g0, g1, h0, h1, h2, h3, HE⟩ := end_cells (.int .i64 0) (.int .i64 (last X.st)) (.slice (some ⟨P.ga, 0, none⟩) 16 P.ca) (.slice (some ⟨P.gW, 0, none⟩) X.st.insts.length P.cW) (.slice (some ⟨P.gC, 0, none⟩) X.st.insts.length P.cC) (.int .i64 X.commits) (d := nr + 1 + 1) (nz := nr + 1 + 1 + 1) HBA5.out HBZ5.out (by omega)
  unfold endW at g0 g1 h0 h1 h2 h3 HE
  have HE := Lib.hid HE
  clear r0 r1 r2 r3 z0 z1 zf zf1 y0 y1 y2 y3 yf0 yf1 yf2 yf3
  generalize World.drew _ = wE at *
  go_wp2_with fail
  refine bodyPost_ret (results4979 rfl rfl rfl g0 g1 h0 h1 h2 h3) rfl ?_
  exact do_end HR5.out HCw.out (fun b h => .inl h) HE.out (hlab 2) (hlab 3) (by omega) (by omega) ⟨0, last X.st⟩
set_option maxRecDepth 100000 in
set_option maxHeartbeats 4000000 in
theorem do_1 (hR : RRep w P X) (t k : Nat) (ht : t < 16) (hk : k < 16) (n : Int) (hE : refusedE X.st ⟨1, t, k, n⟩ = 0) (hin : (X.st.txs t).inst < X.st.insts.length) :
    Calls Try.prog 51 #[runV P X, .agg #[.int .i64 1, .int .i64 t, .int .i64 k, .int .i64 n]] w (DoPost w P ⟨0, see X.st t k⟩ { X with st := Tx.look X.st t k }) := by
  have HR := Lib.hid hR
  have HREF := fun (w' : World) (h : New w w') => refused_any (hR.new h) ⟨1, t, k, n⟩
  have HREF := Lib.hid HREF
  clear hR
  unfold runV at HREF
  unfold runV
  go_enter Try.func51, Try.ntmps51
  go_upto_region 1 with fail
  have hNa : New w ((((w.alloc (.cells #[.slice (some ⟨P.ga, 0, none⟩) 16 P.ca, .slice (some ⟨P.gW, 0, none⟩) X.st.insts.length P.cW, .slice (some ⟨P.gC, 0, none⟩) X.st.insts.length P.cC, .int .i64 X.commits] 79)).alloc (.cells #[.int .i64 1, .int .i64 t, .int .i64 k, .int .i64 n] 47)).alloc (.cells #[.int .i64 0, .int .i64 0] 49)).alloc (.cells #[.slice none 0 0, .slice none 0 0, .slice none 0 0, .int .i64 0] 79)) := ((((Chg.refl _ w).alloc _).alloc _).alloc _).alloc _
  have hBR : Blk ((((w.alloc (.cells #[.slice (some ⟨P.ga, 0, none⟩) 16 P.ca, .slice (some ⟨P.gW, 0, none⟩) X.st.insts.length P.cW, .slice (some ⟨P.gC, 0, none⟩) X.st.insts.length P.cC, .int .i64 X.commits] 79)).alloc (.cells #[.int .i64 1, .int .i64 t, .int .i64 k, .int .i64 n] 47)).alloc (.cells #[.int .i64 0, .int .i64 0] 49)).alloc (.cells #[.slice none 0 0, .slice none 0 0, .slice none 0 0, .int .i64 0] 79)) w.heap.size 79 4 (nth [.slice (some ⟨P.ga, 0, none⟩) 16 P.ca, .slice (some ⟨P.gW, 0, none⟩) X.st.insts.length P.cW, .slice (some ⟨P.gC, 0, none⟩) X.st.insts.length P.cC, .int .i64 X.commits]) := (((Blk.ofL w _ 79).alloc _).alloc _).alloc _
  have hBO : Blk ((((w.alloc (.cells #[.slice (some ⟨P.ga, 0, none⟩) 16 P.ca, .slice (some ⟨P.gW, 0, none⟩) X.st.insts.length P.cW, .slice (some ⟨P.gC, 0, none⟩) X.st.insts.length P.cC, .int .i64 X.commits] 79)).alloc (.cells #[.int .i64 1, .int .i64 t, .int .i64 k, .int .i64 n] 47)).alloc (.cells #[.int .i64 0, .int .i64 0] 49)).alloc (.cells #[.slice none 0 0, .slice none 0 0, .slice none 0 0, .int .i64 0] 79)) (w.heap.size + 1) 47 4 (nth [.int .i64 1, .int .i64 t, .int .i64 k, .int .i64 n]) := by
    have := ((Blk.ofL (w.alloc (.cells #[.slice (some ⟨P.ga, 0, none⟩) 16 P.ca, .slice (some ⟨P.gW, 0, none⟩) X.st.insts.length P.cW, .slice (some ⟨P.gC, 0, none⟩) X.st.insts.length P.cC, .int .i64 X.commits] 79)) [.int .i64 1, .int .i64 t, .int .i64 k, .int .i64 n] 47).alloc (.cells #[.int .i64 0, .int .i64 0] 49)).alloc (.cells #[.slice none 0 0, .slice none 0 0, .slice none 0 0, .int .i64 0] 79)
    rwa [World.size_alloc] at this
  have hBA : Blk ((((w.alloc (.cells #[.slice (some ⟨P.ga, 0, none⟩) 16 P.ca, .slice (some ⟨P.gW, 0, none⟩) X.st.insts.length P.cW, .slice (some ⟨P.gC, 0, none⟩) X.st.insts.length P.cC, .int .i64 X.commits] 79)).alloc (.cells #[.int .i64 1, .int .i64 t, .int .i64 k, .int .i64 n] 47)).alloc (.cells #[.int .i64 0, .int .i64 0] 49)).alloc (.cells #[.slice none 0 0, .slice none 0 0, .slice none 0 0, .int .i64 0] 79)) (w.heap.size + 2) 49 2 (nth [.int .i64 0, .int .i64 0]) := by
    have := (Blk.ofL ((w.alloc (.cells #[.slice (some ⟨P.ga, 0, none⟩) 16 P.ca, .slice (some ⟨P.gW, 0, none⟩) X.st.insts.length P.cW, .slice (some ⟨P.gC, 0, none⟩) X.st.insts.length P.cC, .int .i64 X.commits] 79)).alloc (.cells #[.int .i64 1, .int .i64 t, .int .i64 k, .int .i64 n] 47)) [.int .i64 0, .int .i64 0] 49).alloc (.cells #[.slice none 0 0, .slice none 0 0, .slice none 0 0, .int .i64 0] 79)
    rwa [World.size_alloc, World.size_alloc] at this
  have hBZ : Blk ((((w.alloc (.cells #[.slice (some ⟨P.ga, 0, none⟩) 16 P.ca, .slice (some ⟨P.gW, 0, none⟩) X.st.insts.length P.cW, .slice (some ⟨P.gC, 0, none⟩) X.st.insts.length P.cC, .int .i64 X.commits] 79)).alloc (.cells #[.int .i64 1, .int .i64 t, .int .i64 k, .int .i64 n] 47)).alloc (.cells #[.int .i64 0, .int .i64 0] 49)).alloc (.cells #[.slice none 0 0, .slice none 0 0, .slice none 0 0, .int .i64 0] 79)) (w.heap.size + 3) 79 4 (nth [.slice none 0 0, .slice none 0 0, .slice none 0 0, .int .i64 0]) := by
    have := Blk.ofL (((w.alloc (.cells #[.slice (some ⟨P.ga, 0, none⟩) 16 P.ca, .slice (some ⟨P.gW, 0, none⟩) X.st.insts.length P.cW, .slice (some ⟨P.gC, 0, none⟩) X.st.insts.length P.cC, .int .i64 X.commits] 79)).alloc (.cells #[.int .i64 1, .int .i64 t, .int .i64 k, .int .i64 n] 47)).alloc (.cells #[.int .i64 0, .int .i64 0] 49)) [.slice none 0 0, .slice none 0 0, .slice none 0 0, .int .i64 0] 79
    rwa [World.size_alloc, World.size_alloc, World.size_alloc] at this
  have hlab : ∀ i, P.lab (w.heap.size + i) = 0 := fun i => HR.out.hi _ (by omega)
  have HBR := Lib.hid hBR; have HBO := Lib.hid hBO; have HBA := Lib.hid hBA; have HBZ := Lib.hid hBZ; have HNa := Lib.hid hNa
  clear hBR hBO hBA hBZ hNa
  generalize (((w.alloc _).alloc _).alloc _).alloc _ = w1 at *
  generalize hnr : w.heap.size = nr at *
  have r0 : w1.cell? ⟨nr, 0, none⟩ = some (.slice (some ⟨P.ga, 0, none⟩) 16 P.ca) := HBR.out.cell (by decide)
  have r1 : w1.cell? ⟨nr, 1, none⟩ = some (.slice (some ⟨P.gW, 0, none⟩) X.st.insts.length P.cW) := HBR.out.cell (by decide)
  have r2 : w1.cell? ⟨nr, 2, none⟩ = some (.slice (some ⟨P.gC, 0, none⟩) X.st.insts.length P.cC) := HBR.out.cell (by decide)
  have r3 : w1.cell? ⟨nr, 3, none⟩ = some (.int .i64 X.commits) := HBR.out.cell (by decide)
  have o0 : w1.cell? ⟨(nr + 1), 0, none⟩ = some (.int .i64 1) := HBO.out.cell (by decide)
  have o1 : w1.cell? ⟨(nr + 1), 1, none⟩ = some (.int .i64 t) := HBO.out.cell (by decide)
  have o2 : w1.cell? ⟨(nr + 1), 2, none⟩ = some (.int .i64 k) := HBO.out.cell (by decide)
  have o3 : w1.cell? ⟨(nr + 1), 3, none⟩ = some (.int .i64 n) := HBO.out.cell (by decide)
  rw [hE] at HREF
  have ht1 : (t : Int) < 16 := by omega
  have ht0 : (0 : Int) ≤ (t : Int) := by omega
  go_upto_region 4 with ((with_reducible refine (HREF.out _ HNa.out).mono ?_); rintro e w2 ⟨rfl, hN2⟩; have HN2 := Lib.hid hN2; clear hN2)
  clear r0 r1 r2 r3 o0 o1 o2 o3
  have HBR2 := Lib.hid (HBR.out.chg HN2.out (fun h => h)); have HBO2 := Lib.hid (HBO.out.chg HN2.out (fun h => h)); have HBA2 := Lib.hid (HBA.out.chg HN2.out (fun h => h)); have HBZ2 := Lib.hid (HBZ.out.chg HN2.out (fun h => h))
  have HNw2 := Lib.hid (HNa.out.trans HN2.out)
  have HR2 := Lib.hid (HR.out.new HNw2.out)
  clear HBR HBO HBA HBZ HNa HN2 HREF
  have r0 : w2.cell? ⟨nr, 0, none⟩ = some (.slice (some ⟨P.ga, 0, none⟩) 16 P.ca) := HBR2.out.cell (by decide)
  have o1 : w2.cell? ⟨nr + 1, 1, none⟩ = some (.int .i64 t) := HBO2.out.cell (by decide)
  obtain ⟨a0, a1, a2, a3, a4, a5, a6, a7, a8⟩ := HR2.out.st9 ht
  have HBR3 := Lib.hid (HBR2.out.alloc (.cells #[.bool (X.st.txs t).begun, .bool (X.st.txs t).over, .bool (X.st.txs t).comm, .int .i64 (X.st.txs t).inst, .slice (some ⟨P.rd t, 0, none⟩) 16 16, .slice (some ⟨P.wb t, 0, none⟩) 16 16, .slice (some ⟨P.vb t, 0, none⟩) 16 16, .int .i64 (X.made t), .int .i64 (X.turn t)] 93)); have HBO3 := Lib.hid (HBO2.out.alloc (.cells #[.bool (X.st.txs t).begun, .bool (X.st.txs t).over, .bool (X.st.txs t).comm, .int .i64 (X.st.txs t).inst, .slice (some ⟨P.rd t, 0, none⟩) 16 16, .slice (some ⟨P.wb t, 0, none⟩) 16 16, .slice (some ⟨P.vb t, 0, none⟩) 16 16, .int .i64 (X.made t), .int .i64 (X.turn t)] 93)); have HBA3 := Lib.hid (HBA2.out.alloc (.cells #[.bool (X.st.txs t).begun, .bool (X.st.txs t).over, .bool (X.st.txs t).comm, .int .i64 (X.st.txs t).inst, .slice (some ⟨P.rd t, 0, none⟩) 16 16, .slice (some ⟨P.wb t, 0, none⟩) 16 16, .slice (some ⟨P.vb t, 0, none⟩) 16 16, .int .i64 (X.made t), .int .i64 (X.turn t)] 93)); have HBZ3 := Lib.hid (HBZ2.out.alloc (.cells #[.bool (X.st.txs t).begun, .bool (X.st.txs t).over, .bool (X.st.txs t).comm, .int .i64 (X.st.txs t).inst, .slice (some ⟨P.rd t, 0, none⟩) 16 16, .slice (some ⟨P.wb t, 0, none⟩) 16 16, .slice (some ⟨P.vb t, 0, none⟩) 16 16, .int .i64 (X.made t), .int .i64 (X.turn t)] 93))
  have HBL3 : Hid (Blk (w2.alloc (.cells #[.bool (X.st.txs t).begun, .bool (X.st.txs t).over, .bool (X.st.txs t).comm, .int .i64 (X.st.txs t).inst, .slice (some ⟨P.rd t, 0, none⟩) 16 16, .slice (some ⟨P.wb t, 0, none⟩) 16 16, .slice (some ⟨P.vb t, 0, none⟩) 16 16, .int .i64 (X.made t), .int .i64 (X.turn t)] 93)) w2.heap.size 93 9 (nth [.bool (X.st.txs t).begun, .bool (X.st.txs t).over, .bool (X.st.txs t).comm, .int .i64 (X.st.txs t).inst, .slice (some ⟨P.rd t, 0, none⟩) 16 16, .slice (some ⟨P.wb t, 0, none⟩) 16 16, .slice (some ⟨P.vb t, 0, none⟩) 16 16, .int .i64 (X.made t), .int .i64 (X.turn t)])) := Lib.hid (Blk.ofL w2 _ 93)
  have HNw3 := Lib.hid (HNw2.out.alloc (.cells #[.bool (X.st.txs t).begun, .bool (X.st.txs t).over, .bool (X.st.txs t).comm, .int .i64 (X.st.txs t).inst, .slice (some ⟨P.rd t, 0, none⟩) 16 16, .slice (some ⟨P.wb t, 0, none⟩) 16 16, .slice (some ⟨P.vb t, 0, none⟩) 16 16, .int .i64 (X.made t), .int .i64 (X.turn t)] 93))
  have hll : P.lab w2.heap.size = 0 := HR2.out.hi _ (Nat.le_refl _)
  have hzl : nr + 3 < w2.heap.size := HBZ2.out.lt
  have HR3 := Lib.hid (HR.out.new HNw3.out)
  go_upto_region 5 with fail
  clear r0 o1 a0 a1 a2 a3 a4 a5 a6 a7 a8 HBR2 HBO2 HBA2 HBZ2 HNw2 HR2
  generalize w2.alloc _ = w3 at *
  generalize w2.heap.size = nl at *
  have hnr2 : w.heap.size ≤ nr := by omega
  have hlA := HR3.out.la
  have hA0 : nr ≠ P.ga := fun e => by have := hlab 0; rw [Nat.add_zero, e, hlA] at this; cases this
  have hA1 : nr + 1 ≠ P.ga := fun e => by have := hlab 1; rw [e, hlA] at this; cases this
  have hA2 : nr + 2 ≠ P.ga := fun e => by have := hlab 2; rw [e, hlA] at this; cases this
  have hA3 : nr + 3 ≠ P.ga := fun e => by have := hlab 3; rw [e, hlA] at this; cases this
  have hAl : nl ≠ P.ga := fun e => by rw [e, hlA] at hll; cases hll
  have HRD := Lib.hid (rread_any HR3.out t k ht hk hin)
  unfold runV at HRD
  have o0 : w3.cell? ⟨nr + 1, 0, none⟩ = some (.int .i64 1) := HBO3.out.cell (by decide)
  have o1 : w3.cell? ⟨nr + 1, 1, none⟩ = some (.int .i64 t) := HBO3.out.cell (by decide)
  have o2 : w3.cell? ⟨nr + 1, 2, none⟩ = some (.int .i64 k) := HBO3.out.cell (by decide)
  have r0 : w3.cell? ⟨nr, 0, none⟩ = some (.slice (some ⟨P.ga, 0, none⟩) 16 P.ca) := HBR3.out.cell (by decide)
  have r1 : w3.cell? ⟨nr, 1, none⟩ = some (.slice (some ⟨P.gW, 0, none⟩) X.st.insts.length P.cW) := HBR3.out.cell (by decide)
  have r2 : w3.cell? ⟨nr, 2, none⟩ = some (.slice (some ⟨P.gC, 0, none⟩) X.st.insts.length P.cC) := HBR3.out.cell (by decide)
  have r3 : w3.cell? ⟨nr, 3, none⟩ = some (.int .i64 X.commits) := HBR3.out.cell (by decide)
  go_upto_region 12 with ((with_reducible refine HRD.out.mono ?_); rintro e w4 ⟨rfl, hR4, hC4⟩; have HR4 := Lib.hid hR4; have HC4 := Lib.hid hC4; have HBA4 := Lib.hid (HBA3.out.chg hC4 (fun h => h (hlab 2))); have HBZ4 := Lib.hid (HBZ3.out.chg hC4 (fun h => h (hlab 3))); have HBO4 := Lib.hid (HBO3.out.chg hC4 (fun h => h (hlab 1))); clear hR4 hC4)
  clear r0 r1 r2 r3 o0 o1 o2
  have HBA5 := Lib.hid (HBA4.out.alloc (.cells #[.slice (some ⟨P.ga, 0, none⟩) 16 P.ca, .slice (some ⟨P.gW, 0, none⟩) X.st.insts.length P.cW, .slice (some ⟨P.gC, 0, none⟩) X.st.insts.length P.cC, .int .i64 X.commits] 79)); have HBZ5 := Lib.hid (HBZ4.out.alloc (.cells #[.slice (some ⟨P.ga, 0, none⟩) 16 P.ca, .slice (some ⟨P.gW, 0, none⟩) X.st.insts.length P.cW, .slice (some ⟨P.gC, 0, none⟩) X.st.insts.length P.cC, .int .i64 X.commits] 79))
  have HBR5 : Hid (Blk (w4.alloc (.cells #[.slice (some ⟨P.ga, 0, none⟩) 16 P.ca, .slice (some ⟨P.gW, 0, none⟩) X.st.insts.length P.cW, .slice (some ⟨P.gC, 0, none⟩) X.st.insts.length P.cC, .int .i64 X.commits] 79)) w4.heap.size 79 4 (nth [.slice (some ⟨P.ga, 0, none⟩) 16 P.ca, .slice (some ⟨P.gW, 0, none⟩) X.st.insts.length P.cW, .slice (some ⟨P.gC, 0, none⟩) X.st.insts.length P.cC, .int .i64 X.commits])) := Lib.hid (Blk.ofL w4 _ 79)
  have HR5 := Lib.hid (HR4.out.new ((Chg.refl _ w4).alloc (.cells #[.slice (some ⟨P.ga, 0, none⟩) 16 P.ca, .slice (some ⟨P.gW, 0, none⟩) X.st.insts.length P.cW, .slice (some ⟨P.gC, 0, none⟩) X.st.insts.length P.cC, .int .i64 X.commits] 79)))
  have HCw : Hid (Chg (fun b => P.lab b ≠ 0) w (w4.alloc (.cells #[.slice (some ⟨P.ga, 0, none⟩) 16 P.ca, .slice (some ⟨P.gW, 0, none⟩) X.st.insts.length P.cW, .slice (some ⟨P.gC, 0, none⟩) X.st.insts.length P.cC, .int .i64 X.commits] 79))) := Lib.hid (((HNw3.out.mono (fun _ _ h => absurd h id)).trans HC4.out).alloc _)
  have h34 := HC4.out.size
  have hzl4 : nr + 3 < w4.heap.size := HBZ4.out.lt
  generalize w4.alloc _ = w5 at *
  generalize w4.heap.size = nb at *
  have r0 : w5.cell? ⟨nb, 0, none⟩ = some (.slice (some ⟨P.ga, 0, none⟩) 16 P.ca) := HBR5.out.cell (by decide)
  have r1 : w5.cell? ⟨nb, 1, none⟩ = some (.slice (some ⟨P.gW, 0, none⟩) X.st.insts.length P.cW) := HBR5.out.cell (by decide)
  have r2 : w5.cell? ⟨nb, 2, none⟩ = some (.slice (some ⟨P.gC, 0, none⟩) X.st.insts.length P.cC) := HBR5.out.cell (by decide)
  have r3 : w5.cell? ⟨nb, 3, none⟩ = some (.int .i64 X.commits) := HBR5.out.cell (by decide)
  have z0 := HBA5.out.cell (i := 0) (by decide)
  have z1 := HBA5.out.cell (i := 1) (by decide)
  have zf := HBA5.out.free 0
  have zf1 := HBA5.out.free 1
  have y0 := HBZ5.out.cell (i := 0) (by decide)
  have y1 := HBZ5.out.cell (i := 1) (by decide)
  have y2 := HBZ5.out.cell (i := 2) (by decide)
  have y3 := HBZ5.out.cell (i := 3) (by decide)
  have yf0 := HBZ5.out.free 0; have yf1 := HBZ5.out.free 1; have yf2 := HBZ5.out.free 2; have yf3 := HBZ5.out.free 3
  apply wp_once
  case h1 =>
    go_region_law (fail)
    all_goals exact ⟨rfl, rfl⟩
  obtain ⟨g0, g1, h0, h1, h2, h3, HE⟩ := end_cells (.int .i64 0) (.int .i64 (see X.st t k)) (.slice (some ⟨P.ga, 0, none⟩) 16 P.ca) (.slice (some ⟨P.gW, 0, none⟩) X.st.insts.length P.cW) (.slice (some ⟨P.gC, 0, none⟩) X.st.insts.length P.cC) (.int .i64 X.commits) (d := nr + 1 + 1) (nz := nr + 1 + 1 + 1) HBA5.out HBZ5.out (by omega)
  unfold endW at g0 g1 h0 h1 h2 h3 HE
  have HE := Lib.hid HE
  clear r0 r1 r2 r3 z0 z1 zf zf1 y0 y1 y2 y3 yf0 yf1 yf2 yf3
  generalize World.drew _ = wE at *
  go_wp2_with fail
  refine bodyPost_ret (results4979 rfl rfl rfl g0 g1 h0 h1 h2 h3) rfl ?_
  have e1 : (Tx.look X.st t k).insts = X.st.insts := (look_facts X.st t k).1
  have hF := do_end HR5.out HCw.out (fun b h => .inl h) HE.out (hlab 2) (hlab 3) (by omega) (by omega) ⟨0, see X.st t k⟩
  unfold runV at hF
  rw [e1] at hF
  exact hF
set_option maxRecDepth 100000 in
set_option maxHeartbeats 4000000 in
theorem do_2 (hR : RRep w P X) (t k : Nat) (ht : t < 16) (hk : k < 16) (n : Int) (hE : refusedE X.st ⟨2, t, k, n⟩ = 0) (hov : (X.st.txs t).over = false) :
    Calls Try.prog 51 #[runV P X, .agg #[.int .i64 2, .int .i64 t, .int .i64 k, .int .i64 n]] w (DoPost w P ⟨0, 0⟩ { X with st := Tx.put X.st t k n }) := by
  have HOV := Lib.hid hov
  clear hov
  have HR := Lib.hid hR
  have HREF := fun (w' : World) (h : New w w') => refused_any (hR.new h) ⟨2, t, k, n⟩
  have HREF := Lib.hid HREF
  clear hR
  unfold runV at HREF
  unfold runV
  go_enter Try.func51, Try.ntmps51
  go_upto_region 1 with fail
  have hNa : New w ((((w.alloc (.cells #[.slice (some ⟨P.ga, 0, none⟩) 16 P.ca, .slice (some ⟨P.gW, 0, none⟩) X.st.insts.length P.cW, .slice (some ⟨P.gC, 0, none⟩) X.st.insts.length P.cC, .int .i64 X.commits] 79)).alloc (.cells #[.int .i64 2, .int .i64 t, .int .i64 k, .int .i64 n] 47)).alloc (.cells #[.int .i64 0, .int .i64 0] 49)).alloc (.cells #[.slice none 0 0, .slice none 0 0, .slice none 0 0, .int .i64 0] 79)) := ((((Chg.refl _ w).alloc _).alloc _).alloc _).alloc _
  have hBR : Blk ((((w.alloc (.cells #[.slice (some ⟨P.ga, 0, none⟩) 16 P.ca, .slice (some ⟨P.gW, 0, none⟩) X.st.insts.length P.cW, .slice (some ⟨P.gC, 0, none⟩) X.st.insts.length P.cC, .int .i64 X.commits] 79)).alloc (.cells #[.int .i64 2, .int .i64 t, .int .i64 k, .int .i64 n] 47)).alloc (.cells #[.int .i64 0, .int .i64 0] 49)).alloc (.cells #[.slice none 0 0, .slice none 0 0, .slice none 0 0, .int .i64 0] 79)) w.heap.size 79 4 (nth [.slice (some ⟨P.ga, 0, none⟩) 16 P.ca, .slice (some ⟨P.gW, 0, none⟩) X.st.insts.length P.cW, .slice (some ⟨P.gC, 0, none⟩) X.st.insts.length P.cC, .int .i64 X.commits]) := (((Blk.ofL w _ 79).alloc _).alloc _).alloc _
  have hBO : Blk ((((w.alloc (.cells #[.slice (some ⟨P.ga, 0, none⟩) 16 P.ca, .slice (some ⟨P.gW, 0, none⟩) X.st.insts.length P.cW, .slice (some ⟨P.gC, 0, none⟩) X.st.insts.length P.cC, .int .i64 X.commits] 79)).alloc (.cells #[.int .i64 2, .int .i64 t, .int .i64 k, .int .i64 n] 47)).alloc (.cells #[.int .i64 0, .int .i64 0] 49)).alloc (.cells #[.slice none 0 0, .slice none 0 0, .slice none 0 0, .int .i64 0] 79)) (w.heap.size + 1) 47 4 (nth [.int .i64 2, .int .i64 t, .int .i64 k, .int .i64 n]) := by
    have := ((Blk.ofL (w.alloc (.cells #[.slice (some ⟨P.ga, 0, none⟩) 16 P.ca, .slice (some ⟨P.gW, 0, none⟩) X.st.insts.length P.cW, .slice (some ⟨P.gC, 0, none⟩) X.st.insts.length P.cC, .int .i64 X.commits] 79)) [.int .i64 2, .int .i64 t, .int .i64 k, .int .i64 n] 47).alloc (.cells #[.int .i64 0, .int .i64 0] 49)).alloc (.cells #[.slice none 0 0, .slice none 0 0, .slice none 0 0, .int .i64 0] 79)
    rwa [World.size_alloc] at this
  have hBA : Blk ((((w.alloc (.cells #[.slice (some ⟨P.ga, 0, none⟩) 16 P.ca, .slice (some ⟨P.gW, 0, none⟩) X.st.insts.length P.cW, .slice (some ⟨P.gC, 0, none⟩) X.st.insts.length P.cC, .int .i64 X.commits] 79)).alloc (.cells #[.int .i64 2, .int .i64 t, .int .i64 k, .int .i64 n] 47)).alloc (.cells #[.int .i64 0, .int .i64 0] 49)).alloc (.cells #[.slice none 0 0, .slice none 0 0, .slice none 0 0, .int .i64 0] 79)) (w.heap.size + 2) 49 2 (nth [.int .i64 0, .int .i64 0]) := by
    have := (Blk.ofL ((w.alloc (.cells #[.slice (some ⟨P.ga, 0, none⟩) 16 P.ca, .slice (some ⟨P.gW, 0, none⟩) X.st.insts.length P.cW, .slice (some ⟨P.gC, 0, none⟩) X.st.insts.length P.cC, .int .i64 X.commits] 79)).alloc (.cells #[.int .i64 2, .int .i64 t, .int .i64 k, .int .i64 n] 47)) [.int .i64 0, .int .i64 0] 49).alloc (.cells #[.slice none 0 0, .slice none 0 0, .slice none 0 0, .int .i64 0] 79)
    rwa [World.size_alloc, World.size_alloc] at this
  have hBZ : Blk ((((w.alloc (.cells #[.slice (some ⟨P.ga, 0, none⟩) 16 P.ca, .slice (some ⟨P.gW, 0, none⟩) X.st.insts.length P.cW, .slice (some ⟨P.gC, 0, none⟩) X.st.insts.length P.cC, .int .i64 X.commits] 79)).alloc (.cells #[.int .i64 2, .int .i64 t, .int .i64 k, .int .i64 n] 47)).alloc (.cells #[.int .i64 0, .int .i64 0] 49)).alloc (.cells #[.slice none 0 0, .slice none 0 0, .slice none 0 0, .int .i64 0] 79)) (w.heap.size + 3) 79 4 (nth [.slice none 0 0, .slice none 0 0, .slice none 0 0, .int .i64 0]) := by
    have := Blk.ofL (((w.alloc (.cells #[.slice (some ⟨P.ga, 0, none⟩) 16 P.ca, .slice (some ⟨P.gW, 0, none⟩) X.st.insts.length P.cW, .slice (some ⟨P.gC, 0, none⟩) X.st.insts.length P.cC, .int .i64 X.commits] 79)).alloc (.cells #[.int .i64 2, .int .i64 t, .int .i64 k, .int .i64 n] 47)).alloc (.cells #[.int .i64 0, .int .i64 0] 49)) [.slice none 0 0, .slice none 0 0, .slice none 0 0, .int .i64 0] 79
    rwa [World.size_alloc, World.size_alloc, World.size_alloc] at this
  have hlab : ∀ i, P.lab (w.heap.size + i) = 0 := fun i => HR.out.hi _ (by omega)
  have HBR := Lib.hid hBR; have HBO := Lib.hid hBO; have HBA := Lib.hid hBA; have HBZ := Lib.hid hBZ; have HNa := Lib.hid hNa
  clear hBR hBO hBA hBZ hNa
  generalize (((w.alloc _).alloc _).alloc _).alloc _ = w1 at *
  generalize hnr : w.heap.size = nr at *
  have r0 : w1.cell? ⟨nr, 0, none⟩ = some (.slice (some ⟨P.ga, 0, none⟩) 16 P.ca) := HBR.out.cell (by decide)
  have r1 : w1.cell? ⟨nr, 1, none⟩ = some (.slice (some ⟨P.gW, 0, none⟩) X.st.insts.length P.cW) := HBR.out.cell (by decide)
  have r2 : w1.cell? ⟨nr, 2, none⟩ = some (.slice (some ⟨P.gC, 0, none⟩) X.st.insts.length P.cC) := HBR.out.cell (by decide)
  have r3 : w1.cell? ⟨nr, 3, none⟩ = some (.int .i64 X.commits) := HBR.out.cell (by decide)
  have o0 : w1.cell? ⟨(nr + 1), 0, none⟩ = some (.int .i64 2) := HBO.out.cell (by decide)
  have o1 : w1.cell? ⟨(nr + 1), 1, none⟩ = some (.int .i64 t) := HBO.out.cell (by decide)
  have o2 : w1.cell? ⟨(nr + 1), 2, none⟩ = some (.int .i64 k) := HBO.out.cell (by decide)
  have o3 : w1.cell? ⟨(nr + 1), 3, none⟩ = some (.int .i64 n) := HBO.out.cell (by decide)
  rw [hE] at HREF
  have ht1 : (t : Int) < 16 := by omega
  have ht0 : (0 : Int) ≤ (t : Int) := by omega
  go_upto_region 4 with ((with_reducible refine (HREF.out _ HNa.out).mono ?_); rintro e w2 ⟨rfl, hN2⟩; have HN2 := Lib.hid hN2; clear hN2)
  clear r0 r1 r2 r3 o0 o1 o2 o3
  have HBR2 := Lib.hid (HBR.out.chg HN2.out (fun h => h)); have HBO2 := Lib.hid (HBO.out.chg HN2.out (fun h => h)); have HBA2 := Lib.hid (HBA.out.chg HN2.out (fun h => h)); have HBZ2 := Lib.hid (HBZ.out.chg HN2.out (fun h => h))
  have HNw2 := Lib.hid (HNa.out.trans HN2.out)
  have HR2 := Lib.hid (HR.out.new HNw2.out)
  clear HBR HBO HBA HBZ HNa HN2 HREF
  have r0 : w2.cell? ⟨nr, 0, none⟩ = some (.slice (some ⟨P.ga, 0, none⟩) 16 P.ca) := HBR2.out.cell (by decide)
  have o1 : w2.cell? ⟨nr + 1, 1, none⟩ = some (.int .i64 t) := HBO2.out.cell (by decide)
  obtain ⟨a0, a1, a2, a3, a4, a5, a6, a7, a8⟩ := HR2.out.st9 ht
  have HBR3 := Lib.hid (HBR2.out.alloc (.cells #[.bool (X.st.txs t).begun, .bool (X.st.txs t).over, .bool (X.st.txs t).comm, .int .i64 (X.st.txs t).inst, .slice (some ⟨P.rd t, 0, none⟩) 16 16, .slice (some ⟨P.wb t, 0, none⟩) 16 16, .slice (some ⟨P.vb t, 0, none⟩) 16 16, .int .i64 (X.made t), .int .i64 (X.turn t)] 93)); have HBO3 := Lib.hid (HBO2.out.alloc (.cells #[.bool (X.st.txs t).begun, .bool (X.st.txs t).over, .bool (X.st.txs t).comm, .int .i64 (X.st.txs t).inst, .slice (some ⟨P.rd t, 0, none⟩) 16 16, .slice (some ⟨P.wb t, 0, none⟩) 16 16, .slice (some ⟨P.vb t, 0, none⟩) 16 16, .int .i64 (X.made t), .int .i64 (X.turn t)] 93)); have HBA3 := Lib.hid (HBA2.out.alloc (.cells #[.bool (X.st.txs t).begun, .bool (X.st.txs t).over, .bool (X.st.txs t).comm, .int .i64 (X.st.txs t).inst, .slice (some ⟨P.rd t, 0, none⟩) 16 16, .slice (some ⟨P.wb t, 0, none⟩) 16 16, .slice (some ⟨P.vb t, 0, none⟩) 16 16, .int .i64 (X.made t), .int .i64 (X.turn t)] 93)); have HBZ3 := Lib.hid (HBZ2.out.alloc (.cells #[.bool (X.st.txs t).begun, .bool (X.st.txs t).over, .bool (X.st.txs t).comm, .int .i64 (X.st.txs t).inst, .slice (some ⟨P.rd t, 0, none⟩) 16 16, .slice (some ⟨P.wb t, 0, none⟩) 16 16, .slice (some ⟨P.vb t, 0, none⟩) 16 16, .int .i64 (X.made t), .int .i64 (X.turn t)] 93))
  have HBL3 : Hid (Blk (w2.alloc (.cells #[.bool (X.st.txs t).begun, .bool (X.st.txs t).over, .bool (X.st.txs t).comm, .int .i64 (X.st.txs t).inst, .slice (some ⟨P.rd t, 0, none⟩) 16 16, .slice (some ⟨P.wb t, 0, none⟩) 16 16, .slice (some ⟨P.vb t, 0, none⟩) 16 16, .int .i64 (X.made t), .int .i64 (X.turn t)] 93)) w2.heap.size 93 9 (nth [.bool (X.st.txs t).begun, .bool (X.st.txs t).over, .bool (X.st.txs t).comm, .int .i64 (X.st.txs t).inst, .slice (some ⟨P.rd t, 0, none⟩) 16 16, .slice (some ⟨P.wb t, 0, none⟩) 16 16, .slice (some ⟨P.vb t, 0, none⟩) 16 16, .int .i64 (X.made t), .int .i64 (X.turn t)])) := Lib.hid (Blk.ofL w2 _ 93)
  have HNw3 := Lib.hid (HNw2.out.alloc (.cells #[.bool (X.st.txs t).begun, .bool (X.st.txs t).over, .bool (X.st.txs t).comm, .int .i64 (X.st.txs t).inst, .slice (some ⟨P.rd t, 0, none⟩) 16 16, .slice (some ⟨P.wb t, 0, none⟩) 16 16, .slice (some ⟨P.vb t, 0, none⟩) 16 16, .int .i64 (X.made t), .int .i64 (X.turn t)] 93))
  have hll : P.lab w2.heap.size = 0 := HR2.out.hi _ (Nat.le_refl _)
  have hzl : nr + 3 < w2.heap.size := HBZ2.out.lt
  have HR3 := Lib.hid (HR.out.new HNw3.out)
  go_upto_region 5 with fail
  clear r0 o1 a0 a1 a2 a3 a4 a5 a6 a7 a8 HBR2 HBO2 HBA2 HBZ2 HNw2 HR2
  generalize w2.alloc _ = w3 at *
  generalize w2.heap.size = nl at *
  have hnr2 : w.heap.size ≤ nr := by omega
  have hlA := HR3.out.la
  have hA0 : nr ≠ P.ga := fun e => by have := hlab 0; rw [Nat.add_zero, e, hlA] at this; cases this
  have hA1 : nr + 1 ≠ P.ga := fun e => by have := hlab 1; rw [e, hlA] at this; cases this
  have hA2 : nr + 2 ≠ P.ga := fun e => by have := hlab 2; rw [e, hlA] at this; cases this
  have hA3 : nr + 3 ≠ P.ga := fun e => by have := hlab 3; rw [e, hlA] at this; cases this
  have hAl : nl ≠ P.ga := fun e => by rw [e, hlA] at hll; cases hll
  have o0 : w3.cell? ⟨nr + 1, 0, none⟩ = some (.int .i64 2) := HBO3.out.cell (by decide)
  have o2 : w3.cell? ⟨nr + 1, 2, none⟩ = some (.int .i64 k) := HBO3.out.cell (by decide)
  have o3 : w3.cell? ⟨nr + 1, 3, none⟩ = some (.int .i64 n) := HBO3.out.cell (by decide)
  have l5 : w3.cell? ⟨nl, 5, none⟩ = some (.slice (some ⟨P.wb t, 0, none⟩) 16 16) := HBL3.out.cell (by decide)
  have l6 : w3.cell? ⟨nl, 6, none⟩ = some (.slice (some ⟨P.vb t, 0, none⟩) 16 16) := HBL3.out.cell (by decide)
  have hlw := HR3.out.lw t ht
  have hlv := HR3.out.lv t ht
  have d1 : P.wb t ≠ P.vb t := fun e => by rw [e, hlv] at hlw; omega
  have d2 : nl ≠ P.wb t := fun e => by rw [e, hlw] at hll; omega
  have d3 : nl ≠ P.vb t := fun e => by rw [e, hlv] at hll; omega
  have d4 : nr + 1 ≠ P.wb t := fun e => by have := hlab 1; rw [e, hlw] at this; omega
  have d5 : nr + 1 ≠ P.vb t := fun e => by have := hlab 1; rw [e, hlv] at this; omega
  have d6 : nr ≠ P.wb t := fun e => by have := hlab 0; rw [Nat.add_zero, e, hlw] at this; omega
  have d7 : nr ≠ P.vb t := fun e => by have := hlab 0; rw [Nat.add_zero, e, hlv] at this; omega
  have d8 : nr + 2 ≠ P.wb t := fun e => by have := hlab 2; rw [e, hlw] at this; omega
  have d9 : nr + 2 ≠ P.vb t := fun e => by have := hlab 2; rw [e, hlv] at this; omega
  have d10 : nr + 3 ≠ P.wb t := fun e => by have := hlab 3; rw [e, hlw] at this; omega
  have d11 : nr + 3 ≠ P.vb t := fun e => by have := hlab 3; rw [e, hlv] at this; omega
  have x0 := HR3.out.wbC t k ht hk
  have v0 := HR3.out.vbC t k ht hk
  have xf := HR3.out.wbF t k ht
  have vf := HR3.out.vbF t k ht
  have k0 : (0 : Int) ≤ (k : Int) := by omega
  have k1 : (k : Int) < 16 := by omega
  have hS0 := And.intro l5 (And.intro l6 (And.intro o2 o3))
  go_upto_region 14 with fail
  apply wp_once
  case h1 =>
    go_region_held3 (fun w' => w'.cell? ⟨nl, 5, none⟩ = some (.slice (some ⟨P.wb t, 0, none⟩) 16 16) ∧ w'.cell? ⟨nl, 6, none⟩ = some (.slice (some ⟨P.vb t, 0, none⟩) 16 16) ∧ w'.cell? ⟨nr + 1, 2, none⟩ = some (.int .i64 k) ∧ w'.cell? ⟨nr + 1, 3, none⟩ = some (.int .i64 n)) (first | exact hS0 | exact four_set hS0 (.bool true) d2 d4 | exact four_set (four_set hS0 (.bool true) d2 d4) (.int .i64 n) d3 d5) (fail)
    all_goals exact ⟨rfl, rfl⟩
  have HR4 : Hid (RRep ((w3.setCell ⟨P.wb t, k, none⟩ (.bool true)).setCell ⟨P.vb t, k, none⟩ (.int .i64 n)).drew P { X with st := Tx.put X.st t k n }) := Lib.hid ((HR3.out.setWr ht hk HOV.out n).new ((Chg.refl _ _).drew))
  have HC4 : Hid (Chg (fun b => b = P.wb t ∨ b = P.vb t) w3 ((w3.setCell ⟨P.wb t, k, none⟩ (.bool true)).setCell ⟨P.vb t, k, none⟩ (.int .i64 n)).drew) := Lib.hid ((((Chg.refl (fun b => b = P.wb t ∨ b = P.vb t) w3).setCell (fun _ => .inl rfl) _).setCell (fun _ => .inr rfl) _).drew)
  clear o0 o2 o3 l5 l6 x0 v0 xf vf hS0
  generalize World.drew _ = w4 at *
  have HBL4 := Lib.hid (HBL3.out.chg HC4.out (fun e => e.elim d2 d3))
  have HBR4 := Lib.hid (HBR3.out.chg HC4.out (fun e => e.elim d6 d7)); have HBO4 := Lib.hid (HBO3.out.chg HC4.out (fun e => e.elim d4 d5)); have HBA4 := Lib.hid (HBA3.out.chg HC4.out (fun e => e.elim d8 d9)); have HBZ4 := Lib.hid (HBZ3.out.chg HC4.out (fun e => e.elim d10 d11))
  have l0 : w4.cell? ⟨nl, 0, none⟩ = some (.bool (X.st.txs t).begun) := HBL4.out.cell (by decide)
  have l1 : w4.cell? ⟨nl, 1, none⟩ = some (.bool (X.st.txs t).over) := HBL4.out.cell (by decide)
  have l2 : w4.cell? ⟨nl, 2, none⟩ = some (.bool (X.st.txs t).comm) := HBL4.out.cell (by decide)
  have l3 : w4.cell? ⟨nl, 3, none⟩ = some (.int .i64 (X.st.txs t).inst) := HBL4.out.cell (by decide)
  have l4 : w4.cell? ⟨nl, 4, none⟩ = some (.slice (some ⟨P.rd t, 0, none⟩) 16 16) := HBL4.out.cell (by decide)
  have l5 : w4.cell? ⟨nl, 5, none⟩ = some (.slice (some ⟨P.wb t, 0, none⟩) 16 16) := HBL4.out.cell (by decide)
  have l6 : w4.cell? ⟨nl, 6, none⟩ = some (.slice (some ⟨P.vb t, 0, none⟩) 16 16) := HBL4.out.cell (by decide)
  have l7 : w4.cell? ⟨nl, 7, none⟩ = some (.int .i64 (X.made t)) := HBL4.out.cell (by decide)
  have l8 : w4.cell? ⟨nl, 8, none⟩ = some (.int .i64 (X.turn t)) := HBL4.out.cell (by decide)
  have r0 : w4.cell? ⟨nr, 0, none⟩ = some (.slice (some ⟨P.ga, 0, none⟩) 16 P.ca) := HBR4.out.cell (by decide)
  have o1 : w4.cell? ⟨nr + 1, 1, none⟩ = some (.int .i64 t) := HBO4.out.cell (by decide)
  go_upto_region 16 with (refine wpList_storeN 93 9 Try.info93s _ rfl _ _ rfl P.ga (t * 9) _ rfl rfl rfl (by simp [Value.oneCell']) (fun j hj => by rw [HR4.out.all t j ht hj]; rfl) HR4.out.allF ?_; intro w5 hC hin hout hfr; have HC5 := Lib.hid hC; have HI5 := Lib.hid hin; have HO5 := Lib.hid hout; have HF5 := Lib.hid hfr; clear hC hin hout hfr)
  clear l0 l1 l2 l3 l4 l5 l6 l7 l8 r0 o1
  have HBL5 := Lib.hid (HBL4.out.chg HC5.out hAl)
  have HBR5 := Lib.hid (HBR4.out.chg HC5.out hA0); have HBO5 := Lib.hid (HBO4.out.chg HC5.out hA1); have HBA5 := Lib.hid (HBA4.out.chg HC5.out hA2); have HBZ5 := Lib.hid (HBZ4.out.chg HC5.out hA3)
  have HR5 : Hid (RRep w5 P { X with st := Tx.put X.st t k n }) :=
    Lib.hid (HR4.out.setTxn (x := { X.st.txs t with writes := true }) (m := X.made t) (n := X.turn t) ht HC5.out (nine (HI5.out 0 _ rfl) (HI5.out 1 _ rfl) (HI5.out 2 _ rfl) (HI5.out 3 _ rfl) (HI5.out 4 _ rfl) (HI5.out 5 _ rfl) (HI5.out 6 _ rfl) (HI5.out 7 _ rfl) (HI5.out 8 _ rfl)) HO5.out HF5.out rfl rfl (fun i => by
      by_cases e : i = t
      · rw [if_pos e, e]; exact if_pos rfl
      · rw [if_neg e]) rfl rfl (fun i hi => ⟨rfl, rfl⟩) (by show _ = (if t = t then _ else _ : Txn).read; rw [if_pos rfl]) (fun h => by
        have : (if t = t then { X.st.txs t with writes := true } else X.st.txs t : Txn).over = true := h
        rw [if_pos rfl] at this; exact this))
  have HCw : Hid (Chg (fun b => P.lab b ≠ 0) w w5) := Lib.hid (((HNw3.out.mono (fun _ _ h => absurd h id)).then HC4.out (fun i _ e => e.elim (fun e => by rw [e, hlw]; omega) (fun e => by rw [e, hlv]; omega))).then HC5.out (fun i _ e => by rw [e, hlA]; decide))
  have r0 : w5.cell? ⟨nr, 0, none⟩ = some (.slice (some ⟨P.ga, 0, none⟩) 16 P.ca) := HBR5.out.cell (by decide)
  have r1 : w5.cell? ⟨nr, 1, none⟩ = some (.slice (some ⟨P.gW, 0, none⟩) X.st.insts.length P.cW) := HBR5.out.cell (by decide)
  have r2 : w5.cell? ⟨nr, 2, none⟩ = some (.slice (some ⟨P.gC, 0, none⟩) X.st.insts.length P.cC) := HBR5.out.cell (by decide)
  have r3 : w5.cell? ⟨nr, 3, none⟩ = some (.int .i64 X.commits) := HBR5.out.cell (by decide)
  have z0 := HBA5.out.cell (i := 0) (by decide)
  have z1 := HBA5.out.cell (i := 1) (by decide)
  have zf := HBA5.out.free 0
  have zf1 := HBA5.out.free 1
  have y0 := HBZ5.out.cell (i := 0) (by decide)
  have y1 := HBZ5.out.cell (i := 1) (by decide)
  have y2 := HBZ5.out.cell (i := 2) (by decide)
  have y3 := HBZ5.out.cell (i := 3) (by decide)
  have yf0 := HBZ5.out.free 0; have yf1 := HBZ5.out.free 1; have yf2 := HBZ5.out.free 2; have yf3 := HBZ5.out.free 3
  apply wp_once
  case h1 =>
    go_region_law (fail)
    all_goals exact ⟨rfl, rfl⟩
  obtain ⟨g0, g1, h0, h1, h2, h3, HE⟩ := end_cells (.int .i64 0) (.int .i64 0) (.slice (some ⟨P.ga, 0, none⟩) 16 P.ca) (.slice (some ⟨P.gW, 0, none⟩) X.st.insts.length P.cW) (.slice (some ⟨P.gC, 0, none⟩) X.st.insts.length P.cC) (.int .i64 X.commits) (d := nr + 1 + 1) (nz := nr + 1 + 1 + 1) HBA5.out HBZ5.out (by omega)
  unfold endW at g0 g1 h0 h1 h2 h3 HE
  have HE := Lib.hid HE
  clear r0 r1 r2 r3 z0 z1 zf zf1 y0 y1 y2 y3 yf0 yf1 yf2 yf3
  generalize World.drew _ = wE at *
  go_wp2_with fail
  refine bodyPost_ret (results4979 rfl rfl rfl g0 g1 h0 h1 h2 h3) rfl ?_
  exact do_end HR5.out HCw.out (fun b h => .inl h) HE.out (hlab 2) (hlab 3) (by omega) (by omega) ⟨0, 0⟩
set_option maxRecDepth 100000 in
set_option maxHeartbeats 4000000 in
theorem do_3 (hR : RRep w P X) (t k : Nat) (ht : t < 16) (hk : k < 16) (n : Int) (hE : refusedE X.st ⟨3, t, k, n⟩ = 0) (hin : (X.st.txs t).inst < X.st.insts.length) (hov : (X.st.txs t).over = false) :
    Calls Try.prog 51 #[runV P X, .agg #[.int .i64 3, .int .i64 t, .int .i64 k, .int .i64 n]] w (DoPost w P ⟨0, w32 (see X.st t k + n)⟩ { X with st := Tx.put (Tx.look X.st t k) t k (w32 (see X.st t k + n)) }) := by
  have HOV := Lib.hid hov
  clear hov
  obtain ⟨N, hN⟩ : ∃ N, w32 (see X.st t k + n) = N := ⟨_, rfl⟩
  rw [hN]
  have HNN := Lib.hid hN
  clear hN
  have HR := Lib.hid hR
  have HREF := fun (w' : World) (h : New w w') => refused_any (hR.new h) ⟨3, t, k, n⟩
  have HREF := Lib.hid HREF
  clear hR
  unfold runV at HREF
  unfold runV
  go_enter Try.func51, Try.ntmps51
  go_upto_region 1 with fail
  have hNa : New w ((((w.alloc (.cells #[.slice (some ⟨P.ga, 0, none⟩) 16 P.ca, .slice (some ⟨P.gW, 0, none⟩) X.st.insts.length P.cW, .slice (some ⟨P.gC, 0, none⟩) X.st.insts.length P.cC, .int .i64 X.commits] 79)).alloc (.cells #[.int .i64 3, .int .i64 t, .int .i64 k, .int .i64 n] 47)).alloc (.cells #[.int .i64 0, .int .i64 0] 49)).alloc (.cells #[.slice none 0 0, .slice none 0 0, .slice none 0 0, .int .i64 0] 79)) := ((((Chg.refl _ w).alloc _).alloc _).alloc _).alloc _
  have hBR : Blk ((((w.alloc (.cells #[.slice (some ⟨P.ga, 0, none⟩) 16 P.ca, .slice (some ⟨P.gW, 0, none⟩) X.st.insts.length P.cW, .slice (some ⟨P.gC, 0, none⟩) X.st.insts.length P.cC, .int .i64 X.commits] 79)).alloc (.cells #[.int .i64 3, .int .i64 t, .int .i64 k, .int .i64 n] 47)).alloc (.cells #[.int .i64 0, .int .i64 0] 49)).alloc (.cells #[.slice none 0 0, .slice none 0 0, .slice none 0 0, .int .i64 0] 79)) w.heap.size 79 4 (nth [.slice (some ⟨P.ga, 0, none⟩) 16 P.ca, .slice (some ⟨P.gW, 0, none⟩) X.st.insts.length P.cW, .slice (some ⟨P.gC, 0, none⟩) X.st.insts.length P.cC, .int .i64 X.commits]) := (((Blk.ofL w _ 79).alloc _).alloc _).alloc _
  have hBO : Blk ((((w.alloc (.cells #[.slice (some ⟨P.ga, 0, none⟩) 16 P.ca, .slice (some ⟨P.gW, 0, none⟩) X.st.insts.length P.cW, .slice (some ⟨P.gC, 0, none⟩) X.st.insts.length P.cC, .int .i64 X.commits] 79)).alloc (.cells #[.int .i64 3, .int .i64 t, .int .i64 k, .int .i64 n] 47)).alloc (.cells #[.int .i64 0, .int .i64 0] 49)).alloc (.cells #[.slice none 0 0, .slice none 0 0, .slice none 0 0, .int .i64 0] 79)) (w.heap.size + 1) 47 4 (nth [.int .i64 3, .int .i64 t, .int .i64 k, .int .i64 n]) := by
    have := ((Blk.ofL (w.alloc (.cells #[.slice (some ⟨P.ga, 0, none⟩) 16 P.ca, .slice (some ⟨P.gW, 0, none⟩) X.st.insts.length P.cW, .slice (some ⟨P.gC, 0, none⟩) X.st.insts.length P.cC, .int .i64 X.commits] 79)) [.int .i64 3, .int .i64 t, .int .i64 k, .int .i64 n] 47).alloc (.cells #[.int .i64 0, .int .i64 0] 49)).alloc (.cells #[.slice none 0 0, .slice none 0 0, .slice none 0 0, .int .i64 0] 79)
    rwa [World.size_alloc] at this
  have hBA : Blk ((((w.alloc (.cells #[.slice (some ⟨P.ga, 0, none⟩) 16 P.ca, .slice (some ⟨P.gW, 0, none⟩) X.st.insts.length P.cW, .slice (some ⟨P.gC, 0, none⟩) X.st.insts.length P.cC, .int .i64 X.commits] 79)).alloc (.cells #[.int .i64 3, .int .i64 t, .int .i64 k, .int .i64 n] 47)).alloc (.cells #[.int .i64 0, .int .i64 0] 49)).alloc (.cells #[.slice none 0 0, .slice none 0 0, .slice none 0 0, .int .i64 0] 79)) (w.heap.size + 2) 49 2 (nth [.int .i64 0, .int .i64 0]) := by
    have := (Blk.ofL ((w.alloc (.cells #[.slice (some ⟨P.ga, 0, none⟩) 16 P.ca, .slice (some ⟨P.gW, 0, none⟩) X.st.insts.length P.cW, .slice (some ⟨P.gC, 0, none⟩) X.st.insts.length P.cC, .int .i64 X.commits] 79)).alloc (.cells #[.int .i64 3, .int .i64 t, .int .i64 k, .int .i64 n] 47)) [.int .i64 0, .int .i64 0] 49).alloc (.cells #[.slice none 0 0, .slice none 0 0, .slice none 0 0, .int .i64 0] 79)
    rwa [World.size_alloc, World.size_alloc] at this
  have hBZ : Blk ((((w.alloc (.cells #[.slice (some ⟨P.ga, 0, none⟩) 16 P.ca, .slice (some ⟨P.gW, 0, none⟩) X.st.insts.length P.cW, .slice (some ⟨P.gC, 0, none⟩) X.st.insts.length P.cC, .int .i64 X.commits] 79)).alloc (.cells #[.int .i64 3, .int .i64 t, .int .i64 k, .int .i64 n] 47)).alloc (.cells #[.int .i64 0, .int .i64 0] 49)).alloc (.cells #[.slice none 0 0, .slice none 0 0, .slice none 0 0, .int .i64 0] 79)) (w.heap.size + 3) 79 4 (nth [.slice none 0 0, .slice none 0 0, .slice none 0 0, .int .i64 0]) := by
    have := Blk.ofL (((w.alloc (.cells #[.slice (some ⟨P.ga, 0, none⟩) 16 P.ca, .slice (some ⟨P.gW, 0, none⟩) X.st.insts.length P.cW, .slice (some ⟨P.gC, 0, none⟩) X.st.insts.length P.cC, .int .i64 X.commits] 79)).alloc (.cells #[.int .i64 3, .int .i64 t, .int .i64 k, .int .i64 n] 47)).alloc (.cells #[.int .i64 0, .int .i64 0] 49)) [.slice none 0 0, .slice none 0 0, .slice none 0 0, .int .i64 0] 79
    rwa [World.size_alloc, World.size_alloc, World.size_alloc] at this
  have hlab : ∀ i, P.lab (w.heap.size + i) = 0 := fun i => HR.out.hi _ (by omega)
  have HBR := Lib.hid hBR; have HBO := Lib.hid hBO; have HBA := Lib.hid hBA; have HBZ := Lib.hid hBZ; have HNa := Lib.hid hNa
  clear hBR hBO hBA hBZ hNa
  generalize (((w.alloc _).alloc _).alloc _).alloc _ = w1 at *
  generalize hnr : w.heap.size = nr at *
  have r0 : w1.cell? ⟨nr, 0, none⟩ = some (.slice (some ⟨P.ga, 0, none⟩) 16 P.ca) := HBR.out.cell (by decide)
  have r1 : w1.cell? ⟨nr, 1, none⟩ = some (.slice (some ⟨P.gW, 0, none⟩) X.st.insts.length P.cW) := HBR.out.cell (by decide)
  have r2 : w1.cell? ⟨nr, 2, none⟩ = some (.slice (some ⟨P.gC, 0, none⟩) X.st.insts.length P.cC) := HBR.out.cell (by decide)
  have r3 : w1.cell? ⟨nr, 3, none⟩ = some (.int .i64 X.commits) := HBR.out.cell (by decide)
  have o0 : w1.cell? ⟨(nr + 1), 0, none⟩ = some (.int .i64 3) := HBO.out.cell (by decide)
  have o1 : w1.cell? ⟨(nr + 1), 1, none⟩ = some (.int .i64 t) := HBO.out.cell (by decide)
  have o2 : w1.cell? ⟨(nr + 1), 2, none⟩ = some (.int .i64 k) := HBO.out.cell (by decide)
  have o3 : w1.cell? ⟨(nr + 1), 3, none⟩ = some (.int .i64 n) := HBO.out.cell (by decide)
  rw [hE] at HREF
  have ht1 : (t : Int) < 16 := by omega
  have ht0 : (0 : Int) ≤ (t : Int) := by omega
  go_upto_region 4 with ((with_reducible refine (HREF.out _ HNa.out).mono ?_); rintro e w2 ⟨rfl, hN2⟩; have HN2 := Lib.hid hN2; clear hN2)
  clear r0 r1 r2 r3 o0 o1 o2 o3
  have HBR2 := Lib.hid (HBR.out.chg HN2.out (fun h => h)); have HBO2 := Lib.hid (HBO.out.chg HN2.out (fun h => h)); have HBA2 := Lib.hid (HBA.out.chg HN2.out (fun h => h)); have HBZ2 := Lib.hid (HBZ.out.chg HN2.out (fun h => h))
  have HNw2 := Lib.hid (HNa.out.trans HN2.out)
  have HR2 := Lib.hid (HR.out.new HNw2.out)
  clear HBR HBO HBA HBZ HNa HN2 HREF
  have r0 : w2.cell? ⟨nr, 0, none⟩ = some (.slice (some ⟨P.ga, 0, none⟩) 16 P.ca) := HBR2.out.cell (by decide)
  have o1 : w2.cell? ⟨nr + 1, 1, none⟩ = some (.int .i64 t) := HBO2.out.cell (by decide)
  obtain ⟨a0, a1, a2, a3, a4, a5, a6, a7, a8⟩ := HR2.out.st9 ht
  have HBR3 := Lib.hid (HBR2.out.alloc (.cells #[.bool (X.st.txs t).begun, .bool (X.st.txs t).over, .bool (X.st.txs t).comm, .int .i64 (X.st.txs t).inst, .slice (some ⟨P.rd t, 0, none⟩) 16 16, .slice (some ⟨P.wb t, 0, none⟩) 16 16, .slice (some ⟨P.vb t, 0, none⟩) 16 16, .int .i64 (X.made t), .int .i64 (X.turn t)] 93)); have HBO3 := Lib.hid (HBO2.out.alloc (.cells #[.bool (X.st.txs t).begun, .bool (X.st.txs t).over, .bool (X.st.txs t).comm, .int .i64 (X.st.txs t).inst, .slice (some ⟨P.rd t, 0, none⟩) 16 16, .slice (some ⟨P.wb t, 0, none⟩) 16 16, .slice (some ⟨P.vb t, 0, none⟩) 16 16, .int .i64 (X.made t), .int .i64 (X.turn t)] 93)); have HBA3 := Lib.hid (HBA2.out.alloc (.cells #[.bool (X.st.txs t).begun, .bool (X.st.txs t).over, .bool (X.st.txs t).comm, .int .i64 (X.st.txs t).inst, .slice (some ⟨P.rd t, 0, none⟩) 16 16, .slice (some ⟨P.wb t, 0, none⟩) 16 16, .slice (some ⟨P.vb t, 0, none⟩) 16 16, .int .i64 (X.made t), .int .i64 (X.turn t)] 93)); have HBZ3 := Lib.hid (HBZ2.out.alloc (.cells #[.bool (X.st.txs t).begun, .bool (X.st.txs t).over, .bool (X.st.txs t).comm, .int .i64 (X.st.txs t).inst, .slice (some ⟨P.rd t, 0, none⟩) 16 16, .slice (some ⟨P.wb t, 0, none⟩) 16 16, .slice (some ⟨P.vb t, 0, none⟩) 16 16, .int .i64 (X.made t), .int .i64 (X.turn t)] 93))
  have HBL3 : Hid (Blk (w2.alloc (.cells #[.bool (X.st.txs t).begun, .bool (X.st.txs t).over, .bool (X.st.txs t).comm, .int .i64 (X.st.txs t).inst, .slice (some ⟨P.rd t, 0, none⟩) 16 16, .slice (some ⟨P.wb t, 0, none⟩) 16 16, .slice (some ⟨P.vb t, 0, none⟩) 16 16, .int .i64 (X.made t), .int .i64 (X.turn t)] 93)) w2.heap.size 93 9 (nth [.bool (X.st.txs t).begun, .bool (X.st.txs t).over, .bool (X.st.txs t).comm, .int .i64 (X.st.txs t).inst, .slice (some ⟨P.rd t, 0, none⟩) 16 16, .slice (some ⟨P.wb t, 0, none⟩) 16 16, .slice (some ⟨P.vb t, 0, none⟩) 16 16, .int .i64 (X.made t), .int .i64 (X.turn t)])) := Lib.hid (Blk.ofL w2 _ 93)
  have HNw3 := Lib.hid (HNw2.out.alloc (.cells #[.bool (X.st.txs t).begun, .bool (X.st.txs t).over, .bool (X.st.txs t).comm, .int .i64 (X.st.txs t).inst, .slice (some ⟨P.rd t, 0, none⟩) 16 16, .slice (some ⟨P.wb t, 0, none⟩) 16 16, .slice (some ⟨P.vb t, 0, none⟩) 16 16, .int .i64 (X.made t), .int .i64 (X.turn t)] 93))
  have hll : P.lab w2.heap.size = 0 := HR2.out.hi _ (Nat.le_refl _)
  have hzl : nr + 3 < w2.heap.size := HBZ2.out.lt
  have HR3 := Lib.hid (HR.out.new HNw3.out)
  go_upto_region 5 with fail
  clear r0 o1 a0 a1 a2 a3 a4 a5 a6 a7 a8 HBR2 HBO2 HBA2 HBZ2 HNw2 HR2
  generalize w2.alloc _ = w3 at *
  generalize w2.heap.size = nl at *
  have hnr2 : w.heap.size ≤ nr := by omega
  have hlA := HR3.out.la
  have hA0 : nr ≠ P.ga := fun e => by have := hlab 0; rw [Nat.add_zero, e, hlA] at this; cases this
  have hA1 : nr + 1 ≠ P.ga := fun e => by have := hlab 1; rw [e, hlA] at this; cases this
  have hA2 : nr + 2 ≠ P.ga := fun e => by have := hlab 2; rw [e, hlA] at this; cases this
  have hA3 : nr + 3 ≠ P.ga := fun e => by have := hlab 3; rw [e, hlA] at this; cases this
  have hAl : nl ≠ P.ga := fun e => by rw [e, hlA] at hll; cases hll
  obtain ⟨X1, hX1⟩ : ∃ X1 : XS, { X with st := Tx.look X.st t k } = X1 := ⟨_, rfl⟩
  have HRD : Hid (Calls Try.prog 57 #[runV P X, .int .i64 t, .int .i64 k] w3 fun e w' => e = .returned (.tuple #[.int .i64 (see X.st t k), runV P X]) ∧ RRep w' P X1 ∧ Chg (fun b => P.lab b ≠ 0) w3 w') := by
    have h := rread_any HR3.out t k ht hk hin
    rw [hX1] at h
    exact h
  unfold runV at HRD
  have HX1 := Lib.hid hX1
  clear hX1
  have o0 : w3.cell? ⟨nr + 1, 0, none⟩ = some (.int .i64 3) := HBO3.out.cell (by decide)
  have o1 : w3.cell? ⟨nr + 1, 1, none⟩ = some (.int .i64 t) := HBO3.out.cell (by decide)
  have o2 : w3.cell? ⟨nr + 1, 2, none⟩ = some (.int .i64 k) := HBO3.out.cell (by decide)
  have r0 : w3.cell? ⟨nr, 0, none⟩ = some (.slice (some ⟨P.ga, 0, none⟩) 16 P.ca) := HBR3.out.cell (by decide)
  have r1 : w3.cell? ⟨nr, 1, none⟩ = some (.slice (some ⟨P.gW, 0, none⟩) X.st.insts.length P.cW) := HBR3.out.cell (by decide)
  have r2 : w3.cell? ⟨nr, 2, none⟩ = some (.slice (some ⟨P.gC, 0, none⟩) X.st.insts.length P.cC) := HBR3.out.cell (by decide)
  have r3 : w3.cell? ⟨nr, 3, none⟩ = some (.int .i64 X.commits) := HBR3.out.cell (by decide)
  go_upto_region 19 with ((with_reducible refine HRD.out.mono ?_); rintro e w4 ⟨rfl, hR4, hC4⟩; have HR4 := Lib.hid hR4; have HC4 := Lib.hid hC4; have HBA4 := Lib.hid (HBA3.out.chg hC4 (fun h => h (hlab 2))); have HBZ4 := Lib.hid (HBZ3.out.chg hC4 (fun h => h (hlab 3))); have HBO4 := Lib.hid (HBO3.out.chg hC4 (fun h => h (hlab 1))); clear hR4 hC4)
  clear r0 r1 r2 r3 o0 o1 o2
  have HBO5 := Lib.hid (HBO4.out.alloc (.cells #[.slice (some ⟨P.ga, 0, none⟩) 16 P.ca, .slice (some ⟨P.gW, 0, none⟩) X.st.insts.length P.cW, .slice (some ⟨P.gC, 0, none⟩) X.st.insts.length P.cC, .int .i64 X.commits] 79)); have HBA5 := Lib.hid (HBA4.out.alloc (.cells #[.slice (some ⟨P.ga, 0, none⟩) 16 P.ca, .slice (some ⟨P.gW, 0, none⟩) X.st.insts.length P.cW, .slice (some ⟨P.gC, 0, none⟩) X.st.insts.length P.cC, .int .i64 X.commits] 79)); have HBZ5 := Lib.hid (HBZ4.out.alloc (.cells #[.slice (some ⟨P.ga, 0, none⟩) 16 P.ca, .slice (some ⟨P.gW, 0, none⟩) X.st.insts.length P.cW, .slice (some ⟨P.gC, 0, none⟩) X.st.insts.length P.cC, .int .i64 X.commits] 79))
  have HBR5 : Hid (Blk (w4.alloc (.cells #[.slice (some ⟨P.ga, 0, none⟩) 16 P.ca, .slice (some ⟨P.gW, 0, none⟩) X.st.insts.length P.cW, .slice (some ⟨P.gC, 0, none⟩) X.st.insts.length P.cC, .int .i64 X.commits] 79)) w4.heap.size 79 4 (nth [.slice (some ⟨P.ga, 0, none⟩) 16 P.ca, .slice (some ⟨P.gW, 0, none⟩) X.st.insts.length P.cW, .slice (some ⟨P.gC, 0, none⟩) X.st.insts.length P.cC, .int .i64 X.commits])) := Lib.hid (Blk.ofL w4 _ 79)
  have HR5 := Lib.hid (HR4.out.new ((Chg.refl _ w4).alloc (.cells #[.slice (some ⟨P.ga, 0, none⟩) 16 P.ca, .slice (some ⟨P.gW, 0, none⟩) X.st.insts.length P.cW, .slice (some ⟨P.gC, 0, none⟩) X.st.insts.length P.cC, .int .i64 X.commits] 79)))
  have HCw5 : Hid (Chg (fun b => P.lab b ≠ 0) w (w4.alloc (.cells #[.slice (some ⟨P.ga, 0, none⟩) 16 P.ca, .slice (some ⟨P.gW, 0, none⟩) X.st.insts.length P.cW, .slice (some ⟨P.gC, 0, none⟩) X.st.insts.length P.cC, .int .i64 X.commits] 79))) := Lib.hid (((HNw3.out.mono (fun _ _ h => absurd h id)).trans HC4.out).alloc _)
  have h34 := HC4.out.size
  have hzl4 : nr + 3 < w4.heap.size := HBZ4.out.lt
  have hlb : P.lab w4.heap.size = 0 := HR4.out.hi _ (Nat.le_refl _)
  clear HBL3 HBR3 HBO3 HBA3 HBZ3 HBO4 HBA4 HBZ4 HR4 HC4 HNw3 HR3 HRD
  generalize w4.alloc _ = w5 at *
  generalize w4.heap.size = nb at *
  have o3 : w5.cell? ⟨nr + 1, 3, none⟩ = some (.int .i64 n) := HBO5.out.cell (by decide)
  go_upto_region 20 with ((with_reducible refine (word_any _ _).mono ?_); rintro e w5b ⟨rfl, hw5⟩; obtain rfl := hw5.symm)
  have hwr : w32 (wrap64 (see X.st t k + n)) = N := by have := (w32_wrap (see X.st t k + n)).trans HNN.out; rw [IntKind.wrap_i64] at this; unfold wrap64; exact this
  rw [hwr]
  clear hwr
  clear o3
  have r0 : w5.cell? ⟨nb, 0, none⟩ = some (.slice (some ⟨P.ga, 0, none⟩) 16 P.ca) := HBR5.out.cell (by decide)
  have o1 : w5.cell? ⟨nr + 1, 1, none⟩ = some (.int .i64 t) := HBO5.out.cell (by decide)
  obtain ⟨a0, a1, a2, a3, a4, a5, a6, a7, a8⟩ := HR5.out.st9 ht
  have HBR6 := Lib.hid (HBR5.out.alloc (.cells #[.bool (X1.st.txs t).begun, .bool (X1.st.txs t).over, .bool (X1.st.txs t).comm, .int .i64 (X1.st.txs t).inst, .slice (some ⟨P.rd t, 0, none⟩) 16 16, .slice (some ⟨P.wb t, 0, none⟩) 16 16, .slice (some ⟨P.vb t, 0, none⟩) 16 16, .int .i64 (X1.made t), .int .i64 (X1.turn t)] 93)); have HBO6 := Lib.hid (HBO5.out.alloc (.cells #[.bool (X1.st.txs t).begun, .bool (X1.st.txs t).over, .bool (X1.st.txs t).comm, .int .i64 (X1.st.txs t).inst, .slice (some ⟨P.rd t, 0, none⟩) 16 16, .slice (some ⟨P.wb t, 0, none⟩) 16 16, .slice (some ⟨P.vb t, 0, none⟩) 16 16, .int .i64 (X1.made t), .int .i64 (X1.turn t)] 93)); have HBA6 := Lib.hid (HBA5.out.alloc (.cells #[.bool (X1.st.txs t).begun, .bool (X1.st.txs t).over, .bool (X1.st.txs t).comm, .int .i64 (X1.st.txs t).inst, .slice (some ⟨P.rd t, 0, none⟩) 16 16, .slice (some ⟨P.wb t, 0, none⟩) 16 16, .slice (some ⟨P.vb t, 0, none⟩) 16 16, .int .i64 (X1.made t), .int .i64 (X1.turn t)] 93)); have HBZ6 := Lib.hid (HBZ5.out.alloc (.cells #[.bool (X1.st.txs t).begun, .bool (X1.st.txs t).over, .bool (X1.st.txs t).comm, .int .i64 (X1.st.txs t).inst, .slice (some ⟨P.rd t, 0, none⟩) 16 16, .slice (some ⟨P.wb t, 0, none⟩) 16 16, .slice (some ⟨P.vb t, 0, none⟩) 16 16, .int .i64 (X1.made t), .int .i64 (X1.turn t)] 93))
  have HBL6 : Hid (Blk (w5.alloc (.cells #[.bool (X1.st.txs t).begun, .bool (X1.st.txs t).over, .bool (X1.st.txs t).comm, .int .i64 (X1.st.txs t).inst, .slice (some ⟨P.rd t, 0, none⟩) 16 16, .slice (some ⟨P.wb t, 0, none⟩) 16 16, .slice (some ⟨P.vb t, 0, none⟩) 16 16, .int .i64 (X1.made t), .int .i64 (X1.turn t)] 93)) w5.heap.size 93 9 (nth [.bool (X1.st.txs t).begun, .bool (X1.st.txs t).over, .bool (X1.st.txs t).comm, .int .i64 (X1.st.txs t).inst, .slice (some ⟨P.rd t, 0, none⟩) 16 16, .slice (some ⟨P.wb t, 0, none⟩) 16 16, .slice (some ⟨P.vb t, 0, none⟩) 16 16, .int .i64 (X1.made t), .int .i64 (X1.turn t)])) := Lib.hid (Blk.ofL w5 _ 93)
  have HCw6 := Lib.hid (HCw5.out.alloc (.cells #[.bool (X1.st.txs t).begun, .bool (X1.st.txs t).over, .bool (X1.st.txs t).comm, .int .i64 (X1.st.txs t).inst, .slice (some ⟨P.rd t, 0, none⟩) 16 16, .slice (some ⟨P.wb t, 0, none⟩) 16 16, .slice (some ⟨P.vb t, 0, none⟩) 16 16, .int .i64 (X1.made t), .int .i64 (X1.turn t)] 93))
  have hlm : P.lab w5.heap.size = 0 := HR5.out.hi _ (Nat.le_refl _)
  have HR6 := Lib.hid (HR5.out.new ((Chg.refl _ w5).alloc (.cells #[.bool (X1.st.txs t).begun, .bool (X1.st.txs t).over, .bool (X1.st.txs t).comm, .int .i64 (X1.st.txs t).inst, .slice (some ⟨P.rd t, 0, none⟩) 16 16, .slice (some ⟨P.wb t, 0, none⟩) 16 16, .slice (some ⟨P.vb t, 0, none⟩) 16 16, .int .i64 (X1.made t), .int .i64 (X1.turn t)] 93)))
  have hbl5 : nb < w5.heap.size := HBR5.out.lt
  go_upto_region 21 with fail
  clear r0 o1 a0 a1 a2 a3 a4 a5 a6 a7 a8 HBR5 HBO5 HBA5 HBZ5 HCw5 HR5
  generalize w5.alloc _ = w6 at *
  generalize w5.heap.size = nm at *
  have hAb : nb ≠ P.ga := fun e => by rw [e, hlA] at hlb; cases hlb
  have hAm : nm ≠ P.ga := fun e => by rw [e, hlA] at hlm; cases hlm
  have o2 : w6.cell? ⟨nr + 1, 2, none⟩ = some (.int .i64 k) := HBO6.out.cell (by decide)
  have o3 : w6.cell? ⟨nr + 1, 3, none⟩ = some (.int .i64 n) := HBO6.out.cell (by decide)
  have l5 : w6.cell? ⟨nm, 5, none⟩ = some (.slice (some ⟨P.wb t, 0, none⟩) 16 16) := HBL6.out.cell (by decide)
  have l6 : w6.cell? ⟨nm, 6, none⟩ = some (.slice (some ⟨P.vb t, 0, none⟩) 16 16) := HBL6.out.cell (by decide)
  have hlw := HR6.out.lw t ht
  have hlv := HR6.out.lv t ht
  have d1 : P.wb t ≠ P.vb t := fun e => by rw [e, hlv] at hlw; omega
  have d2 : nm ≠ P.wb t := fun e => by rw [e, hlw] at hlm; omega
  have d3 : nm ≠ P.vb t := fun e => by rw [e, hlv] at hlm; omega
  have d4 : nr + 1 ≠ P.wb t := fun e => by have := hlab 1; rw [e, hlw] at this; omega
  have d5 : nr + 1 ≠ P.vb t := fun e => by have := hlab 1; rw [e, hlv] at this; omega
  have d6 : nb ≠ P.wb t := fun e => by rw [e, hlw] at hlb; omega
  have d7 : nb ≠ P.vb t := fun e => by rw [e, hlv] at hlb; omega
  have d8 : nr + 2 ≠ P.wb t := fun e => by have := hlab 2; rw [e, hlw] at this; omega
  have d9 : nr + 2 ≠ P.vb t := fun e => by have := hlab 2; rw [e, hlv] at this; omega
  have d10 : nr + 3 ≠ P.wb t := fun e => by have := hlab 3; rw [e, hlw] at this; omega
  have d11 : nr + 3 ≠ P.vb t := fun e => by have := hlab 3; rw [e, hlv] at this; omega
  have x0 := HR6.out.wbC t k ht hk
  have v0 := HR6.out.vbC t k ht hk
  have xf := HR6.out.wbF t k ht
  have vf := HR6.out.vbF t k ht
  have k0 : (0 : Int) ≤ (k : Int) := by omega
  have k1 : (k : Int) < 16 := by omega
  have hS0 := And.intro l5 (And.intro l6 (And.intro o2 o3))
  apply wp_once
  case h1 =>
    go_region_held3 (fun w' => w'.cell? ⟨nm, 5, none⟩ = some (.slice (some ⟨P.wb t, 0, none⟩) 16 16) ∧ w'.cell? ⟨nm, 6, none⟩ = some (.slice (some ⟨P.vb t, 0, none⟩) 16 16) ∧ w'.cell? ⟨nr + 1, 2, none⟩ = some (.int .i64 k) ∧ w'.cell? ⟨nr + 1, 3, none⟩ = some (.int .i64 n)) (first | exact hS0 | exact four_set hS0 (.bool true) d2 d4 | exact four_set (four_set hS0 (.bool true) d2 d4) (.int .i64 N) d3 d5) (fail)
    all_goals exact ⟨rfl, rfl⟩
  have hov1 : (X1.st.txs t).over = false := by
    rw [← HX1.out]
    exact ((look_facts X.st t k).2.2.2.1 t).trans HOV.out
  have HR7 : Hid (RRep ((w6.setCell ⟨P.wb t, k, none⟩ (.bool true)).setCell ⟨P.vb t, k, none⟩ (.int .i64 N)).drew P { X1 with st := Tx.put X1.st t k N }) := Lib.hid ((HR6.out.setWr ht hk hov1 N).new ((Chg.refl _ _).drew))
  have HC7 : Hid (Chg (fun b => b = P.wb t ∨ b = P.vb t) w6 ((w6.setCell ⟨P.wb t, k, none⟩ (.bool true)).setCell ⟨P.vb t, k, none⟩ (.int .i64 N)).drew) := Lib.hid ((((Chg.refl (fun b => b = P.wb t ∨ b = P.vb t) w6).setCell (fun _ => .inl rfl) _).setCell (fun _ => .inr rfl) _).drew)
  clear o2 o3 l5 l6 x0 v0 xf vf hS0 hov1
  generalize World.drew _ = w7 at *
  have HBL7 := Lib.hid (HBL6.out.chg HC7.out (fun e => e.elim d2 d3))
  have HBR7 := Lib.hid (HBR6.out.chg HC7.out (fun e => e.elim d6 d7)); have HBO7 := Lib.hid (HBO6.out.chg HC7.out (fun e => e.elim d4 d5)); have HBA7 := Lib.hid (HBA6.out.chg HC7.out (fun e => e.elim d8 d9)); have HBZ7 := Lib.hid (HBZ6.out.chg HC7.out (fun e => e.elim d10 d11))
  have l0 : w7.cell? ⟨nm, 0, none⟩ = some (.bool (X1.st.txs t).begun) := HBL7.out.cell (by decide)
  have l1 : w7.cell? ⟨nm, 1, none⟩ = some (.bool (X1.st.txs t).over) := HBL7.out.cell (by decide)
  have l2 : w7.cell? ⟨nm, 2, none⟩ = some (.bool (X1.st.txs t).comm) := HBL7.out.cell (by decide)
  have l3 : w7.cell? ⟨nm, 3, none⟩ = some (.int .i64 (X1.st.txs t).inst) := HBL7.out.cell (by decide)
  have l4 : w7.cell? ⟨nm, 4, none⟩ = some (.slice (some ⟨P.rd t, 0, none⟩) 16 16) := HBL7.out.cell (by decide)
  have l5 : w7.cell? ⟨nm, 5, none⟩ = some (.slice (some ⟨P.wb t, 0, none⟩) 16 16) := HBL7.out.cell (by decide)
  have l6 : w7.cell? ⟨nm, 6, none⟩ = some (.slice (some ⟨P.vb t, 0, none⟩) 16 16) := HBL7.out.cell (by decide)
  have l7 : w7.cell? ⟨nm, 7, none⟩ = some (.int .i64 (X1.made t)) := HBL7.out.cell (by decide)
  have l8 : w7.cell? ⟨nm, 8, none⟩ = some (.int .i64 (X1.turn t)) := HBL7.out.cell (by decide)
  have r0 : w7.cell? ⟨nb, 0, none⟩ = some (.slice (some ⟨P.ga, 0, none⟩) 16 P.ca) := HBR7.out.cell (by decide)
  have o1 : w7.cell? ⟨nr + 1, 1, none⟩ = some (.int .i64 t) := HBO7.out.cell (by decide)
  go_upto_region 23 with (refine wpList_storeN 93 9 Try.info93s _ rfl _ _ rfl P.ga (t * 9) _ rfl rfl rfl (by simp [Value.oneCell']) (fun j hj => by rw [HR7.out.all t j ht hj]; rfl) HR7.out.allF ?_; intro w8 hC hin hout hfr; have HC8 := Lib.hid hC; have HI8 := Lib.hid hin; have HO8 := Lib.hid hout; have HF8 := Lib.hid hfr; clear hC hin hout hfr)
  clear l0 l1 l2 l3 l4 l5 l6 l7 l8 r0 o1
  have HBR8 := Lib.hid (HBR7.out.chg HC8.out hAb); have HBA8 := Lib.hid (HBA7.out.chg HC8.out hA2); have HBZ8 := Lib.hid (HBZ7.out.chg HC8.out hA3)
  have HR8 : Hid (RRep w8 P { X1 with st := Tx.put X1.st t k N }) :=
    Lib.hid (HR7.out.setTxn (x := { X1.st.txs t with writes := true }) (m := X1.made t) (n := X1.turn t) ht HC8.out (nine (HI8.out 0 _ rfl) (HI8.out 1 _ rfl) (HI8.out 2 _ rfl) (HI8.out 3 _ rfl) (HI8.out 4 _ rfl) (HI8.out 5 _ rfl) (HI8.out 6 _ rfl) (HI8.out 7 _ rfl) (HI8.out 8 _ rfl)) HO8.out HF8.out rfl rfl (fun i => by
      by_cases e : i = t
      · rw [if_pos e, e]; exact if_pos rfl
      · rw [if_neg e]) rfl rfl (fun i hi => ⟨rfl, rfl⟩) (by show _ = (if t = t then _ else _ : Txn).read; rw [if_pos rfl]) (fun h => by
        have : (if t = t then { X1.st.txs t with writes := true } else X1.st.txs t : Txn).over = true := h
        rw [if_pos rfl] at this; exact this))
  have HCw : Hid (Chg (fun b => P.lab b ≠ 0) w w8) := Lib.hid ((HCw6.out.then HC7.out (fun i _ e => e.elim (fun e => by rw [e, hlw]; omega) (fun e => by rw [e, hlv]; omega))).then HC8.out (fun i _ e => by rw [e, hlA]; decide))
  have r0 : w8.cell? ⟨nb, 0, none⟩ = some (.slice (some ⟨P.ga, 0, none⟩) 16 P.ca) := HBR8.out.cell (by decide)
  have r1 : w8.cell? ⟨nb, 1, none⟩ = some (.slice (some ⟨P.gW, 0, none⟩) X.st.insts.length P.cW) := HBR8.out.cell (by decide)
  have r2 : w8.cell? ⟨nb, 2, none⟩ = some (.slice (some ⟨P.gC, 0, none⟩) X.st.insts.length P.cC) := HBR8.out.cell (by decide)
  have r3 : w8.cell? ⟨nb, 3, none⟩ = some (.int .i64 X.commits) := HBR8.out.cell (by decide)
  have z0 := HBA8.out.cell (i := 0) (by decide)
  have z1 := HBA8.out.cell (i := 1) (by decide)
  have zf := HBA8.out.free 0
  have zf1 := HBA8.out.free 1
  have y0 := HBZ8.out.cell (i := 0) (by decide)
  have y1 := HBZ8.out.cell (i := 1) (by decide)
  have y2 := HBZ8.out.cell (i := 2) (by decide)
  have y3 := HBZ8.out.cell (i := 3) (by decide)
  have yf0 := HBZ8.out.free 0; have yf1 := HBZ8.out.free 1; have yf2 := HBZ8.out.free 2; have yf3 := HBZ8.out.free 3
  apply wp_once
  case h1 =>
    go_region_law (fail)
    all_goals exact ⟨rfl, rfl⟩
  obtain ⟨g0, g1, h0, h1, h2, h3, HE⟩ := end_cells (.int .i64 0) (.int .i64 N) (.slice (some ⟨P.ga, 0, none⟩) 16 P.ca) (.slice (some ⟨P.gW, 0, none⟩) X.st.insts.length P.cW) (.slice (some ⟨P.gC, 0, none⟩) X.st.insts.length P.cC) (.int .i64 X.commits) (d := nr + 1 + 1) (nz := nr + 1 + 1 + 1) HBA8.out HBZ8.out (by omega)
  unfold endW at g0 g1 h0 h1 h2 h3 HE
  have HE := Lib.hid HE
  clear r0 r1 r2 r3 z0 z1 zf zf1 y0 y1 y2 y3 yf0 yf1 yf2 yf3
  generalize World.drew _ = wE at *
  go_wp2_with fail
  refine bodyPost_ret (results4979 rfl rfl rfl g0 g1 h0 h1 h2 h3) rfl ?_
  have e1 : (Tx.put X1.st t k N).insts = X.st.insts := by
    rw [← HX1.out]
    exact (look_facts X.st t k).1
  have hF := do_end HR8.out HCw.out (fun b h => .inl h) HE.out (hlab 2) (hlab 3) (by omega) (by omega) ⟨0, N⟩
  unfold runV at hF
  rw [e1] at hF
  rw [← HX1.out] at hF
  exact hF
set_option maxRecDepth 100000 in
set_option maxHeartbeats 4000000 in
theorem do_4no (hR : RRep w P X) (t : Nat) (ht : t < 16) (k n : Int) (hE : refusedE X.st ⟨4, t, k, n⟩ = 0) (hin : (X.st.txs t).inst < X.st.insts.length) (hlen : X.st.insts.length ≤ 1000) (hcl : (wr16 X.st t && Tx.clash X.st t) = true) :
    Calls Try.prog 51 #[runV P X, .agg #[.int .i64 4, .int .i64 t, .int .i64 k, .int .i64 n]] w (DoPost w P ⟨10, 0⟩ { X with st := X.st.setTx t { X.st.txs t with over := true } }) := by
  have HCL := Lib.hid hcl
  clear hcl
  have HR := Lib.hid hR
  have HREF := fun (w' : World) (h : New w w') => refused_any (hR.new h) ⟨4, t, k, n⟩
  have HREF := Lib.hid HREF
  clear hR
  unfold runV at HREF
  unfold runV
  go_enter Try.func51, Try.ntmps51
  go_upto_region 1 with fail
  have hNa : New w ((((w.alloc (.cells #[.slice (some ⟨P.ga, 0, none⟩) 16 P.ca, .slice (some ⟨P.gW, 0, none⟩) X.st.insts.length P.cW, .slice (some ⟨P.gC, 0, none⟩) X.st.insts.length P.cC, .int .i64 X.commits] 79)).alloc (.cells #[.int .i64 4, .int .i64 t, .int .i64 k, .int .i64 n] 47)).alloc (.cells #[.int .i64 0, .int .i64 0] 49)).alloc (.cells #[.slice none 0 0, .slice none 0 0, .slice none 0 0, .int .i64 0] 79)) := ((((Chg.refl _ w).alloc _).alloc _).alloc _).alloc _
  have hBR : Blk ((((w.alloc (.cells #[.slice (some ⟨P.ga, 0, none⟩) 16 P.ca, .slice (some ⟨P.gW, 0, none⟩) X.st.insts.length P.cW, .slice (some ⟨P.gC, 0, none⟩) X.st.insts.length P.cC, .int .i64 X.commits] 79)).alloc (.cells #[.int .i64 4, .int .i64 t, .int .i64 k, .int .i64 n] 47)).alloc (.cells #[.int .i64 0, .int .i64 0] 49)).alloc (.cells #[.slice none 0 0, .slice none 0 0, .slice none 0 0, .int .i64 0] 79)) w.heap.size 79 4 (nth [.slice (some ⟨P.ga, 0, none⟩) 16 P.ca, .slice (some ⟨P.gW, 0, none⟩) X.st.insts.length P.cW, .slice (some ⟨P.gC, 0, none⟩) X.st.insts.length P.cC, .int .i64 X.commits]) := (((Blk.ofL w _ 79).alloc _).alloc _).alloc _
  have hBO : Blk ((((w.alloc (.cells #[.slice (some ⟨P.ga, 0, none⟩) 16 P.ca, .slice (some ⟨P.gW, 0, none⟩) X.st.insts.length P.cW, .slice (some ⟨P.gC, 0, none⟩) X.st.insts.length P.cC, .int .i64 X.commits] 79)).alloc (.cells #[.int .i64 4, .int .i64 t, .int .i64 k, .int .i64 n] 47)).alloc (.cells #[.int .i64 0, .int .i64 0] 49)).alloc (.cells #[.slice none 0 0, .slice none 0 0, .slice none 0 0, .int .i64 0] 79)) (w.heap.size + 1) 47 4 (nth [.int .i64 4, .int .i64 t, .int .i64 k, .int .i64 n]) := by
    have := ((Blk.ofL (w.alloc (.cells #[.slice (some ⟨P.ga, 0, none⟩) 16 P.ca, .slice (some ⟨P.gW, 0, none⟩) X.st.insts.length P.cW, .slice (some ⟨P.gC, 0, none⟩) X.st.insts.length P.cC, .int .i64 X.commits] 79)) [.int .i64 4, .int .i64 t, .int .i64 k, .int .i64 n] 47).alloc (.cells #[.int .i64 0, .int .i64 0] 49)).alloc (.cells #[.slice none 0 0, .slice none 0 0, .slice none 0 0, .int .i64 0] 79)
    rwa [World.size_alloc] at this
  have hBA : Blk ((((w.alloc (.cells #[.slice (some ⟨P.ga, 0, none⟩) 16 P.ca, .slice (some ⟨P.gW, 0, none⟩) X.st.insts.length P.cW, .slice (some ⟨P.gC, 0, none⟩) X.st.insts.length P.cC, .int .i64 X.commits] 79)).alloc (.cells #[.int .i64 4, .int .i64 t, .int .i64 k, .int .i64 n] 47)).alloc (.cells #[.int .i64 0, .int .i64 0] 49)).alloc (.cells #[.slice none 0 0, .slice none 0 0, .slice none 0 0, .int .i64 0] 79)) (w.heap.size + 2) 49 2 (nth [.int .i64 0, .int .i64 0]) := by
    have := (Blk.ofL ((w.alloc (.cells #[.slice (some ⟨P.ga, 0, none⟩) 16 P.ca, .slice (some ⟨P.gW, 0, none⟩) X.st.insts.length P.cW, .slice (some ⟨P.gC, 0, none⟩) X.st.insts.length P.cC, .int .i64 X.commits] 79)).alloc (.cells #[.int .i64 4, .int .i64 t, .int .i64 k, .int .i64 n] 47)) [.int .i64 0, .int .i64 0] 49).alloc (.cells #[.slice none 0 0, .slice none 0 0, .slice none 0 0, .int .i64 0] 79)
    rwa [World.size_alloc, World.size_alloc] at this
  have hBZ : Blk ((((w.alloc (.cells #[.slice (some ⟨P.ga, 0, none⟩) 16 P.ca, .slice (some ⟨P.gW, 0, none⟩) X.st.insts.length P.cW, .slice (some ⟨P.gC, 0, none⟩) X.st.insts.length P.cC, .int .i64 X.commits] 79)).alloc (.cells #[.int .i64 4, .int .i64 t, .int .i64 k, .int .i64 n] 47)).alloc (.cells #[.int .i64 0, .int .i64 0] 49)).alloc (.cells #[.slice none 0 0, .slice none 0 0, .slice none 0 0, .int .i64 0] 79)) (w.heap.size + 3) 79 4 (nth [.slice none 0 0, .slice none 0 0, .slice none 0 0, .int .i64 0]) := by
    have := Blk.ofL (((w.alloc (.cells #[.slice (some ⟨P.ga, 0, none⟩) 16 P.ca, .slice (some ⟨P.gW, 0, none⟩) X.st.insts.length P.cW, .slice (some ⟨P.gC, 0, none⟩) X.st.insts.length P.cC, .int .i64 X.commits] 79)).alloc (.cells #[.int .i64 4, .int .i64 t, .int .i64 k, .int .i64 n] 47)).alloc (.cells #[.int .i64 0, .int .i64 0] 49)) [.slice none 0 0, .slice none 0 0, .slice none 0 0, .int .i64 0] 79
    rwa [World.size_alloc, World.size_alloc, World.size_alloc] at this
  have hlab : ∀ i, P.lab (w.heap.size + i) = 0 := fun i => HR.out.hi _ (by omega)
  have HBR := Lib.hid hBR; have HBO := Lib.hid hBO; have HBA := Lib.hid hBA; have HBZ := Lib.hid hBZ; have HNa := Lib.hid hNa
  clear hBR hBO hBA hBZ hNa
  generalize (((w.alloc _).alloc _).alloc _).alloc _ = w1 at *
  generalize hnr : w.heap.size = nr at *
  have r0 : w1.cell? ⟨nr, 0, none⟩ = some (.slice (some ⟨P.ga, 0, none⟩) 16 P.ca) := HBR.out.cell (by decide)
  have r1 : w1.cell? ⟨nr, 1, none⟩ = some (.slice (some ⟨P.gW, 0, none⟩) X.st.insts.length P.cW) := HBR.out.cell (by decide)
  have r2 : w1.cell? ⟨nr, 2, none⟩ = some (.slice (some ⟨P.gC, 0, none⟩) X.st.insts.length P.cC) := HBR.out.cell (by decide)
  have r3 : w1.cell? ⟨nr, 3, none⟩ = some (.int .i64 X.commits) := HBR.out.cell (by decide)
  have o0 : w1.cell? ⟨(nr + 1), 0, none⟩ = some (.int .i64 4) := HBO.out.cell (by decide)
  have o1 : w1.cell? ⟨(nr + 1), 1, none⟩ = some (.int .i64 t) := HBO.out.cell (by decide)
  have o2 : w1.cell? ⟨(nr + 1), 2, none⟩ = some (.int .i64 k) := HBO.out.cell (by decide)
  have o3 : w1.cell? ⟨(nr + 1), 3, none⟩ = some (.int .i64 n) := HBO.out.cell (by decide)
  rw [hE] at HREF
  have ht1 : (t : Int) < 16 := by omega
  have ht0 : (0 : Int) ≤ (t : Int) := by omega
  go_upto_region 4 with ((with_reducible refine (HREF.out _ HNa.out).mono ?_); rintro e w2 ⟨rfl, hN2⟩; have HN2 := Lib.hid hN2; clear hN2)
  clear r0 r1 r2 r3 o0 o1 o2 o3
  have HBR2 := Lib.hid (HBR.out.chg HN2.out (fun h => h)); have HBO2 := Lib.hid (HBO.out.chg HN2.out (fun h => h)); have HBA2 := Lib.hid (HBA.out.chg HN2.out (fun h => h)); have HBZ2 := Lib.hid (HBZ.out.chg HN2.out (fun h => h))
  have HNw2 := Lib.hid (HNa.out.trans HN2.out)
  have HR2 := Lib.hid (HR.out.new HNw2.out)
  clear HBR HBO HBA HBZ HNa HN2 HREF
  have r0 : w2.cell? ⟨nr, 0, none⟩ = some (.slice (some ⟨P.ga, 0, none⟩) 16 P.ca) := HBR2.out.cell (by decide)
  have o1 : w2.cell? ⟨nr + 1, 1, none⟩ = some (.int .i64 t) := HBO2.out.cell (by decide)
  obtain ⟨a0, a1, a2, a3, a4, a5, a6, a7, a8⟩ := HR2.out.st9 ht
  have HBR3 := Lib.hid (HBR2.out.alloc (.cells #[.bool (X.st.txs t).begun, .bool (X.st.txs t).over, .bool (X.st.txs t).comm, .int .i64 (X.st.txs t).inst, .slice (some ⟨P.rd t, 0, none⟩) 16 16, .slice (some ⟨P.wb t, 0, none⟩) 16 16, .slice (some ⟨P.vb t, 0, none⟩) 16 16, .int .i64 (X.made t), .int .i64 (X.turn t)] 93)); have HBO3 := Lib.hid (HBO2.out.alloc (.cells #[.bool (X.st.txs t).begun, .bool (X.st.txs t).over, .bool (X.st.txs t).comm, .int .i64 (X.st.txs t).inst, .slice (some ⟨P.rd t, 0, none⟩) 16 16, .slice (some ⟨P.wb t, 0, none⟩) 16 16, .slice (some ⟨P.vb t, 0, none⟩) 16 16, .int .i64 (X.made t), .int .i64 (X.turn t)] 93)); have HBA3 := Lib.hid (HBA2.out.alloc (.cells #[.bool (X.st.txs t).begun, .bool (X.st.txs t).over, .bool (X.st.txs t).comm, .int .i64 (X.st.txs t).inst, .slice (some ⟨P.rd t, 0, none⟩) 16 16, .slice (some ⟨P.wb t, 0, none⟩) 16 16, .slice (some ⟨P.vb t, 0, none⟩) 16 16, .int .i64 (X.made t), .int .i64 (X.turn t)] 93)); have HBZ3 := Lib.hid (HBZ2.out.alloc (.cells #[.bool (X.st.txs t).begun, .bool (X.st.txs t).over, .bool (X.st.txs t).comm, .int .i64 (X.st.txs t).inst, .slice (some ⟨P.rd t, 0, none⟩) 16 16, .slice (some ⟨P.wb t, 0, none⟩) 16 16, .slice (some ⟨P.vb t, 0, none⟩) 16 16, .int .i64 (X.made t), .int .i64 (X.turn t)] 93))
  have HBL3 : Hid (Blk (w2.alloc (.cells #[.bool (X.st.txs t).begun, .bool (X.st.txs t).over, .bool (X.st.txs t).comm, .int .i64 (X.st.txs t).inst, .slice (some ⟨P.rd t, 0, none⟩) 16 16, .slice (some ⟨P.wb t, 0, none⟩) 16 16, .slice (some ⟨P.vb t, 0, none⟩) 16 16, .int .i64 (X.made t), .int .i64 (X.turn t)] 93)) w2.heap.size 93 9 (nth [.bool (X.st.txs t).begun, .bool (X.st.txs t).over, .bool (X.st.txs t).comm, .int .i64 (X.st.txs t).inst, .slice (some ⟨P.rd t, 0, none⟩) 16 16, .slice (some ⟨P.wb t, 0, none⟩) 16 16, .slice (some ⟨P.vb t, 0, none⟩) 16 16, .int .i64 (X.made t), .int .i64 (X.turn t)])) := Lib.hid (Blk.ofL w2 _ 93)
  have HNw3 := Lib.hid (HNw2.out.alloc (.cells #[.bool (X.st.txs t).begun, .bool (X.st.txs t).over, .bool (X.st.txs t).comm, .int .i64 (X.st.txs t).inst, .slice (some ⟨P.rd t, 0, none⟩) 16 16, .slice (some ⟨P.wb t, 0, none⟩) 16 16, .slice (some ⟨P.vb t, 0, none⟩) 16 16, .int .i64 (X.made t), .int .i64 (X.turn t)] 93))
  have hll : P.lab w2.heap.size = 0 := HR2.out.hi _ (Nat.le_refl _)
  have hzl : nr + 3 < w2.heap.size := HBZ2.out.lt
  have HR3 := Lib.hid (HR.out.new HNw3.out)
  go_upto_region 5 with fail
  clear r0 o1 a0 a1 a2 a3 a4 a5 a6 a7 a8 HBR2 HBO2 HBA2 HBZ2 HNw2 HR2
  generalize w2.alloc _ = w3 at *
  generalize w2.heap.size = nl at *
  have hnr2 : w.heap.size ≤ nr := by omega
  have hlA := HR3.out.la
  have hA0 : nr ≠ P.ga := fun e => by have := hlab 0; rw [Nat.add_zero, e, hlA] at this; cases this
  have hA1 : nr + 1 ≠ P.ga := fun e => by have := hlab 1; rw [e, hlA] at this; cases this
  have hA2 : nr + 2 ≠ P.ga := fun e => by have := hlab 2; rw [e, hlA] at this; cases this
  have hA3 : nr + 3 ≠ P.ga := fun e => by have := hlab 3; rw [e, hlA] at this; cases this
  have hAl : nl ≠ P.ga := fun e => by rw [e, hlA] at hll; cases hll
  have HCA : Hid (Calls Try.prog 58 #[runV P X, .agg #[.bool (X.st.txs t).begun, .bool (X.st.txs t).over, .bool (X.st.txs t).comm, .int .i64 (X.st.txs t).inst, .slice (some ⟨P.rd t, 0, none⟩) 16 16, .slice (some ⟨P.wb t, 0, none⟩) 16 16, .slice (some ⟨P.vb t, 0, none⟩) 16 16, .int .i64 (X.made t), .int .i64 (X.turn t)]] w3 fun e w' => e = .returned (.bool true) ∧ New w3 w') := by
    have h := clashes_any HR3.out t ht hin hlen (X.st.txs t).begun (X.st.txs t).over (X.st.txs t).comm (X.made t) (X.turn t)
    rw [HCL.out] at h
    exact h
  unfold runV at HCA
  have o0 : w3.cell? ⟨nr + 1, 0, none⟩ = some (.int .i64 4) := HBO3.out.cell (by decide)
  have r0 : w3.cell? ⟨nr, 0, none⟩ = some (.slice (some ⟨P.ga, 0, none⟩) 16 P.ca) := HBR3.out.cell (by decide)
  have r1 : w3.cell? ⟨nr, 1, none⟩ = some (.slice (some ⟨P.gW, 0, none⟩) X.st.insts.length P.cW) := HBR3.out.cell (by decide)
  have r2 : w3.cell? ⟨nr, 2, none⟩ = some (.slice (some ⟨P.gC, 0, none⟩) X.st.insts.length P.cC) := HBR3.out.cell (by decide)
  have r3 : w3.cell? ⟨nr, 3, none⟩ = some (.int .i64 X.commits) := HBR3.out.cell (by decide)
  have l0 : w3.cell? ⟨nl, 0, none⟩ = some (.bool (X.st.txs t).begun) := HBL3.out.cell (by decide)
  have l1 : w3.cell? ⟨nl, 1, none⟩ = some (.bool (X.st.txs t).over) := HBL3.out.cell (by decide)
  have l2 : w3.cell? ⟨nl, 2, none⟩ = some (.bool (X.st.txs t).comm) := HBL3.out.cell (by decide)
  have l3 : w3.cell? ⟨nl, 3, none⟩ = some (.int .i64 (X.st.txs t).inst) := HBL3.out.cell (by decide)
  have l4 : w3.cell? ⟨nl, 4, none⟩ = some (.slice (some ⟨P.rd t, 0, none⟩) 16 16) := HBL3.out.cell (by decide)
  have l5 : w3.cell? ⟨nl, 5, none⟩ = some (.slice (some ⟨P.wb t, 0, none⟩) 16 16) := HBL3.out.cell (by decide)
  have l6 : w3.cell? ⟨nl, 6, none⟩ = some (.slice (some ⟨P.vb t, 0, none⟩) 16 16) := HBL3.out.cell (by decide)
  have l7 : w3.cell? ⟨nl, 7, none⟩ = some (.int .i64 (X.made t)) := HBL3.out.cell (by decide)
  have l8 : w3.cell? ⟨nl, 8, none⟩ = some (.int .i64 (X.turn t)) := HBL3.out.cell (by decide)
  go_upto_region 26 with ((with_reducible refine HCA.out.mono ?_); rintro e w3b ⟨rfl, hN3⟩; have HN3 := Lib.hid hN3; clear hN3)
  clear r0 r1 r2 r3 l0 l1 l2 l3 l4 l5 l6 l7 l8 o0 HCA
  have HBR3b := Lib.hid (HBR3.out.chg HN3.out (fun h => h)); have HBO3b := Lib.hid (HBO3.out.chg HN3.out (fun h => h)); have HBA3b := Lib.hid (HBA3.out.chg HN3.out (fun h => h)); have HBZ3b := Lib.hid (HBZ3.out.chg HN3.out (fun h => h)); have HBL3b := Lib.hid (HBL3.out.chg HN3.out (fun h => h))
  have HNw3b := Lib.hid (HNw3.out.trans HN3.out)
  clear HBR3 HBO3 HBA3 HBZ3 HBL3 HNw3 HR3 HN3
  have o0 := HBO3b.out.cell (i := 0) (by decide)
  have l1 := HBL3b.out.cell (i := 1) (by decide)
  have f1 := HBL3b.out.free 1
  go_upto_region 27 with fail
  have HBL4 : Hid (Blk (w3b.setCell ⟨nl, 1, none⟩ (.bool true)) nl 93 9 (nth [.bool (X.st.txs t).begun, .bool true, .bool (X.st.txs t).comm, .int .i64 (X.st.txs t).inst, .slice (some ⟨P.rd t, 0, none⟩) 16 16, .slice (some ⟨P.wb t, 0, none⟩) 16 16, .slice (some ⟨P.vb t, 0, none⟩) 16 16, .int .i64 (X.made t), .int .i64 (X.turn t)])) := Lib.hid (HBL3b.out.setL 1 _ (by simp))
  have HC4 : Hid (Chg (fun b => b = nl) w3b (w3b.setCell ⟨nl, 1, none⟩ (.bool true))) := Lib.hid ((Chg.refl (fun b => b = nl) w3b).setCell (fun _ => rfl) _)
  clear l1 f1 o0
  generalize w3b.setCell _ _ = w4 at *
  have HBR4 := Lib.hid (HBR3b.out.chg HC4.out (by omega)); have HBO4 := Lib.hid (HBO3b.out.chg HC4.out (by omega)); have HBA4 := Lib.hid (HBA3b.out.chg HC4.out (by omega)); have HBZ4 := Lib.hid (HBZ3b.out.chg HC4.out (by omega))
  have HNw4 : Hid (New w w4) := Lib.hid (HNw3b.out.then HC4.out (fun i hi e => by omega))
  have HR4 := Lib.hid (HR.out.new HNw4.out)
  have l0 : w4.cell? ⟨nl, 0, none⟩ = some (.bool (X.st.txs t).begun) := HBL4.out.cell (by decide)
  have l1 : w4.cell? ⟨nl, 1, none⟩ = some (.bool true) := HBL4.out.cell (by decide)
  have l2 : w4.cell? ⟨nl, 2, none⟩ = some (.bool (X.st.txs t).comm) := HBL4.out.cell (by decide)
  have l3 : w4.cell? ⟨nl, 3, none⟩ = some (.int .i64 (X.st.txs t).inst) := HBL4.out.cell (by decide)
  have l4 : w4.cell? ⟨nl, 4, none⟩ = some (.slice (some ⟨P.rd t, 0, none⟩) 16 16) := HBL4.out.cell (by decide)
  have l5 : w4.cell? ⟨nl, 5, none⟩ = some (.slice (some ⟨P.wb t, 0, none⟩) 16 16) := HBL4.out.cell (by decide)
  have l6 : w4.cell? ⟨nl, 6, none⟩ = some (.slice (some ⟨P.vb t, 0, none⟩) 16 16) := HBL4.out.cell (by decide)
  have l7 : w4.cell? ⟨nl, 7, none⟩ = some (.int .i64 (X.made t)) := HBL4.out.cell (by decide)
  have l8 : w4.cell? ⟨nl, 8, none⟩ = some (.int .i64 (X.turn t)) := HBL4.out.cell (by decide)
  have r0 : w4.cell? ⟨nr, 0, none⟩ = some (.slice (some ⟨P.ga, 0, none⟩) 16 P.ca) := HBR4.out.cell (by decide)
  have o1 : w4.cell? ⟨nr + 1, 1, none⟩ = some (.int .i64 t) := HBO4.out.cell (by decide)
  go_upto_region 28 with (refine wpList_storeN 93 9 Try.info93s _ rfl _ _ rfl P.ga (t * 9) _ rfl rfl rfl (by simp [Value.oneCell']) (fun j hj => by rw [HR4.out.all t j ht hj]; rfl) HR4.out.allF ?_; intro w5 hC hin hout hfr; have HC5 := Lib.hid hC; have HI5 := Lib.hid hin; have HO5 := Lib.hid hout; have HF5 := Lib.hid hfr; clear hC hin hout hfr)
  clear l0 l1 l2 l3 l4 l5 l6 l7 l8 r0 o1
  have HBL5 := Lib.hid (HBL4.out.chg HC5.out hAl)
  have HBR5 := Lib.hid (HBR4.out.chg HC5.out hA0); have HBO5 := Lib.hid (HBO4.out.chg HC5.out hA1); have HBA5 := Lib.hid (HBA4.out.chg HC5.out hA2); have HBZ5 := Lib.hid (HBZ4.out.chg HC5.out hA3)
  have HR5 : Hid (RRep w5 P { X with st := X.st.setTx t { X.st.txs t with over := true } }) :=
    Lib.hid (HR4.out.setTxn (x := { X.st.txs t with over := true }) (m := X.made t) (n := X.turn t) ht HC5.out (nine (HI5.out 0 _ rfl) (HI5.out 1 _ rfl) (HI5.out 2 _ rfl) (HI5.out 3 _ rfl) (HI5.out 4 _ rfl) (HI5.out 5 _ rfl) (HI5.out 6 _ rfl) (HI5.out 7 _ rfl) (HI5.out 8 _ rfl)) HO5.out HF5.out rfl rfl (fun _ => rfl) rfl rfl (fun i hi => ⟨rfl, rfl⟩) rfl (fun _ => rfl))
  have HCw : Hid (Chg (fun b => P.lab b ≠ 0) w w5) := Lib.hid ((HNw4.out.mono (fun _ _ h => absurd h id)).then HC5.out (fun i _ e => by rw [e, hlA]; decide))
  have r0 : w5.cell? ⟨nr, 0, none⟩ = some (.slice (some ⟨P.ga, 0, none⟩) 16 P.ca) := HBR5.out.cell (by decide)
  have r1 : w5.cell? ⟨nr, 1, none⟩ = some (.slice (some ⟨P.gW, 0, none⟩) X.st.insts.length P.cW) := HBR5.out.cell (by decide)
  have r2 : w5.cell? ⟨nr, 2, none⟩ = some (.slice (some ⟨P.gC, 0, none⟩) X.st.insts.length P.cC) := HBR5.out.cell (by decide)
  have r3 : w5.cell? ⟨nr, 3, none⟩ = some (.int .i64 X.commits) := HBR5.out.cell (by decide)
  have z0 := HBA5.out.cell (i := 0) (by decide)
  have z1 := HBA5.out.cell (i := 1) (by decide)
  have zf := HBA5.out.free 0
  have zf1 := HBA5.out.free 1
  have y0 := HBZ5.out.cell (i := 0) (by decide)
  have y1 := HBZ5.out.cell (i := 1) (by decide)
  have y2 := HBZ5.out.cell (i := 2) (by decide)
  have y3 := HBZ5.out.cell (i := 3) (by decide)
  have yf0 := HBZ5.out.free 0; have yf1 := HBZ5.out.free 1; have yf2 := HBZ5.out.free 2; have yf3 := HBZ5.out.free 3
  apply wp_once
  case h1 =>
    go_region_law (fail)
    all_goals exact ⟨rfl, rfl⟩
  obtain ⟨g0, g1, h0, h1, h2, h3, HE⟩ := end_cells (.int .i64 10) (.int .i64 0) (.slice (some ⟨P.ga, 0, none⟩) 16 P.ca) (.slice (some ⟨P.gW, 0, none⟩) X.st.insts.length P.cW) (.slice (some ⟨P.gC, 0, none⟩) X.st.insts.length P.cC) (.int .i64 X.commits) (d := nr + 1 + 1) (nz := nr + 1 + 1 + 1) HBA5.out HBZ5.out (by omega)
  unfold endW at g0 g1 h0 h1 h2 h3 HE
  have HE := Lib.hid HE
  clear r0 r1 r2 r3 z0 z1 zf zf1 y0 y1 y2 y3 yf0 yf1 yf2 yf3
  generalize World.drew _ = wE at *
  go_wp2_with fail
  refine bodyPost_ret (results4979 rfl rfl rfl g0 g1 h0 h1 h2 h3) rfl ?_
  exact do_end HR5.out HCw.out (fun b h => .inl h) HE.out (hlab 2) (hlab 3) (by omega) (by omega) ⟨10, 0⟩
set_option maxRecDepth 100000 in
set_option maxHeartbeats 4000000 in
theorem do_4yes (hR : RRep w P X) (t : Nat) (ht : t < 16) (k n : Int) (hE : refusedE X.st ⟨4, t, k, n⟩ = 0) (hin : (X.st.txs t).inst < X.st.insts.length) (hlen : X.st.insts.length ≤ 1000) (hcm : X.commits ≤ 1000) (hm0 : X.made t = 0)
    (hwc : (X.st.txs t).writes = wr16 X.st t) (hcl : (wr16 X.st t && Tx.clash X.st t) = false) :
    Calls Try.prog 51 #[runV P X, .agg #[.int .i64 4, .int .i64 t, .int .i64 k, .int .i64 n]] w (DoPost w P ⟨0, (Tx.commit X.st t).1.n⟩ (xcommit X t)) := by
  have HCL := Lib.hid hcl; have HM0 := Lib.hid hm0; have HWC := Lib.hid hwc
  clear hcl hm0 hwc
  generalize hcn : (Tx.commit X.st t).1.n = CN
  have HR := Lib.hid hR
  have HREF := fun (w' : World) (h : New w w') => refused_any (hR.new h) ⟨4, t, k, n⟩
  have HREF := Lib.hid HREF
  clear hR
  unfold runV at HREF
  unfold runV
  go_enter Try.func51, Try.ntmps51
  go_upto_region 1 with fail
  have hNa : New w ((((w.alloc (.cells #[.slice (some ⟨P.ga, 0, none⟩) 16 P.ca, .slice (some ⟨P.gW, 0, none⟩) X.st.insts.length P.cW, .slice (some ⟨P.gC, 0, none⟩) X.st.insts.length P.cC, .int .i64 X.commits] 79)).alloc (.cells #[.int .i64 4, .int .i64 t, .int .i64 k, .int .i64 n] 47)).alloc (.cells #[.int .i64 0, .int .i64 0] 49)).alloc (.cells #[.slice none 0 0, .slice none 0 0, .slice none 0 0, .int .i64 0] 79)) := ((((Chg.refl _ w).alloc _).alloc _).alloc _).alloc _
  have hBR : Blk ((((w.alloc (.cells #[.slice (some ⟨P.ga, 0, none⟩) 16 P.ca, .slice (some ⟨P.gW, 0, none⟩) X.st.insts.length P.cW, .slice (some ⟨P.gC, 0, none⟩) X.st.insts.length P.cC, .int .i64 X.commits] 79)).alloc (.cells #[.int .i64 4, .int .i64 t, .int .i64 k, .int .i64 n] 47)).alloc (.cells #[.int .i64 0, .int .i64 0] 49)).alloc (.cells #[.slice none 0 0, .slice none 0 0, .slice none 0 0, .int .i64 0] 79)) w.heap.size 79 4 (nth [.slice (some ⟨P.ga, 0, none⟩) 16 P.ca, .slice (some ⟨P.gW, 0, none⟩) X.st.insts.length P.cW, .slice (some ⟨P.gC, 0, none⟩) X.st.insts.length P.cC, .int .i64 X.commits]) := (((Blk.ofL w _ 79).alloc _).alloc _).alloc _
  have hBO : Blk ((((w.alloc (.cells #[.slice (some ⟨P.ga, 0, none⟩) 16 P.ca, .slice (some ⟨P.gW, 0, none⟩) X.st.insts.length P.cW, .slice (some ⟨P.gC, 0, none⟩) X.st.insts.length P.cC, .int .i64 X.commits] 79)).alloc (.cells #[.int .i64 4, .int .i64 t, .int .i64 k, .int .i64 n] 47)).alloc (.cells #[.int .i64 0, .int .i64 0] 49)).alloc (.cells #[.slice none 0 0, .slice none 0 0, .slice none 0 0, .int .i64 0] 79)) (w.heap.size + 1) 47 4 (nth [.int .i64 4, .int .i64 t, .int .i64 k, .int .i64 n]) := by
    have := ((Blk.ofL (w.alloc (.cells #[.slice (some ⟨P.ga, 0, none⟩) 16 P.ca, .slice (some ⟨P.gW, 0, none⟩) X.st.insts.length P.cW, .slice (some ⟨P.gC, 0, none⟩) X.st.insts.length P.cC, .int .i64 X.commits] 79)) [.int .i64 4, .int .i64 t, .int .i64 k, .int .i64 n] 47).alloc (.cells #[.int .i64 0, .int .i64 0] 49)).alloc (.cells #[.slice none 0 0, .slice none 0 0, .slice none 0 0, .int .i64 0] 79)
    rwa [World.size_alloc] at this
  have hBA : Blk ((((w.alloc (.cells #[.slice (some ⟨P.ga, 0, none⟩) 16 P.ca, .slice (some ⟨P.gW, 0, none⟩) X.st.insts.length P.cW, .slice (some ⟨P.gC, 0, none⟩) X.st.insts.length P.cC, .int .i64 X.commits] 79)).alloc (.cells #[.int .i64 4, .int .i64 t, .int .i64 k, .int .i64 n] 47)).alloc (.cells #[.int .i64 0, .int .i64 0] 49)).alloc (.cells #[.slice none 0 0, .slice none 0 0, .slice none 0 0, .int .i64 0] 79)) (w.heap.size + 2) 49 2 (nth [.int .i64 0, .int .i64 0]) := by
    have := (Blk.ofL ((w.alloc (.cells #[.slice (some ⟨P.ga, 0, none⟩) 16 P.ca, .slice (some ⟨P.gW, 0, none⟩) X.st.insts.length P.cW, .slice (some ⟨P.gC, 0, none⟩) X.st.insts.length P.cC, .int .i64 X.commits] 79)).alloc (.cells #[.int .i64 4, .int .i64 t, .int .i64 k, .int .i64 n] 47)) [.int .i64 0, .int .i64 0] 49).alloc (.cells #[.slice none 0 0, .slice none 0 0, .slice none 0 0, .int .i64 0] 79)
    rwa [World.size_alloc, World.size_alloc] at this
  have hBZ : Blk ((((w.alloc (.cells #[.slice (some ⟨P.ga, 0, none⟩) 16 P.ca, .slice (some ⟨P.gW, 0, none⟩) X.st.insts.length P.cW, .slice (some ⟨P.gC, 0, none⟩) X.st.insts.length P.cC, .int .i64 X.commits] 79)).alloc (.cells #[.int .i64 4, .int .i64 t, .int .i64 k, .int .i64 n] 47)).alloc (.cells #[.int .i64 0, .int .i64 0] 49)).alloc (.cells #[.slice none 0 0, .slice none 0 0, .slice none 0 0, .int .i64 0] 79)) (w.heap.size + 3) 79 4 (nth [.slice none 0 0, .slice none 0 0, .slice none 0 0, .int .i64 0]) := by
    have := Blk.ofL (((w.alloc (.cells #[.slice (some ⟨P.ga, 0, none⟩) 16 P.ca, .slice (some ⟨P.gW, 0, none⟩) X.st.insts.length P.cW, .slice (some ⟨P.gC, 0, none⟩) X.st.insts.length P.cC, .int .i64 X.commits] 79)).alloc (.cells #[.int .i64 4, .int .i64 t, .int .i64 k, .int .i64 n] 47)).alloc (.cells #[.int .i64 0, .int .i64 0] 49)) [.slice none 0 0, .slice none 0 0, .slice none 0 0, .int .i64 0] 79
    rwa [World.size_alloc, World.size_alloc, World.size_alloc] at this
  have hlab : ∀ i, P.lab (w.heap.size + i) = 0 := fun i => HR.out.hi _ (by omega)
  have HBR := Lib.hid hBR; have HBO := Lib.hid hBO; have HBA := Lib.hid hBA; have HBZ := Lib.hid hBZ; have HNa := Lib.hid hNa
  clear hBR hBO hBA hBZ hNa
  generalize (((w.alloc _).alloc _).alloc _).alloc _ = w1 at *
  generalize hnr : w.heap.size = nr at *
  have r0 : w1.cell? ⟨nr, 0, none⟩ = some (.slice (some ⟨P.ga, 0, none⟩) 16 P.ca) := HBR.out.cell (by decide)
  have r1 : w1.cell? ⟨nr, 1, none⟩ = some (.slice (some ⟨P.gW, 0, none⟩) X.st.insts.length P.cW) := HBR.out.cell (by decide)
  have r2 : w1.cell? ⟨nr, 2, none⟩ = some (.slice (some ⟨P.gC, 0, none⟩) X.st.insts.length P.cC) := HBR.out.cell (by decide)
  have r3 : w1.cell? ⟨nr, 3, none⟩ = some (.int .i64 X.commits) := HBR.out.cell (by decide)
  have o0 : w1.cell? ⟨(nr + 1), 0, none⟩ = some (.int .i64 4) := HBO.out.cell (by decide)
  have o1 : w1.cell? ⟨(nr + 1), 1, none⟩ = some (.int .i64 t) := HBO.out.cell (by decide)
  have o2 : w1.cell? ⟨(nr + 1), 2, none⟩ = some (.int .i64 k) := HBO.out.cell (by decide)
  have o3 : w1.cell? ⟨(nr + 1), 3, none⟩ = some (.int .i64 n) := HBO.out.cell (by decide)
  rw [hE] at HREF
  have ht1 : (t : Int) < 16 := by omega
  have ht0 : (0 : Int) ≤ (t : Int) := by omega
  go_upto_region 4 with ((with_reducible refine (HREF.out _ HNa.out).mono ?_); rintro e w2 ⟨rfl, hN2⟩; have HN2 := Lib.hid hN2; clear hN2)
  clear r0 r1 r2 r3 o0 o1 o2 o3
  have HBR2 := Lib.hid (HBR.out.chg HN2.out (fun h => h)); have HBO2 := Lib.hid (HBO.out.chg HN2.out (fun h => h)); have HBA2 := Lib.hid (HBA.out.chg HN2.out (fun h => h)); have HBZ2 := Lib.hid (HBZ.out.chg HN2.out (fun h => h))
  have HNw2 := Lib.hid (HNa.out.trans HN2.out)
  have HR2 := Lib.hid (HR.out.new HNw2.out)
  clear HBR HBO HBA HBZ HNa HN2 HREF
  have r0 : w2.cell? ⟨nr, 0, none⟩ = some (.slice (some ⟨P.ga, 0, none⟩) 16 P.ca) := HBR2.out.cell (by decide)
  have o1 : w2.cell? ⟨nr + 1, 1, none⟩ = some (.int .i64 t) := HBO2.out.cell (by decide)
  obtain ⟨a0, a1, a2, a3, a4, a5, a6, a7, a8⟩ := HR2.out.st9 ht
  have HBR3 := Lib.hid (HBR2.out.alloc (.cells #[.bool (X.st.txs t).begun, .bool (X.st.txs t).over, .bool (X.st.txs t).comm, .int .i64 (X.st.txs t).inst, .slice (some ⟨P.rd t, 0, none⟩) 16 16, .slice (some ⟨P.wb t, 0, none⟩) 16 16, .slice (some ⟨P.vb t, 0, none⟩) 16 16, .int .i64 (X.made t), .int .i64 (X.turn t)] 93)); have HBO3 := Lib.hid (HBO2.out.alloc (.cells #[.bool (X.st.txs t).begun, .bool (X.st.txs t).over, .bool (X.st.txs t).comm, .int .i64 (X.st.txs t).inst, .slice (some ⟨P.rd t, 0, none⟩) 16 16, .slice (some ⟨P.wb t, 0, none⟩) 16 16, .slice (some ⟨P.vb t, 0, none⟩) 16 16, .int .i64 (X.made t), .int .i64 (X.turn t)] 93)); have HBA3 := Lib.hid (HBA2.out.alloc (.cells #[.bool (X.st.txs t).begun, .bool (X.st.txs t).over, .bool (X.st.txs t).comm, .int .i64 (X.st.txs t).inst, .slice (some ⟨P.rd t, 0, none⟩) 16 16, .slice (some ⟨P.wb t, 0, none⟩) 16 16, .slice (some ⟨P.vb t, 0, none⟩) 16 16, .int .i64 (X.made t), .int .i64 (X.turn t)] 93)); have HBZ3 := Lib.hid (HBZ2.out.alloc (.cells #[.bool (X.st.txs t).begun, .bool (X.st.txs t).over, .bool (X.st.txs t).comm, .int .i64 (X.st.txs t).inst, .slice (some ⟨P.rd t, 0, none⟩) 16 16, .slice (some ⟨P.wb t, 0, none⟩) 16 16, .slice (some ⟨P.vb t, 0, none⟩) 16 16, .int .i64 (X.made t), .int .i64 (X.turn t)] 93))
  have HBL3 : Hid (Blk (w2.alloc (.cells #[.bool (X.st.txs t).begun, .bool (X.st.txs t).over, .bool (X.st.txs t).comm, .int .i64 (X.st.txs t).inst, .slice (some ⟨P.rd t, 0, none⟩) 16 16, .slice (some ⟨P.wb t, 0, none⟩) 16 16, .slice (some ⟨P.vb t, 0, none⟩) 16 16, .int .i64 (X.made t), .int .i64 (X.turn t)] 93)) w2.heap.size 93 9 (nth [.bool (X.st.txs t).begun, .bool (X.st.txs t).over, .bool (X.st.txs t).comm, .int .i64 (X.st.txs t).inst, .slice (some ⟨P.rd t, 0, none⟩) 16 16, .slice (some ⟨P.wb t, 0, none⟩) 16 16, .slice (some ⟨P.vb t, 0, none⟩) 16 16, .int .i64 (X.made t), .int .i64 (X.turn t)])) := Lib.hid (Blk.ofL w2 _ 93)
  have HNw3 := Lib.hid (HNw2.out.alloc (.cells #[.bool (X.st.txs t).begun, .bool (X.st.txs t).over, .bool (X.st.txs t).comm, .int .i64 (X.st.txs t).inst, .slice (some ⟨P.rd t, 0, none⟩) 16 16, .slice (some ⟨P.wb t, 0, none⟩) 16 16, .slice (some ⟨P.vb t, 0, none⟩) 16 16, .int .i64 (X.made t), .int .i64 (X.turn t)] 93))
  have hll : P.lab w2.heap.size = 0 := HR2.out.hi _ (Nat.le_refl _)
  have hzl : nr + 3 < w2.heap.size := HBZ2.out.lt
  have HR3 := Lib.hid (HR.out.new HNw3.out)
  go_upto_region 5 with fail
  clear r0 o1 a0 a1 a2 a3 a4 a5 a6 a7 a8 HBR2 HBO2 HBA2 HBZ2 HNw2 HR2
  generalize w2.alloc _ = w3 at *
  generalize w2.heap.size = nl at *
  have hnr2 : w.heap.size ≤ nr := by omega
  have hlA := HR3.out.la
  have hA0 : nr ≠ P.ga := fun e => by have := hlab 0; rw [Nat.add_zero, e, hlA] at this; cases this
  have hA1 : nr + 1 ≠ P.ga := fun e => by have := hlab 1; rw [e, hlA] at this; cases this
  have hA2 : nr + 2 ≠ P.ga := fun e => by have := hlab 2; rw [e, hlA] at this; cases this
  have hA3 : nr + 3 ≠ P.ga := fun e => by have := hlab 3; rw [e, hlA] at this; cases this
  have hAl : nl ≠ P.ga := fun e => by rw [e, hlA] at hll; cases hll
  have HCA : Hid (Calls Try.prog 58 #[runV P X, .agg #[.bool (X.st.txs t).begun, .bool (X.st.txs t).over, .bool (X.st.txs t).comm, .int .i64 (X.st.txs t).inst, .slice (some ⟨P.rd t, 0, none⟩) 16 16, .slice (some ⟨P.wb t, 0, none⟩) 16 16, .slice (some ⟨P.vb t, 0, none⟩) 16 16, .int .i64 (X.made t), .int .i64 (X.turn t)]] w3 fun e w' => e = .returned (.bool false) ∧ New w3 w') := by
    have h := clashes_any HR3.out t ht hin hlen (X.st.txs t).begun (X.st.txs t).over (X.st.txs t).comm (X.made t) (X.turn t)
    rw [HCL.out] at h
    exact h
  unfold runV at HCA
  have o0 : w3.cell? ⟨nr + 1, 0, none⟩ = some (.int .i64 4) := HBO3.out.cell (by decide)
  have r0 : w3.cell? ⟨nr, 0, none⟩ = some (.slice (some ⟨P.ga, 0, none⟩) 16 P.ca) := HBR3.out.cell (by decide)
  have r1 : w3.cell? ⟨nr, 1, none⟩ = some (.slice (some ⟨P.gW, 0, none⟩) X.st.insts.length P.cW) := HBR3.out.cell (by decide)
  have r2 : w3.cell? ⟨nr, 2, none⟩ = some (.slice (some ⟨P.gC, 0, none⟩) X.st.insts.length P.cC) := HBR3.out.cell (by decide)
  have r3 : w3.cell? ⟨nr, 3, none⟩ = some (.int .i64 X.commits) := HBR3.out.cell (by decide)
  have l0 : w3.cell? ⟨nl, 0, none⟩ = some (.bool (X.st.txs t).begun) := HBL3.out.cell (by decide)
  have l1 : w3.cell? ⟨nl, 1, none⟩ = some (.bool (X.st.txs t).over) := HBL3.out.cell (by decide)
  have l2 : w3.cell? ⟨nl, 2, none⟩ = some (.bool (X.st.txs t).comm) := HBL3.out.cell (by decide)
  have l3 : w3.cell? ⟨nl, 3, none⟩ = some (.int .i64 (X.st.txs t).inst) := HBL3.out.cell (by decide)
  have l4 : w3.cell? ⟨nl, 4, none⟩ = some (.slice (some ⟨P.rd t, 0, none⟩) 16 16) := HBL3.out.cell (by decide)
  have l5 : w3.cell? ⟨nl, 5, none⟩ = some (.slice (some ⟨P.wb t, 0, none⟩) 16 16) := HBL3.out.cell (by decide)
  have l6 : w3.cell? ⟨nl, 6, none⟩ = some (.slice (some ⟨P.vb t, 0, none⟩) 16 16) := HBL3.out.cell (by decide)
  have l7 : w3.cell? ⟨nl, 7, none⟩ = some (.int .i64 (X.made t)) := HBL3.out.cell (by decide)
  have l8 : w3.cell? ⟨nl, 8, none⟩ = some (.int .i64 (X.turn t)) := HBL3.out.cell (by decide)
  go_upto_region 29 with ((with_reducible refine HCA.out.mono ?_); rintro e w3b ⟨rfl, hN3⟩; have HN3 := Lib.hid hN3; clear hN3)
  clear r0 r1 r2 r3 l0 l1 l2 l3 l4 l5 l6 l7 l8 o0 HCA
  have HBR3b := Lib.hid (HBR3.out.chg HN3.out (fun h => h)); have HBO3b := Lib.hid (HBO3.out.chg HN3.out (fun h => h)); have HBA3b := Lib.hid (HBA3.out.chg HN3.out (fun h => h)); have HBZ3b := Lib.hid (HBZ3.out.chg HN3.out (fun h => h))
  have HNw3b := Lib.hid (HNw3.out.trans HN3.out)
  have HR3b := Lib.hid (HR.out.new HNw3b.out)
  clear HBR3 HBO3 HBA3 HBZ3 HBL3 HNw3 HR3 HN3
  have HCO : Hid (Calls Try.prog 59 #[runV P X, .int .i64 t] w3b fun e w' => ∃ P', e = .returned (.tuple #[.int .i64 CN, runV P' (xcommit X t)]) ∧ RRep w' P' (xcommit X t) ∧ Chg (fun b => P.lab b ≠ 0) w3b w' ∧ ∀ b, P'.lab b ≠ 0 → P.lab b ≠ 0 ∨ w3b.heap.size ≤ b) := by
    have h := rcommit_any HR3b.out t ht HM0.out (by omega) hlen hcm HWC.out HCL.out
    rw [hcn] at h
    exact h
  unfold runV at HCO
  have hzlb : nr + 3 < w3b.heap.size := HBZ3b.out.lt
  have o1 : w3b.cell? ⟨nr + 1, 1, none⟩ = some (.int .i64 t) := HBO3b.out.cell (by decide)
  have r0 : w3b.cell? ⟨nr, 0, none⟩ = some (.slice (some ⟨P.ga, 0, none⟩) 16 P.ca) := HBR3b.out.cell (by decide)
  have r1 : w3b.cell? ⟨nr, 1, none⟩ = some (.slice (some ⟨P.gW, 0, none⟩) X.st.insts.length P.cW) := HBR3b.out.cell (by decide)
  have r2 : w3b.cell? ⟨nr, 2, none⟩ = some (.slice (some ⟨P.gC, 0, none⟩) X.st.insts.length P.cC) := HBR3b.out.cell (by decide)
  have r3 : w3b.cell? ⟨nr, 3, none⟩ = some (.int .i64 X.commits) := HBR3b.out.cell (by decide)
  have HCN := Lib.hid hcn
  clear hcn
  go_upto_region 30 with ((with_reducible refine HCO.out.mono ?_); rintro e w4 ⟨P', rfl, hR4, hC4, hL4⟩; have HR4 := Lib.hid hR4; have HC4 := Lib.hid hC4; have HL4 := Lib.hid hL4; have HBA4 := Lib.hid (HBA3b.out.chg hC4 (fun h => h (hlab 2))); have HBZ4 := Lib.hid (HBZ3b.out.chg hC4 (fun h => h (hlab 3))); clear hR4 hC4 hL4)
  clear r0 r1 r2 r3 o1 HCO
  have hl2 : P'.lab (nr + 2) = 0 := Decidable.byContradiction fun h => by
    rcases HL4.out _ h with h1 | h1
    · exact h1 (hlab 2)
    · omega
  have hl3 : P'.lab (nr + 3) = 0 := Decidable.byContradiction fun h => by
    rcases HL4.out _ h with h1 | h1
    · exact h1 (hlab 3)
    · omega
  have HBA5 := Lib.hid (HBA4.out.alloc (.cells #[.slice (some ⟨P'.ga, 0, none⟩) 16 P'.ca, .slice (some ⟨P'.gW, 0, none⟩) (xcommit X t).st.insts.length P'.cW, .slice (some ⟨P'.gC, 0, none⟩) (xcommit X t).st.insts.length P'.cC, .int .i64 (xcommit X t).commits] 79)); have HBZ5 := Lib.hid (HBZ4.out.alloc (.cells #[.slice (some ⟨P'.ga, 0, none⟩) 16 P'.ca, .slice (some ⟨P'.gW, 0, none⟩) (xcommit X t).st.insts.length P'.cW, .slice (some ⟨P'.gC, 0, none⟩) (xcommit X t).st.insts.length P'.cC, .int .i64 (xcommit X t).commits] 79))
  have HBR5 : Hid (Blk (w4.alloc (.cells #[.slice (some ⟨P'.ga, 0, none⟩) 16 P'.ca, .slice (some ⟨P'.gW, 0, none⟩) (xcommit X t).st.insts.length P'.cW, .slice (some ⟨P'.gC, 0, none⟩) (xcommit X t).st.insts.length P'.cC, .int .i64 (xcommit X t).commits] 79)) w4.heap.size 79 4 (nth [.slice (some ⟨P'.ga, 0, none⟩) 16 P'.ca, .slice (some ⟨P'.gW, 0, none⟩) (xcommit X t).st.insts.length P'.cW, .slice (some ⟨P'.gC, 0, none⟩) (xcommit X t).st.insts.length P'.cC, .int .i64 (xcommit X t).commits])) := Lib.hid (Blk.ofL w4 _ 79)
  have HR5 := Lib.hid (HR4.out.new ((Chg.refl _ w4).alloc (.cells #[.slice (some ⟨P'.ga, 0, none⟩) 16 P'.ca, .slice (some ⟨P'.gW, 0, none⟩) (xcommit X t).st.insts.length P'.cW, .slice (some ⟨P'.gC, 0, none⟩) (xcommit X t).st.insts.length P'.cC, .int .i64 (xcommit X t).commits] 79)))
  have HCw : Hid (Chg (fun b => P.lab b ≠ 0) w (w4.alloc (.cells #[.slice (some ⟨P'.ga, 0, none⟩) 16 P'.ca, .slice (some ⟨P'.gW, 0, none⟩) (xcommit X t).st.insts.length P'.cW, .slice (some ⟨P'.gC, 0, none⟩) (xcommit X t).st.insts.length P'.cC, .int .i64 (xcommit X t).commits] 79))) := Lib.hid (((HNw3b.out.mono (fun _ _ h => absurd h id)).trans HC4.out).alloc _)
  have h34 := HC4.out.size
  have hzl4 : nr + 3 < w4.heap.size := HBZ4.out.lt
  have hw3b := HNw3b.out.size
  generalize w4.alloc _ = w5 at *
  generalize w4.heap.size = nb at *
  have r0 : w5.cell? ⟨nb, 0, none⟩ = some (.slice (some ⟨P'.ga, 0, none⟩) 16 P'.ca) := HBR5.out.cell (by decide)
  have r1 : w5.cell? ⟨nb, 1, none⟩ = some (.slice (some ⟨P'.gW, 0, none⟩) (xcommit X t).st.insts.length P'.cW) := HBR5.out.cell (by decide)
  have r2 : w5.cell? ⟨nb, 2, none⟩ = some (.slice (some ⟨P'.gC, 0, none⟩) (xcommit X t).st.insts.length P'.cC) := HBR5.out.cell (by decide)
  have r3 : w5.cell? ⟨nb, 3, none⟩ = some (.int .i64 (xcommit X t).commits) := HBR5.out.cell (by decide)
  have z0 := HBA5.out.cell (i := 0) (by decide)
  have z1 := HBA5.out.cell (i := 1) (by decide)
  have zf := HBA5.out.free 0
  have zf1 := HBA5.out.free 1
  have y0 := HBZ5.out.cell (i := 0) (by decide)
  have y1 := HBZ5.out.cell (i := 1) (by decide)
  have y2 := HBZ5.out.cell (i := 2) (by decide)
  have y3 := HBZ5.out.cell (i := 3) (by decide)
  have yf0 := HBZ5.out.free 0; have yf1 := HBZ5.out.free 1; have yf2 := HBZ5.out.free 2; have yf3 := HBZ5.out.free 3
  apply wp_once
  case h1 =>
    go_region_law (fail)
    all_goals exact ⟨rfl, rfl⟩
  obtain ⟨g0, g1, h0, h1, h2, h3, HE⟩ := end_cells (.int .i64 0) (.int .i64 CN) (.slice (some ⟨P'.ga, 0, none⟩) 16 P'.ca) (.slice (some ⟨P'.gW, 0, none⟩) (xcommit X t).st.insts.length P'.cW) (.slice (some ⟨P'.gC, 0, none⟩) (xcommit X t).st.insts.length P'.cC) (.int .i64 (xcommit X t).commits) (d := nr + 1 + 1) (nz := nr + 1 + 1 + 1) HBA5.out HBZ5.out (by omega)
  unfold endW at g0 g1 h0 h1 h2 h3 HE
  have HE := Lib.hid HE
  clear r0 r1 r2 r3 z0 z1 zf zf1 y0 y1 y2 y3 yf0 yf1 yf2 yf3
  generalize World.drew _ = wE at *
  go_wp2_with fail
  refine bodyPost_ret (results4979 rfl rfl rfl g0 g1 h0 h1 h2 h3) rfl ?_
  exact do_end HR5.out HCw.out (fun b h => (HL4.out b h).imp id (fun h => by omega)) HE.out hl2 hl3 (by omega) (by omega) ⟨0, CN⟩
set_option maxRecDepth 100000 in
set_option maxHeartbeats 4000000 in
theorem do_5 (hR : RRep w P X) (t : Nat) (ht : t < 16) (k n : Int) (hE : refusedE X.st ⟨5, t, k, n⟩ = 0) :
    Calls Try.prog 51 #[runV P X, .agg #[.int .i64 5, .int .i64 t, .int .i64 k, .int .i64 n]] w (DoPost w P ⟨0, 0⟩ { X with st := X.st.setTx t { X.st.txs t with over := true } }) := by
  have HR := Lib.hid hR
  have HREF := fun (w' : World) (h : New w w') => refused_any (hR.new h) ⟨5, t, k, n⟩
  have HREF := Lib.hid HREF
  clear hR
  unfold runV at HREF
  unfold runV
  go_enter Try.func51, Try.ntmps51
  go_upto_region 1 with fail
  have hNa : New w ((((w.alloc (.cells #[.slice (some ⟨P.ga, 0, none⟩) 16 P.ca, .slice (some ⟨P.gW, 0, none⟩) X.st.insts.length P.cW, .slice (some ⟨P.gC, 0, none⟩) X.st.insts.length P.cC, .int .i64 X.commits] 79)).alloc (.cells #[.int .i64 5, .int .i64 t, .int .i64 k, .int .i64 n] 47)).alloc (.cells #[.int .i64 0, .int .i64 0] 49)).alloc (.cells #[.slice none 0 0, .slice none 0 0, .slice none 0 0, .int .i64 0] 79)) := ((((Chg.refl _ w).alloc _).alloc _).alloc _).alloc _
  have hBR : Blk ((((w.alloc (.cells #[.slice (some ⟨P.ga, 0, none⟩) 16 P.ca, .slice (some ⟨P.gW, 0, none⟩) X.st.insts.length P.cW, .slice (some ⟨P.gC, 0, none⟩) X.st.insts.length P.cC, .int .i64 X.commits] 79)).alloc (.cells #[.int .i64 5, .int .i64 t, .int .i64 k, .int .i64 n] 47)).alloc (.cells #[.int .i64 0, .int .i64 0] 49)).alloc (.cells #[.slice none 0 0, .slice none 0 0, .slice none 0 0, .int .i64 0] 79)) w.heap.size 79 4 (nth [.slice (some ⟨P.ga, 0, none⟩) 16 P.ca, .slice (some ⟨P.gW, 0, none⟩) X.st.insts.length P.cW, .slice (some ⟨P.gC, 0, none⟩) X.st.insts.length P.cC, .int .i64 X.commits]) := (((Blk.ofL w _ 79).alloc _).alloc _).alloc _
  have hBO : Blk ((((w.alloc (.cells #[.slice (some ⟨P.ga, 0, none⟩) 16 P.ca, .slice (some ⟨P.gW, 0, none⟩) X.st.insts.length P.cW, .slice (some ⟨P.gC, 0, none⟩) X.st.insts.length P.cC, .int .i64 X.commits] 79)).alloc (.cells #[.int .i64 5, .int .i64 t, .int .i64 k, .int .i64 n] 47)).alloc (.cells #[.int .i64 0, .int .i64 0] 49)).alloc (.cells #[.slice none 0 0, .slice none 0 0, .slice none 0 0, .int .i64 0] 79)) (w.heap.size + 1) 47 4 (nth [.int .i64 5, .int .i64 t, .int .i64 k, .int .i64 n]) := by
    have := ((Blk.ofL (w.alloc (.cells #[.slice (some ⟨P.ga, 0, none⟩) 16 P.ca, .slice (some ⟨P.gW, 0, none⟩) X.st.insts.length P.cW, .slice (some ⟨P.gC, 0, none⟩) X.st.insts.length P.cC, .int .i64 X.commits] 79)) [.int .i64 5, .int .i64 t, .int .i64 k, .int .i64 n] 47).alloc (.cells #[.int .i64 0, .int .i64 0] 49)).alloc (.cells #[.slice none 0 0, .slice none 0 0, .slice none 0 0, .int .i64 0] 79)
    rwa [World.size_alloc] at this
  have hBA : Blk ((((w.alloc (.cells #[.slice (some ⟨P.ga, 0, none⟩) 16 P.ca, .slice (some ⟨P.gW, 0, none⟩) X.st.insts.length P.cW, .slice (some ⟨P.gC, 0, none⟩) X.st.insts.length P.cC, .int .i64 X.commits] 79)).alloc (.cells #[.int .i64 5, .int .i64 t, .int .i64 k, .int .i64 n] 47)).alloc (.cells #[.int .i64 0, .int .i64 0] 49)).alloc (.cells #[.slice none 0 0, .slice none 0 0, .slice none 0 0, .int .i64 0] 79)) (w.heap.size + 2) 49 2 (nth [.int .i64 0, .int .i64 0]) := by
    have := (Blk.ofL ((w.alloc (.cells #[.slice (some ⟨P.ga, 0, none⟩) 16 P.ca, .slice (some ⟨P.gW, 0, none⟩) X.st.insts.length P.cW, .slice (some ⟨P.gC, 0, none⟩) X.st.insts.length P.cC, .int .i64 X.commits] 79)).alloc (.cells #[.int .i64 5, .int .i64 t, .int .i64 k, .int .i64 n] 47)) [.int .i64 0, .int .i64 0] 49).alloc (.cells #[.slice none 0 0, .slice none 0 0, .slice none 0 0, .int .i64 0] 79)
    rwa [World.size_alloc, World.size_alloc] at this
  have hBZ : Blk ((((w.alloc (.cells #[.slice (some ⟨P.ga, 0, none⟩) 16 P.ca, .slice (some ⟨P.gW, 0, none⟩) X.st.insts.length P.cW, .slice (some ⟨P.gC, 0, none⟩) X.st.insts.length P.cC, .int .i64 X.commits] 79)).alloc (.cells #[.int .i64 5, .int .i64 t, .int .i64 k, .int .i64 n] 47)).alloc (.cells #[.int .i64 0, .int .i64 0] 49)).alloc (.cells #[.slice none 0 0, .slice none 0 0, .slice none 0 0, .int .i64 0] 79)) (w.heap.size + 3) 79 4 (nth [.slice none 0 0, .slice none 0 0, .slice none 0 0, .int .i64 0]) := by
    have := Blk.ofL (((w.alloc (.cells #[.slice (some ⟨P.ga, 0, none⟩) 16 P.ca, .slice (some ⟨P.gW, 0, none⟩) X.st.insts.length P.cW, .slice (some ⟨P.gC, 0, none⟩) X.st.insts.length P.cC, .int .i64 X.commits] 79)).alloc (.cells #[.int .i64 5, .int .i64 t, .int .i64 k, .int .i64 n] 47)).alloc (.cells #[.int .i64 0, .int .i64 0] 49)) [.slice none 0 0, .slice none 0 0, .slice none 0 0, .int .i64 0] 79
    rwa [World.size_alloc, World.size_alloc, World.size_alloc] at this
  have hlab : ∀ i, P.lab (w.heap.size + i) = 0 := fun i => HR.out.hi _ (by omega)
  have HBR := Lib.hid hBR; have HBO := Lib.hid hBO; have HBA := Lib.hid hBA; have HBZ := Lib.hid hBZ; have HNa := Lib.hid hNa
  clear hBR hBO hBA hBZ hNa
  generalize (((w.alloc _).alloc _).alloc _).alloc _ = w1 at *
  generalize hnr : w.heap.size = nr at *
  have r0 : w1.cell? ⟨nr, 0, none⟩ = some (.slice (some ⟨P.ga, 0, none⟩) 16 P.ca) := HBR.out.cell (by decide)
  have r1 : w1.cell? ⟨nr, 1, none⟩ = some (.slice (some ⟨P.gW, 0, none⟩) X.st.insts.length P.cW) := HBR.out.cell (by decide)
  have r2 : w1.cell? ⟨nr, 2, none⟩ = some (.slice (some ⟨P.gC, 0, none⟩) X.st.insts.length P.cC) := HBR.out.cell (by decide)
  have r3 : w1.cell? ⟨nr, 3, none⟩ = some (.int .i64 X.commits) := HBR.out.cell (by decide)
  have o0 : w1.cell? ⟨(nr + 1), 0, none⟩ = some (.int .i64 5) := HBO.out.cell (by decide)
  have o1 : w1.cell? ⟨(nr + 1), 1, none⟩ = some (.int .i64 t) := HBO.out.cell (by decide)
  have o2 : w1.cell? ⟨(nr + 1), 2, none⟩ = some (.int .i64 k) := HBO.out.cell (by decide)
  have o3 : w1.cell? ⟨(nr + 1), 3, none⟩ = some (.int .i64 n) := HBO.out.cell (by decide)
  rw [hE] at HREF
  have ht1 : (t : Int) < 16 := by omega
  have ht0 : (0 : Int) ≤ (t : Int) := by omega
  go_upto_region 4 with ((with_reducible refine (HREF.out _ HNa.out).mono ?_); rintro e w2 ⟨rfl, hN2⟩; have HN2 := Lib.hid hN2; clear hN2)
  clear r0 r1 r2 r3 o0 o1 o2 o3
  have HBR2 := Lib.hid (HBR.out.chg HN2.out (fun h => h)); have HBO2 := Lib.hid (HBO.out.chg HN2.out (fun h => h)); have HBA2 := Lib.hid (HBA.out.chg HN2.out (fun h => h)); have HBZ2 := Lib.hid (HBZ.out.chg HN2.out (fun h => h))
  have HNw2 := Lib.hid (HNa.out.trans HN2.out)
  have HR2 := Lib.hid (HR.out.new HNw2.out)
  clear HBR HBO HBA HBZ HNa HN2 HREF
  have r0 : w2.cell? ⟨nr, 0, none⟩ = some (.slice (some ⟨P.ga, 0, none⟩) 16 P.ca) := HBR2.out.cell (by decide)
  have o1 : w2.cell? ⟨nr + 1, 1, none⟩ = some (.int .i64 t) := HBO2.out.cell (by decide)
  obtain ⟨a0, a1, a2, a3, a4, a5, a6, a7, a8⟩ := HR2.out.st9 ht
  have HBR3 := Lib.hid (HBR2.out.alloc (.cells #[.bool (X.st.txs t).begun, .bool (X.st.txs t).over, .bool (X.st.txs t).comm, .int .i64 (X.st.txs t).inst, .slice (some ⟨P.rd t, 0, none⟩) 16 16, .slice (some ⟨P.wb t, 0, none⟩) 16 16, .slice (some ⟨P.vb t, 0, none⟩) 16 16, .int .i64 (X.made t), .int .i64 (X.turn t)] 93)); have HBO3 := Lib.hid (HBO2.out.alloc (.cells #[.bool (X.st.txs t).begun, .bool (X.st.txs t).over, .bool (X.st.txs t).comm, .int .i64 (X.st.txs t).inst, .slice (some ⟨P.rd t, 0, none⟩) 16 16, .slice (some ⟨P.wb t, 0, none⟩) 16 16, .slice (some ⟨P.vb t, 0, none⟩) 16 16, .int .i64 (X.made t), .int .i64 (X.turn t)] 93)); have HBA3 := Lib.hid (HBA2.out.alloc (.cells #[.bool (X.st.txs t).begun, .bool (X.st.txs t).over, .bool (X.st.txs t).comm, .int .i64 (X.st.txs t).inst, .slice (some ⟨P.rd t, 0, none⟩) 16 16, .slice (some ⟨P.wb t, 0, none⟩) 16 16, .slice (some ⟨P.vb t, 0, none⟩) 16 16, .int .i64 (X.made t), .int .i64 (X.turn t)] 93)); have HBZ3 := Lib.hid (HBZ2.out.alloc (.cells #[.bool (X.st.txs t).begun, .bool (X.st.txs t).over, .bool (X.st.txs t).comm, .int .i64 (X.st.txs t).inst, .slice (some ⟨P.rd t, 0, none⟩) 16 16, .slice (some ⟨P.wb t, 0, none⟩) 16 16, .slice (some ⟨P.vb t, 0, none⟩) 16 16, .int .i64 (X.made t), .int .i64 (X.turn t)] 93))
  have HBL3 : Hid (Blk (w2.alloc (.cells #[.bool (X.st.txs t).begun, .bool (X.st.txs t).over, .bool (X.st.txs t).comm, .int .i64 (X.st.txs t).inst, .slice (some ⟨P.rd t, 0, none⟩) 16 16, .slice (some ⟨P.wb t, 0, none⟩) 16 16, .slice (some ⟨P.vb t, 0, none⟩) 16 16, .int .i64 (X.made t), .int .i64 (X.turn t)] 93)) w2.heap.size 93 9 (nth [.bool (X.st.txs t).begun, .bool (X.st.txs t).over, .bool (X.st.txs t).comm, .int .i64 (X.st.txs t).inst, .slice (some ⟨P.rd t, 0, none⟩) 16 16, .slice (some ⟨P.wb t, 0, none⟩) 16 16, .slice (some ⟨P.vb t, 0, none⟩) 16 16, .int .i64 (X.made t), .int .i64 (X.turn t)])) := Lib.hid (Blk.ofL w2 _ 93)
  have HNw3 := Lib.hid (HNw2.out.alloc (.cells #[.bool (X.st.txs t).begun, .bool (X.st.txs t).over, .bool (X.st.txs t).comm, .int .i64 (X.st.txs t).inst, .slice (some ⟨P.rd t, 0, none⟩) 16 16, .slice (some ⟨P.wb t, 0, none⟩) 16 16, .slice (some ⟨P.vb t, 0, none⟩) 16 16, .int .i64 (X.made t), .int .i64 (X.turn t)] 93))
  have hll : P.lab w2.heap.size = 0 := HR2.out.hi _ (Nat.le_refl _)
  have hzl : nr + 3 < w2.heap.size := HBZ2.out.lt
  have HR3 := Lib.hid (HR.out.new HNw3.out)
  go_upto_region 5 with fail
  clear r0 o1 a0 a1 a2 a3 a4 a5 a6 a7 a8 HBR2 HBO2 HBA2 HBZ2 HNw2 HR2
  generalize w2.alloc _ = w3 at *
  generalize w2.heap.size = nl at *
  have hnr2 : w.heap.size ≤ nr := by omega
  have hlA := HR3.out.la
  have hA0 : nr ≠ P.ga := fun e => by have := hlab 0; rw [Nat.add_zero, e, hlA] at this; cases this
  have hA1 : nr + 1 ≠ P.ga := fun e => by have := hlab 1; rw [e, hlA] at this; cases this
  have hA2 : nr + 2 ≠ P.ga := fun e => by have := hlab 2; rw [e, hlA] at this; cases this
  have hA3 : nr + 3 ≠ P.ga := fun e => by have := hlab 3; rw [e, hlA] at this; cases this
  have hAl : nl ≠ P.ga := fun e => by rw [e, hlA] at hll; cases hll
  have o0 : w3.cell? ⟨nr + 1, 0, none⟩ = some (.int .i64 5) := HBO3.out.cell (by decide)
  have l1 := HBL3.out.cell (i := 1) (by decide)
  have f1 := HBL3.out.free 1
  go_upto_region 32 with fail
  have HBL4 : Hid (Blk (w3.setCell ⟨nl, 1, none⟩ (.bool true)) nl 93 9 (nth [.bool (X.st.txs t).begun, .bool true, .bool (X.st.txs t).comm, .int .i64 (X.st.txs t).inst, .slice (some ⟨P.rd t, 0, none⟩) 16 16, .slice (some ⟨P.wb t, 0, none⟩) 16 16, .slice (some ⟨P.vb t, 0, none⟩) 16 16, .int .i64 (X.made t), .int .i64 (X.turn t)])) := Lib.hid (HBL3.out.setL 1 _ (by simp))
  have HC4 : Hid (Chg (fun b => b = nl) w3 (w3.setCell ⟨nl, 1, none⟩ (.bool true))) := Lib.hid ((Chg.refl (fun b => b = nl) w3).setCell (fun _ => rfl) _)
  clear l1 f1 o0
  generalize w3.setCell _ _ = w4 at *
  have HBR4 := Lib.hid (HBR3.out.chg HC4.out (by omega)); have HBO4 := Lib.hid (HBO3.out.chg HC4.out (by omega)); have HBA4 := Lib.hid (HBA3.out.chg HC4.out (by omega)); have HBZ4 := Lib.hid (HBZ3.out.chg HC4.out (by omega))
  have HNw4 : Hid (New w w4) := Lib.hid (HNw3.out.then HC4.out (fun i hi e => by omega))
  have HR4 := Lib.hid (HR.out.new HNw4.out)
  have l0 : w4.cell? ⟨nl, 0, none⟩ = some (.bool (X.st.txs t).begun) := HBL4.out.cell (by decide)
  have l1 : w4.cell? ⟨nl, 1, none⟩ = some (.bool true) := HBL4.out.cell (by decide)
  have l2 : w4.cell? ⟨nl, 2, none⟩ = some (.bool (X.st.txs t).comm) := HBL4.out.cell (by decide)
  have l3 : w4.cell? ⟨nl, 3, none⟩ = some (.int .i64 (X.st.txs t).inst) := HBL4.out.cell (by decide)
  have l4 : w4.cell? ⟨nl, 4, none⟩ = some (.slice (some ⟨P.rd t, 0, none⟩) 16 16) := HBL4.out.cell (by decide)
  have l5 : w4.cell? ⟨nl, 5, none⟩ = some (.slice (some ⟨P.wb t, 0, none⟩) 16 16) := HBL4.out.cell (by decide)
  have l6 : w4.cell? ⟨nl, 6, none⟩ = some (.slice (some ⟨P.vb t, 0, none⟩) 16 16) := HBL4.out.cell (by decide)
  have l7 : w4.cell? ⟨nl, 7, none⟩ = some (.int .i64 (X.made t)) := HBL4.out.cell (by decide)
  have l8 : w4.cell? ⟨nl, 8, none⟩ = some (.int .i64 (X.turn t)) := HBL4.out.cell (by decide)
  have r0 : w4.cell? ⟨nr, 0, none⟩ = some (.slice (some ⟨P.ga, 0, none⟩) 16 P.ca) := HBR4.out.cell (by decide)
  have o1 : w4.cell? ⟨nr + 1, 1, none⟩ = some (.int .i64 t) := HBO4.out.cell (by decide)
  go_upto_region 33 with (refine wpList_storeN 93 9 Try.info93s _ rfl _ _ rfl P.ga (t * 9) _ rfl rfl rfl (by simp [Value.oneCell']) (fun j hj => by rw [HR4.out.all t j ht hj]; rfl) HR4.out.allF ?_; intro w5 hC hin hout hfr; have HC5 := Lib.hid hC; have HI5 := Lib.hid hin; have HO5 := Lib.hid hout; have HF5 := Lib.hid hfr; clear hC hin hout hfr)
  clear l0 l1 l2 l3 l4 l5 l6 l7 l8 r0 o1
  have HBL5 := Lib.hid (HBL4.out.chg HC5.out hAl)
  have HBR5 := Lib.hid (HBR4.out.chg HC5.out hA0); have HBO5 := Lib.hid (HBO4.out.chg HC5.out hA1); have HBA5 := Lib.hid (HBA4.out.chg HC5.out hA2); have HBZ5 := Lib.hid (HBZ4.out.chg HC5.out hA3)
  have HR5 : Hid (RRep w5 P { X with st := X.st.setTx t { X.st.txs t with over := true } }) :=
    Lib.hid (HR4.out.setTxn (x := { X.st.txs t with over := true }) (m := X.made t) (n := X.turn t) ht HC5.out (nine (HI5.out 0 _ rfl) (HI5.out 1 _ rfl) (HI5.out 2 _ rfl) (HI5.out 3 _ rfl) (HI5.out 4 _ rfl) (HI5.out 5 _ rfl) (HI5.out 6 _ rfl) (HI5.out 7 _ rfl) (HI5.out 8 _ rfl)) HO5.out HF5.out rfl rfl (fun _ => rfl) rfl rfl (fun i hi => ⟨rfl, rfl⟩) rfl (fun _ => rfl))
  have HCw : Hid (Chg (fun b => P.lab b ≠ 0) w w5) := Lib.hid ((HNw4.out.mono (fun _ _ h => absurd h id)).then HC5.out (fun i _ e => by rw [e, hlA]; decide))
  have r0 : w5.cell? ⟨nr, 0, none⟩ = some (.slice (some ⟨P.ga, 0, none⟩) 16 P.ca) := HBR5.out.cell (by decide)
  have r1 : w5.cell? ⟨nr, 1, none⟩ = some (.slice (some ⟨P.gW, 0, none⟩) X.st.insts.length P.cW) := HBR5.out.cell (by decide)
  have r2 : w5.cell? ⟨nr, 2, none⟩ = some (.slice (some ⟨P.gC, 0, none⟩) X.st.insts.length P.cC) := HBR5.out.cell (by decide)
  have r3 : w5.cell? ⟨nr, 3, none⟩ = some (.int .i64 X.commits) := HBR5.out.cell (by decide)
  have z0 := HBA5.out.cell (i := 0) (by decide)
  have z1 := HBA5.out.cell (i := 1) (by decide)
  have zf := HBA5.out.free 0
  have zf1 := HBA5.out.free 1
  have y0 := HBZ5.out.cell (i := 0) (by decide)
  have y1 := HBZ5.out.cell (i := 1) (by decide)
  have y2 := HBZ5.out.cell (i := 2) (by decide)
  have y3 := HBZ5.out.cell (i := 3) (by decide)
  have yf0 := HBZ5.out.free 0; have yf1 := HBZ5.out.free 1; have yf2 := HBZ5.out.free 2; have yf3 := HBZ5.out.free 3
  apply wp_once
  case h1 =>
    go_region_law (fail)
    all_goals exact ⟨rfl, rfl⟩
  obtain ⟨g0, g1, h0, h1, h2, h3, HE⟩ := end_cells (.int .i64 0) (.int .i64 0) (.slice (some ⟨P.ga, 0, none⟩) 16 P.ca) (.slice (some ⟨P.gW, 0, none⟩) X.st.insts.length P.cW) (.slice (some ⟨P.gC, 0, none⟩) X.st.insts.length P.cC) (.int .i64 X.commits) (d := nr + 1 + 1) (nz := nr + 1 + 1 + 1) HBA5.out HBZ5.out (by omega)
  unfold endW at g0 g1 h0 h1 h2 h3 HE
  have HE := Lib.hid HE
  clear r0 r1 r2 r3 z0 z1 zf zf1 y0 y1 y2 y3 yf0 yf1 yf2 yf3
  generalize World.drew _ = wE at *
  go_wp2_with fail
  refine bodyPost_ret (results4979 rfl rfl rfl g0 g1 h0 h1 h2 h3) rfl ?_
  exact do_end HR5.out HCw.out (fun b h => .inl h) HE.out (hlab 2) (hlab 3) (by omega) (by omega) ⟨0, 0⟩
theorem step_does {st : St} {o : Tx.Op} (h1 : within o.d 0 5 = true) (h2 : fits o = true) : Tx.step st o = does st o := by
  unfold Tx.step
  rw [h1, h2]
  rfl
theorem xstep_other {X : XS} {o : Tx.Op} {s : St} (h : isC X o = false) (hs : (Tx.step X.st o).2 = s) : xstep X o = { X with st := s } := by
  unfold xstep
  rw [h, hs]
  rfl
theorem do_any (hR : RRep w P X) (hI : XInv X) (hin : ∀ t, (X.st.txs t).inst < X.st.insts.length) (hlen : X.st.insts.length ≤ 1000) (hcm : X.commits ≤ 1000) (o : Tx.Op) :
    Calls Try.prog 51 #[runV P X, .agg #[.int .i64 o.d, .int .i64 o.t, .int .i64 o.k, .int .i64 o.n]] w (DoPost w P (Tx.step X.st o).1 (xstep X o)) := by
  by_cases hE : refusedE X.st o = 0
  · obtain ⟨h1, h2, h3, h4⟩ := refused_yes hE
    obtain ⟨d, t, k, n⟩ := o
    dsimp only at h1 h2 h3 h4 ⊢
    have hd : 0 ≤ d ∧ d ≤ 5 := by simpa [within] using h1
    have ht : 0 ≤ t ∧ t ≤ 15 := by
      simp only [fits, within, Bool.and_eq_true, decide_eq_true_eq] at h2
      exact h2.1.1
    have hkk : keyed d = true → 0 ≤ k ∧ k ≤ 15 := fun h => by
      simp only [fits, within, h, Bool.and_eq_true, Bool.not_true, Bool.false_or, decide_eq_true_eq] at h2
      exact h2.1.2
    obtain ⟨T, rfl⟩ : ∃ T : Nat, t = (T : Int) := ⟨t.toNat, by omega⟩
    rw [Int.toNat_natCast] at h3 h4
    have hT : T < 16 := by omega
    have hlv : d ≠ 0 → (X.st.txs T).over = false := fun h => by
      have := h4 h
      unfold Txn.live at this
      simp only [Bool.and_eq_true, Bool.not_eq_true'] at this
      exact this.2
    have hc : d = 0 ∨ d = 1 ∨ d = 2 ∨ d = 3 ∨ d = 4 ∨ d = 5 := by omega
    rcases hc with rfl | rfl | rfl | rfl | rfl | rfl
    · have hs : Tx.step X.st ⟨0, T, k, n⟩ = (⟨0, last X.st⟩, X.st.setTx T { X.st.txs T with begun := true, inst := last X.st }) := by
        rw [step_does h1 h2]
        unfold does begin_
        simp [h3 rfl]
      rw [xstep_other (by simp [isC]) rfl, hs]
      exact do_0 hR T hT k n hE hI.ne hlen
    · obtain ⟨K, rfl⟩ : ∃ K : Nat, k = (K : Int) := ⟨k.toNat, by have := hkk rfl; omega⟩
      have hs : Tx.step X.st ⟨1, T, K, n⟩ = (⟨0, see X.st T K⟩, Tx.look X.st T K) := by
        rw [step_does h1 h2]
        unfold does
        simp [h4 (by decide)]
      rw [xstep_other (by simp [isC]) rfl, hs]
      exact do_1 hR T K hT (by have := hkk rfl; omega) n hE (hin T)
    · obtain ⟨K, rfl⟩ : ∃ K : Nat, k = (K : Int) := ⟨k.toNat, by have := hkk rfl; omega⟩
      have hs : Tx.step X.st ⟨2, T, K, n⟩ = (⟨0, 0⟩, Tx.put X.st T K n) := by
        rw [step_does h1 h2]
        unfold does
        simp [h4 (by decide)]
      rw [xstep_other (by simp [isC]) rfl, hs]
      exact do_2 hR T K hT (by have := hkk rfl; omega) n hE (hlv (by decide))
    · obtain ⟨K, rfl⟩ : ∃ K : Nat, k = (K : Int) := ⟨k.toNat, by have := hkk rfl; omega⟩
      have hs : Tx.step X.st ⟨3, T, K, n⟩ = (⟨0, w32 (see X.st T K + n)⟩, Tx.put (Tx.look X.st T K) T K (w32 (see X.st T K + n))) := by
        rw [step_does h1 h2]
        unfold does
        simp [h4 (by decide)]
      rw [xstep_other (by simp [isC]) rfl, hs]
      exact do_3 hR T K hT (by have := hkk rfl; omega) n hE (hin T) (hlv (by decide))
    · cases hcl : (wr16 X.st T && Tx.clash X.st T) with
      | true =>
        have hcl2 := hcl
        simp only [Bool.and_eq_true] at hcl2
        have hs : Tx.step X.st ⟨4, T, k, n⟩ = (⟨10, 0⟩, X.st.setTx T { X.st.txs T with over := true }) := by
          rw [step_does h1 h2]
          unfold does Tx.commit
          simp [h4 (by decide), (hI.wr T).trans hcl2.1, hcl2.2]
        rw [xstep_other (by unfold isC; simp [hcl2.1, hcl2.2]) rfl, hs]
        exact do_4no hR T hT k n hE (hin T) hlen hcl
      | false =>
        have hs : Tx.step X.st ⟨4, T, k, n⟩ = Tx.commit X.st T := by
          rw [step_does h1 h2]
          unfold does
          simp [h4 (by decide)]
        have hx : xstep X ⟨4, T, k, n⟩ = xcommit X T := by
          unfold xstep isC
          simp only [h1, h2, Int.toNat_natCast, h4 (by decide), hcl]
          rfl
        have ha : (Tx.commit X.st T).1 = ⟨0, (Tx.commit X.st T).1.n⟩ := by
          unfold Tx.commit
          rw [hI.wr T]
          cases hw : wr16 X.st T with
          | false => rfl
          | true =>
            rw [hw] at hcl
            have : Tx.clash X.st T = false := by simpa using hcl
            simp [this]
        rw [hs, hx, ha]
        exact do_4yes hR T hT k n hE (hin T) hlen hcm (hI.fresh T (hlv (by decide))).1 (hI.wr T) hcl
    · have hs : Tx.step X.st ⟨5, T, k, n⟩ = (⟨0, 0⟩, X.st.setTx T { X.st.txs T with over := true }) := by
        rw [step_does h1 h2]
        unfold does abort
        simp [h4 (by decide)]
      rw [xstep_other (by simp [isC]) rfl, hs]
      exact do_5 hR T hT k n hE
  · rw [refused_no hE, refused_step hE]
    exact do_no hR o.d o.t o.k o.n hE
end
end Go.Proofs.Yteaeflmglppcdaa
