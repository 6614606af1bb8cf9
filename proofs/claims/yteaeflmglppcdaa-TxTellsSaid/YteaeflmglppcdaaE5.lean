/- The contracts of Last. -/
import Derived.Test.YteaeflmglppcdaaE4
namespace Go.Proofs.Yteaeflmglppcdaa
open Go.RowKit Tx
theorem results16_eq (t : Array Value) : results Try.f16 t = results Try.f16 #[undef, undef, t.getD 2 undef, t.getD 3 undef, t.getD 4 undef] := by kernel_rfl
theorem panic16 {R : Ending → World → Prop} {c : List PanicEntry} {a : Act} {d : Nat} {v : Value} {w : World} (h2 : d ≠ 2) (h3 : d ≠ 3) (h4 : d ≠ 4)
    (h : bodyPostD Try.prog Try.f16 R (.panic c) (a.put (some d) v) w) : bodyPostD Try.prog Try.f16 R (.panic c) a w := by
  refine Leaves_tmps ?_ _ _ _ h
  have e : ∀ i, d ≠ i → (a.put (some d) v).tmps.getD i undef = a.tmps.getD i undef := fun i hi => by
    simp only [Act.put, Array.getD_eq_getD_getElem?]
    rw [Array.getElem?_setIfInBounds_ne hi]
  rw [results16_eq, results16_eq a.tmps, e 2 h2, e 3 h3, e 4 h4]
section
variable {w : World}
set_option maxRecDepth 100000 in
set_option maxHeartbeats 1000000 in
theorem last_no (a : Option Addr) (n c : Nat) (hl : 200 < n) (h63 : n ≤ maxLen) :
    Calls Try.prog 16 #[.slice a n c] w fun e w' => e = .returned (.tuple #[.int .i64 0, .slice none 0 0, .int .i64 3]) ∧ New w w' := by
  have hmf : ∀ (fn : Fn) (first cap : Array Value) (w : World), (Instr.makeFunc fn first cap).run Try.prog w = .ok (.func fn first cap) w := fun _ _ _ _ => rfl
  have HR : Hid (∀ w', Calls Try.prog 34 #[.slice a n c] w' fun e w2 => e = .panicked (stopV 3) ∧ w2 = w') := fun w' => ran_no a n c hl h63
  go_enter_defers Try.func16, Try.ntmps16
  go_wp2_with ((refine (HR.out _).mono ?_); rintro e w ⟨rfl, rfl⟩)
  refine door16_panic 3 w.heap.size _ _ _ _ _ rfl rfl rfl rfl (by rw [World.cell?_alloc_new]; rfl) (by simp [go_sem]) ⟨rfl, ?_⟩
  exact (((Chg.refl _ w).alloc _).setCell (fun h => absurd h (Nat.lt_irrefl _)) _).alloc _
set_option maxRecDepth 100000 in
set_option maxHeartbeats 4000000 in
theorem last_yes (a : Option Addr) (b off c : Nat) (ops : List Tx.Op) (hO : OpsAt w a b off ops) (hl : ops.length ≤ 200) :
    Calls Try.prog 16 #[.slice a ops.length c] w fun e w' => ∃ v, e = .returned (.tuple #[.int .i64 (last (Tx.run St.zero ops).2), v, .int .i64 0]) ∧ New w w' ∧
      w'.ownsRow 0 3 1 v 16 (wordsL ((Tx.run St.zero ops).2.inst (last (Tx.run St.zero ops).2))) ∧ ∀ g, v.ownBlock = some g → w.heap.size ≤ g := by
  have hmf : ∀ (fn : Fn) (first cap : Array Value) (w : World), (Instr.makeFunc fn first cap).run Try.prog w = .ok (.func fn first cap) w := fun _ _ _ _ => rfl
  have HR : Hid (∀ w', New w w' → Calls Try.prog 34 #[.slice a ops.length c] w' (RanPost w' ops (.slice a ops.length c))) := fun w' hn => ran_any a b off c ops (hO.kept hn (fun x => x)) hl
  have hG : Good (Tx.run St.zero ops).2 (0 + ops.length) := Good.zero.run
  have hne := hG.ne
  clear hO hG
  generalize hr : Tx.run St.zero ops = r at *
  have i1 : (0 : Int) ≤ (r.2.insts.length : Int) - 1 := by omega
  have i3 : (1 : Int) ≤ (r.2.insts.length : Int) := by omega
  have i2 : (r.2.insts.length : Int) - 1 < (r.2.insts.length : Int) := by omega
  have hla : last r.2 < r.2.insts.length := by unfold last; omega
  go_enter_defers Try.func16, Try.ntmps16
  go_wp2_with ((refine (HR.out _ ((Chg.refl _ w).alloc _)).mono ?_); unfold RanPost; rw [hr]; rintro e w4 ⟨s, va, F4, rfl, ⟨vi, m, vr, hX4, hF4⟩, hown, hN4, hFF4, hg4⟩; have hLR := last_rep (hX4.new (Chg.refl _ w4).drew); obtain ⟨g, cap, hvi, hm, hgs, hcell⟩ := hX4.slice; have v0 : w4.cell? ⟨s, 0, none⟩ = some (.slice (some ⟨g, 0, none⟩) r.2.insts.length cap) := (hX4.blk.cell (i := 0) (by omega)).trans (congrArg some hvi); have p0 : w4.cell? ⟨w.heap.size, 0, none⟩ = some (.int .i64 0) := (hN4.cell (a := ⟨w.heap.size, 0, none⟩) (by simp) (fun x => x)).trans (World.cell?_alloc_new w _ _ _); have p1 : w4.frozen? ⟨w.heap.size, 0, none⟩ = false := (hN4.frozen (a := ⟨w.heap.size, 0, none⟩) (by simp) (fun x => x)).trans (by simp [go_sem]); have hL4 := list_any (w := w4.drew) (r.2.inst (last r.2)))
  have hs4 : w.heap.size < w4.heap.size := World.block_lt_of_cell? w4 _ p0
  have hq : ∀ k, k < 16 → w4.cell? ⟨g, (r.2.insts.length - 1) * 33 + k, none⟩ = some (.int .i64 ((r.2.inst (last r.2)).words k)) := by
    intro k hk
    rw [show r.2.insts.length - 1 = last r.2 from rfl, hcell (last r.2) k hla (by omega)]
    simp only [instCell, if_pos hk]
  have q0 : w4.cell? ⟨g, (r.2.insts.length - 1) * 33, none⟩ = some (.int .i64 ((r.2.inst (last r.2)).words 0)) := hq 0 (by omega)
  have q1 := hq 1 (by omega)
  have q2 := hq 2 (by omega)
  have q3 := hq 3 (by omega)
  have q4 := hq 4 (by omega)
  have q5 := hq 5 (by omega)
  have q6 := hq 6 (by omega)
  have q7 := hq 7 (by omega)
  have q8 := hq 8 (by omega)
  have q9 := hq 9 (by omega)
  have q10 := hq 10 (by omega)
  have q11 := hq 11 (by omega)
  have q12 := hq 12 (by omega)
  have q13 := hq 13 (by omega)
  have q14 := hq 14 (by omega)
  have q15 := hq 15 (by omega)
  have hwl : (wordsL (r.2.inst (last r.2))).toArray = #[.int .i64 ((r.2.inst (last r.2)).words 0), .int .i64 ((r.2.inst (last r.2)).words 1), .int .i64 ((r.2.inst (last r.2)).words 2), .int .i64 ((r.2.inst (last r.2)).words 3), .int .i64 ((r.2.inst (last r.2)).words 4), .int .i64 ((r.2.inst (last r.2)).words 5), .int .i64 ((r.2.inst (last r.2)).words 6), .int .i64 ((r.2.inst (last r.2)).words 7), .int .i64 ((r.2.inst (last r.2)).words 8), .int .i64 ((r.2.inst (last r.2)).words 9), .int .i64 ((r.2.inst (last r.2)).words 10), .int .i64 ((r.2.inst (last r.2)).words 11), .int .i64 ((r.2.inst (last r.2)).words 12), .int .i64 ((r.2.inst (last r.2)).words 13), .int .i64 ((r.2.inst (last r.2)).words 14), .int .i64 ((r.2.inst (last r.2)).words 15)] := rfl
  rw [hwl] at hL4
  generalize hxl : r.2.inst (last r.2) = xl at *
  have HLR := Lib.hid hLR
  have HL4 := Lib.hid hL4
  clear hLR hL4 hq hwl hcell hX4 hF4 hown hFF4 hg4 hm hgs hvi
  refine wp_region_any (by kernel_rfl) ?_
  change wpAny _ _ _ _ _ _ _ (World.drew _)
  refine wpAny_take (i := 0) (v := ?va1) rfl (by kernel_rfl) (by kernel_rfl) (by kernel_rfl) (fun _ _ _ h => panic16 (by decide) (by decide) (by decide) h) (Or.inl ⟨by rfl, ?ha1⟩) ?ra1
  case ha1 => (intro w; go_simp; with_reducible rfl)
  refine wpAny_take (i := 2) (v := ?va2) rfl (by kernel_rfl) (by kernel_rfl) (by kernel_rfl) (fun _ _ _ h => panic16 (by decide) (by decide) (by decide) h) (Or.inl ⟨by rfl, ?ha2⟩) ?ra2
  case ha2 => (intro w; go_simp; with_reducible rfl)
  refine wpAny_take (i := 3) (v := ?va3) rfl (by kernel_rfl) (by kernel_rfl) (by kernel_rfl) (fun _ _ _ h => panic16 (by decide) (by decide) (by decide) h) (Or.inl ⟨by rfl, ?ha3⟩) ?ra3
  case ha3 => (intro w; go_simp; with_reducible rfl)
  refine wpAny_take (i := 4) (v := ?va4) rfl (by kernel_rfl) (by kernel_rfl) (by kernel_rfl) (fun _ _ _ h => panic16 (by decide) (by decide) (by decide) h) (Or.inl ⟨by rfl, ?ha4⟩) ?ra4
  case ha4 => (intro w; go_simp; with_reducible rfl)
  refine wpAny_take (i := 6) (v := ?va5) rfl (by kernel_rfl) (by kernel_rfl) (by kernel_rfl) (fun _ _ _ h => panic16 (by decide) (by decide) (by decide) h) (Or.inl ⟨by rfl, ?ha5⟩) ?ra5
  case ha5 => (intro w; go_simp; with_reducible rfl)
  refine wpAny_ready (rs := [1, 5]) (by kernel_rfl) (by simp) ?_
  refine (AllReady.cons rfl (fun K hK => ?_) (AllReady.cons rfl (fun K hK => ?_) AllReady.nil))
  · go_simp
    with_reducible refine HLR.out.mono ?_
    rintro e wX ⟨rfl, hX⟩
    rw [hX]
    clear hX
    try go_simp
    refine hK _ _ ?_
    clear hK K
    refine wpAny_ready (rs := [5, 7]) (by kernel_rfl) (by simp) ?_
    refine (AllReady.cons rfl (fun K hK => ?_) (AllReady.cons rfl (fun K hK => ?_) AllReady.nil))
    · go_simp
      refine hK _ _ ?_
      clear hK K
      refine wpAny_ready (rs := [7]) (by kernel_rfl) (by simp) ?_
      refine (AllReady.cons rfl (fun K hK => ?_) AllReady.nil)
      go_simp
      with_reducible refine HLR.out.mono ?_
      rintro e wX ⟨rfl, hX⟩
      rw [hX]
      clear hX
      try go_simp
      refine hK _ _ ?_
      clear hK K
      refine wpAny_take (i := 8) (v := ?va6) rfl (by kernel_rfl) (by kernel_rfl) (by kernel_rfl) (fun _ _ _ h => panic16 (by decide) (by decide) (by decide) h) (Or.inl ⟨by rfl, ?ha6⟩) ?ra6
      case ha6 => (intro w; go_simp; with_reducible rfl)
      refine wpAny_take (i := 9) (v := ?va7) rfl (by kernel_rfl) (by kernel_rfl) (by kernel_rfl) (fun _ _ _ h => panic16 (by decide) (by decide) (by decide) h) (Or.inl ⟨by rfl, ?ha7⟩) ?ra7
      case ha7 => (intro w; go_simp; with_reducible rfl)
      refine wpAny_ready (rs := [10]) (by kernel_rfl) (by simp) ?_
      refine (AllReady.cons rfl (fun K hK => ?_) AllReady.nil)
      go_simp
      refine hK _ _ ?_
      clear hK K
      refine wpAny_ready (rs := [11]) (by kernel_rfl) (by simp) ?_
      refine (AllReady.cons rfl (fun K hK => ?_) AllReady.nil)
      go_simp
      with_reducible refine HL4.out.mono ?_
      rintro e w5 ⟨rfl, hN5, hown5⟩
      have p2 : w5.cell? ⟨w.heap.size, 0, none⟩ = some (.int .i64 0) := (hN5.cell (a := ⟨w.heap.size, 0, none⟩) hs4 (fun x => x)).trans p0
      have p3 : w5.frozen? ⟨w.heap.size, 0, none⟩ = false := (hN5.frozen (a := ⟨w.heap.size, 0, none⟩) hs4 (fun x => x)).trans p1
      try go_simp
      refine hK _ _ ?_
      clear hK K
      refine wpAny_ready (rs := [12]) (by kernel_rfl) (by simp) ?_
      refine (AllReady.cons rfl (fun K hK => ?_) AllReady.nil)
      go_simp
      refine hK _ _ ?_
      clear hK K
      refine wpAny_ready (rs := [13]) (by kernel_rfl) (by simp) ?_
      refine (AllReady.cons rfl (fun K hK => ?_) AllReady.nil)
      go_simp
      refine hK _ _ ?_
      clear hK K
      refine wpAny_ready (rs := [14]) (by kernel_rfl) (by simp) ?_
      refine (AllReady.cons rfl (fun K hK => ?_) AllReady.nil)
      go_simp
      refine hK _ _ ?_
      clear hK K
      refine wpAny_done (by kernel_rfl) ?_ _
      go_wp2_with fail
      have hC6 : Chg (fun k => k = w.heap.size) w5 (w5.setCell ⟨w.heap.size, 0, none⟩ (.int .i64 0)) := (Chg.refl (fun k => k = w.heap.size) w5).setCell (fun _ => rfl) _
      have e6 : ((last r.2 : Nat) : Int) = (r.2.insts.length : Int) - 1 := by unfold last; omega
      refine door16_ret w.heap.size _ _ (.int .i64 ((r.2.insts.length : Int) - 1)) (.slice (some ⟨w4.drew.heap.size + 1, 0, none⟩) 16 16) (.int .i64 0) rfl rfl rfl rfl ?_ ⟨_, by rw [e6], ?_, ?_, ?_⟩
      · rw [World.cell?_setCell_same _ _ _ (by rw [p2])]
      · exact (((((Chg.refl _ w).alloc _).trans hN4).drew).trans hN5).setCell (fun h => absurd h (Nat.lt_irrefl _)) _
      · rw [hxl]; exact hC6.ownsRow hown5 (fun k hk e => by simp [Value.ownBlock] at hk; omega)
      · intro g hg
        simp [Value.ownBlock] at hg
        omega
    · go_simp
      with_reducible refine HLR.out.mono ?_
      rintro e wX ⟨rfl, hX⟩
      rw [hX]
      clear hX
      try go_simp
      refine hK _ _ ?_
      clear hK K
      refine wpAny_ready (rs := [5]) (by kernel_rfl) (by simp) ?_
      refine (AllReady.cons rfl (fun K hK => ?_) AllReady.nil)
      go_simp
      refine hK _ _ ?_
      clear hK K
      refine wpAny_take (i := 8) (v := ?va8) rfl (by kernel_rfl) (by kernel_rfl) (by kernel_rfl) (fun _ _ _ h => panic16 (by decide) (by decide) (by decide) h) (Or.inl ⟨by rfl, ?ha8⟩) ?ra8
      case ha8 => (intro w; go_simp; with_reducible rfl)
      refine wpAny_take (i := 9) (v := ?va9) rfl (by kernel_rfl) (by kernel_rfl) (by kernel_rfl) (fun _ _ _ h => panic16 (by decide) (by decide) (by decide) h) (Or.inl ⟨by rfl, ?ha9⟩) ?ra9
      case ha9 => (intro w; go_simp; with_reducible rfl)
      refine wpAny_ready (rs := [10]) (by kernel_rfl) (by simp) ?_
      refine (AllReady.cons rfl (fun K hK => ?_) AllReady.nil)
      go_simp
      refine hK _ _ ?_
      clear hK K
      refine wpAny_ready (rs := [11]) (by kernel_rfl) (by simp) ?_
      refine (AllReady.cons rfl (fun K hK => ?_) AllReady.nil)
      go_simp
      with_reducible refine HL4.out.mono ?_
      rintro e w5 ⟨rfl, hN5, hown5⟩
      have p2 : w5.cell? ⟨w.heap.size, 0, none⟩ = some (.int .i64 0) := (hN5.cell (a := ⟨w.heap.size, 0, none⟩) hs4 (fun x => x)).trans p0
      have p3 : w5.frozen? ⟨w.heap.size, 0, none⟩ = false := (hN5.frozen (a := ⟨w.heap.size, 0, none⟩) hs4 (fun x => x)).trans p1
      try go_simp
      refine hK _ _ ?_
      clear hK K
      refine wpAny_ready (rs := [12]) (by kernel_rfl) (by simp) ?_
      refine (AllReady.cons rfl (fun K hK => ?_) AllReady.nil)
      go_simp
      refine hK _ _ ?_
      clear hK K
      refine wpAny_ready (rs := [13]) (by kernel_rfl) (by simp) ?_
      refine (AllReady.cons rfl (fun K hK => ?_) AllReady.nil)
      go_simp
      refine hK _ _ ?_
      clear hK K
      refine wpAny_ready (rs := [14]) (by kernel_rfl) (by simp) ?_
      refine (AllReady.cons rfl (fun K hK => ?_) AllReady.nil)
      go_simp
      refine hK _ _ ?_
      clear hK K
      refine wpAny_done (by kernel_rfl) ?_ _
      go_wp2_with fail
      have hC6 : Chg (fun k => k = w.heap.size) w5 (w5.setCell ⟨w.heap.size, 0, none⟩ (.int .i64 0)) := (Chg.refl (fun k => k = w.heap.size) w5).setCell (fun _ => rfl) _
      have e6 : ((last r.2 : Nat) : Int) = (r.2.insts.length : Int) - 1 := by unfold last; omega
      refine door16_ret w.heap.size _ _ (.int .i64 ((r.2.insts.length : Int) - 1)) (.slice (some ⟨w4.drew.heap.size + 1, 0, none⟩) 16 16) (.int .i64 0) rfl rfl rfl rfl ?_ ⟨_, by rw [e6], ?_, ?_, ?_⟩
      · rw [World.cell?_setCell_same _ _ _ (by rw [p2])]
      · exact (((((Chg.refl _ w).alloc _).trans hN4).drew).trans hN5).setCell (fun h => absurd h (Nat.lt_irrefl _)) _
      · rw [hxl]; exact hC6.ownsRow hown5 (fun k hk e => by simp [Value.ownBlock] at hk; omega)
      · intro g hg
        simp [Value.ownBlock] at hg
        omega
  · go_simp
    refine hK _ _ ?_
    clear hK K
    refine wpAny_ready (rs := [1]) (by kernel_rfl) (by simp) ?_
    refine (AllReady.cons rfl (fun K hK => ?_) AllReady.nil)
    go_simp
    with_reducible refine HLR.out.mono ?_
    rintro e wX ⟨rfl, hX⟩
    rw [hX]
    clear hX
    try go_simp
    refine hK _ _ ?_
    clear hK K
    refine wpAny_ready (rs := [7]) (by kernel_rfl) (by simp) ?_
    refine (AllReady.cons rfl (fun K hK => ?_) AllReady.nil)
    go_simp
    with_reducible refine HLR.out.mono ?_
    rintro e wX ⟨rfl, hX⟩
    rw [hX]
    clear hX
    try go_simp
    refine hK _ _ ?_
    clear hK K
    refine wpAny_take (i := 8) (v := ?va10) rfl (by kernel_rfl) (by kernel_rfl) (by kernel_rfl) (fun _ _ _ h => panic16 (by decide) (by decide) (by decide) h) (Or.inl ⟨by rfl, ?ha10⟩) ?ra10
    case ha10 => (intro w; go_simp; with_reducible rfl)
    refine wpAny_take (i := 9) (v := ?va11) rfl (by kernel_rfl) (by kernel_rfl) (by kernel_rfl) (fun _ _ _ h => panic16 (by decide) (by decide) (by decide) h) (Or.inl ⟨by rfl, ?ha11⟩) ?ra11
    case ha11 => (intro w; go_simp; with_reducible rfl)
    refine wpAny_ready (rs := [10]) (by kernel_rfl) (by simp) ?_
    refine (AllReady.cons rfl (fun K hK => ?_) AllReady.nil)
    go_simp
    refine hK _ _ ?_
    clear hK K
    refine wpAny_ready (rs := [11]) (by kernel_rfl) (by simp) ?_
    refine (AllReady.cons rfl (fun K hK => ?_) AllReady.nil)
    go_simp
    with_reducible refine HL4.out.mono ?_
    rintro e w5 ⟨rfl, hN5, hown5⟩
    have p2 : w5.cell? ⟨w.heap.size, 0, none⟩ = some (.int .i64 0) := (hN5.cell (a := ⟨w.heap.size, 0, none⟩) hs4 (fun x => x)).trans p0
    have p3 : w5.frozen? ⟨w.heap.size, 0, none⟩ = false := (hN5.frozen (a := ⟨w.heap.size, 0, none⟩) hs4 (fun x => x)).trans p1
    try go_simp
    refine hK _ _ ?_
    clear hK K
    refine wpAny_ready (rs := [12]) (by kernel_rfl) (by simp) ?_
    refine (AllReady.cons rfl (fun K hK => ?_) AllReady.nil)
    go_simp
    refine hK _ _ ?_
    clear hK K
    refine wpAny_ready (rs := [13]) (by kernel_rfl) (by simp) ?_
    refine (AllReady.cons rfl (fun K hK => ?_) AllReady.nil)
    go_simp
    refine hK _ _ ?_
    clear hK K
    refine wpAny_ready (rs := [14]) (by kernel_rfl) (by simp) ?_
    refine (AllReady.cons rfl (fun K hK => ?_) AllReady.nil)
    go_simp
    refine hK _ _ ?_
    clear hK K
    refine wpAny_done (by kernel_rfl) ?_ _
    go_wp2_with fail
    have hC6 : Chg (fun k => k = w.heap.size) w5 (w5.setCell ⟨w.heap.size, 0, none⟩ (.int .i64 0)) := (Chg.refl (fun k => k = w.heap.size) w5).setCell (fun _ => rfl) _
    have e6 : ((last r.2 : Nat) : Int) = (r.2.insts.length : Int) - 1 := by unfold last; omega
    refine door16_ret w.heap.size _ _ (.int .i64 ((r.2.insts.length : Int) - 1)) (.slice (some ⟨w4.drew.heap.size + 1, 0, none⟩) 16 16) (.int .i64 0) rfl rfl rfl rfl ?_ ⟨_, by rw [e6], ?_, ?_, ?_⟩
    · rw [World.cell?_setCell_same _ _ _ (by rw [p2])]
    · exact (((((Chg.refl _ w).alloc _).trans hN4).drew).trans hN5).setCell (fun h => absurd h (Nat.lt_irrefl _)) _
    · rw [hxl]; exact hC6.ownsRow hown5 (fun k hk e => by simp [Value.ownBlock] at hk; omega)
    · intro g hg
      simp [Value.ownBlock] at hg
      omega
end
end Go.Proofs.Yteaeflmglppcdaa
