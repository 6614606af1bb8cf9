/- The contracts of read and add. -/
import Derived.Test.YteaeflmglppcdaaR2
import Derived.Deep.RegionLaw
namespace Go.Proofs.Yteaeflmglppcdaa
open Go.RowKit Tx

section
variable {w : World} {s m : Nat} {vi vr va vo : Value} {st : St} {F : Nat → Prop}

theorem zero_int (w : World) : (zeroValue 3).run Try.prog w = .ok (.int .i64 0) w := by kernel_rfl

set_option maxRecDepth 100000 in
set_option maxHeartbeats 400000 in
theorem read_any (hX : RepX w s vi m vr va vo st) (hF : ∀ k, F k ↔ foot s vi m vr k) (d t k n : Int) (hI : (st.txs t.toNat).inst < st.insts.length) (h0 : 0 ≤ t) (h1 : t < 16) (k0 : 0 ≤ k) (k1 : k < 16) (hl : (st.txs t.toNat).live = true) :
    Calls Try.prog 64 #[.pointer (some ⟨s, 0, none⟩), .agg #[.int .i64 d, .int .i64 t, .int .i64 k, .int .i64 n]] w
      (Post w F s va vo ⟨0, see st t.toNat k.toNat⟩ (Tx.look st t.toNat k.toNat)) := by
  have HF := Lib.hid hF; clear hF
  have HL := Lib.hid hl; clear hl
  have hs := hX.blk.lt
  go_enter Try.func64, Try.ntmps64
  go_wp2_with fail
  (with_reducible refine (live_yes (hX.new ((Chg.refl _ w).alloc _)) _ _ _ _ h0 h1 HL.out).mono ?_); rintro e w1 ⟨rfl, hN⟩
  have hX1 := (hX.new ((Chg.refl _ w).alloc _)).new hN
  have hbx : ∀ i v, (#[Value.int .i64 d, .int .i64 t, .int .i64 k, .int .i64 n] : Array Value)[i]? = some v → w1.cell? ⟨w.heap.size, i, none⟩ = some v := fun i v hv => by
    rw [hN.cell (by simp) (fun x => x)]; rw [World.cell?_alloc_new]; exact hv
  have b1 := hbx 1 _ rfl
  have b2 := hbx 2 _ rfl
  have e4 := hX1.blk.cell (i := 337) (by omega)
  simp only [storeCell] at e4
  clear hbx
  have hlk : ∀ nq, (Instr.lookup 70 (.map (some m)) (.agg #[.int .i64 t, .int .i64 k]) true).run Try.prog (w1.drewN nq) = _ := fun nq => run_lookup_map (ev := Value.int .i64) key_cell Try.underlying70 (hX1.map.kept (w' := w1.drewN nq) rfl) (zero_int _) (t, k) true
  simp only [if_true] at hlk
  have hN1 : New w w1 := ((Chg.refl _ w).alloc _).trans hN
  cases hg : mget (t, k) st.wr with
  | some u =>
    have ha : see st t.toNat k.toNat = u := by unfold see; rw [Int.toNat_of_nonneg h0, Int.toNat_of_nonneg k0, hg]; rfl
    have hb : Tx.look st t.toNat k.toNat = st := by unfold Tx.look; rw [Int.toNat_of_nonneg h0, Int.toNat_of_nonneg k0, hg]; rfl
    have HA := Lib.hid ha; have HB := Lib.hid hb
    rw [hg] at hlk
    simp only [Option.map_some, Option.getD_some, Option.isSome_some] at hlk
    have hlk0 := hlk 0
    clear ha hb hg
    go_wp2
    go_quiet (fail)
    go_wp2
    go_ret
    rw [HA.out, HB.out]
    exact Post.same rfl ⟨vi, m, vr, hX, HF.out⟩ (hN1.drewN _)
  | none =>
    have ha : see st t.toNat k.toNat = (st.inst (st.txs t.toNat).inst).words k.toNat := by unfold see; rw [Int.toNat_of_nonneg h0, Int.toNat_of_nonneg k0, hg]; rfl
    have hb : Tx.look st t.toNat k.toNat = st.setTx t.toNat ((st.txs t.toNat).setRead k.toNat) := by unfold Tx.look; rw [Int.toNat_of_nonneg h0, Int.toNat_of_nonneg k0, hg]; rfl
    have HA := Lib.hid ha; have HB := Lib.hid hb
    rw [hg] at hlk
    simp only [Option.map_none, Option.getD_none, Option.isSome_none] at hlk
    have hlk0 := hlk 0
    clear ha hb hg
    have kk : ((k.toNat : Nat) : Int) = k := Int.toNat_of_nonneg k0
    go_wp2
    go_quiet (fail)
    go_wp2
    have hX2 : RepX (w1.drewN nq) s vi m vr va vo st := hX1.new ((Chg.refl _ _).drewN nq)
    have hN2 : New w (w1.drewN nq) := hN1.drewN nq
    have b2' : (w1.drewN nq).cell? ⟨w.heap.size, 2, none⟩ = some (.int .i64 k) := b2
    clear hX1 hN1 hN b1 b2 e4 hlk hlk0 hX
    generalize w1.drewN nq = w2 at *
    have c1 := hX2.tx (t := t.toNat) (by omega) (j := 1 + k.toNat) (by omega)
    rw [← Nat.add_assoc] at c1
    have f1 := hX2.blk.free (1 + t.toNat * 21 + 1 + k.toNat)
    go_still_tail 6, (by kernel_rfl)
    change wpList _ _ _ _ _ w2.drew
    have hne : w.heap.size ≠ s := by omega
    go_wp2
    have hX3 := (hX2.new ((Chg.refl _ _).drew)).setTx (t := t.toNat) (j := 1 + k.toNat) (by omega) (by omega) (v := .bool true) (fun i _ => cells_read (st.txs t.toNat) k.toNat (by omega) i)
    rw [← Nat.add_assoc] at hX3
    have b3 : (w2.drew.setCell ⟨s, 1 + t.toNat * 21 + 1 + k.toNat, none⟩ (.bool true)).cell? ⟨w.heap.size, 2, none⟩ = some (.int .i64 k) := by rw [cell_set_other hne]; exact b2'
    have hC3 : Chg F w (w2.drew.setCell ⟨s, 1 + t.toNat * 21 + 1 + k.toNat, none⟩ (.bool true)) := (Chg.of_new hN2.drew).setCell (fun _ => (HF.out s).2 (.inl rfl)) _
    clear hX2 hN2 b2' c1 f1
    rw [World.setCell_drew] at hX3 b3 hC3
    generalize (w2.setCell ⟨s, 1 + t.toNat * 21 + 1 + k.toNat, none⟩ (.bool true)).drew = w3 at *
    obtain ⟨g, cap, rfl, hm, hgs, hcell⟩ := hX3.slice
    have v0 : w3.cell? ⟨s, 0, none⟩ = some (.slice (some ⟨g, 0, none⟩) st.insts.length cap) := hX3.blk.cell (by omega)
    have i0 : w3.cell? ⟨s, 1 + t.toNat * 21, none⟩ = some (.int .i64 (st.txs t.toNat).inst) := by
      have := hX3.tx (t := t.toNat) (by omega) (j := 0) (by omega)
      simpa [txCell, setTx_at, Txn.setRead] using this
    have q0 : w3.cell? ⟨g, (st.txs t.toNat).inst * 33 + k.toNat, none⟩ = some (.int .i64 ((st.inst (st.txs t.toNat).inst).words k.toNat)) := by
      have hk16 : k.toNat < 16 := by omega
      have := hcell (st.txs t.toNat).inst k.toNat hI (by omega)
      rw [this]
      simp only [instCell, if_pos hk16]
      rfl
    have hI2 : (((st.txs t.toNat).inst : Nat) : Int) < (st.insts.length : Int) := by omega
    have hI3 : (0 : Int) ≤ (((st.txs t.toNat).inst : Nat) : Int) := by omega
    clear hcell
    go_quiet (fail)
    go_wp2
    go_ret
    rw [HA.out, HB.out]
    exact Post.put rfl HF.out (hX3.new ((Chg.refl _ _).drewN _)) (hC3.drewN _)

/-- What an operation leaves, its answer aside. -/
def Left (w : World) (F : Nat → Prop) (s : Nat) (va vo : Value) (st' : St) (w' : World) : Prop :=
  ∃ F', Rep w' s va vo st' F' ∧ Chg F w w' ∧ ∀ k, F' k → F k ∨ w.heap.size ≤ k
theorem Post.left {a : Ans} {st' : St} {e : Ending} {w' : World} (h : Post w F s va vo a st' e w') (h0 : a.e = 0) : e = .returned (.int .i64 a.n) ∧ Left w F s va vo st' w' := by
  obtain ⟨h1, h2⟩ := h
  rw [if_pos h0] at h1
  exact ⟨h1, h2⟩

theorem wrap3 (x : Int) : IntKind.i64.wrap (IntKind.i32.wrap (IntKind.i64.wrap x)) = w32 x := by
  unfold w32
  simp only [IntKind.wrap_i64, IntKind.wrap_i32]
  omega
set_option maxRecDepth 100000 in
set_option maxHeartbeats 400000 in
theorem add_any (hR : Rep w s va vo st F) (d t k n : Int) (hI : (st.txs t.toNat).inst < st.insts.length) (h0 : 0 ≤ t) (h1 : t < 16) (k0 : 0 ≤ k) (k1 : k < 16) (hl : (st.txs t.toNat).live = true) :
    Calls Try.prog 67 #[.pointer (some ⟨s, 0, none⟩), .agg #[.int .i64 d, .int .i64 t, .int .i64 k, .int .i64 n]] w
      (Post w F s va vo ⟨0, w32 (see st t.toNat k.toNat + n)⟩ (Tx.put (Tx.look st t.toNat k.toNat) t.toNat k.toNat (w32 (see st t.toNat k.toNat + n)))) := by
  have HC : Hid (∀ w', New w w' → Calls Try.prog 64 #[.pointer (some ⟨s, 0, none⟩), .agg #[.int .i64 d, .int .i64 t, .int .i64 k, .int .i64 n]] w' fun e w1 =>
      e = .returned (.int .i64 (see st t.toNat k.toNat)) ∧ Left w' F s va vo (Tx.look st t.toNat k.toNat) w1) := by
    intro w' hw
    obtain ⟨vi, m, vr, hX, hF⟩ := hR.new hw
    exact (read_any hX hF d t k n hI h0 h1 k0 k1 hl).mono fun e w1 h => h.left rfl
  have hlt : ∀ k, F k → k < w.heap.size := hR.lt
  have hF0 : ¬ F w.heap.size := fun h => by have := hlt _ h; omega
  have HL2 : Hid (((Tx.look st t.toNat k.toNat).txs t.toNat).live = true) := by
    unfold Tx.look
    split
    · exact hl
    · rw [setTx_at]; exact hl
  have HLT := Lib.hid hlt; clear hlt hR hl hI
  have HF0 := Lib.hid hF0; clear hF0
  have c0 : ∀ i v, (#[Value.int .i64 d, .int .i64 t, .int .i64 k, .int .i64 n] : Array Value)[i]? = some v → (w.alloc (.cells #[.int .i64 d, .int .i64 t, .int .i64 k, .int .i64 n] 47)).cell? ⟨w.heap.size, i, none⟩ = some v := fun i v hv => by
    rw [World.cell?_alloc_new]; exact hv
  have b0 := c0 0 _ rfl
  have b1 := c0 1 _ rfl
  have b2 := c0 2 _ rfl
  have b3 := c0 3 _ rfl
  have hbk : Blk (w.alloc (.cells #[.int .i64 d, .int .i64 t, .int .i64 k, .int .i64 n] 47)) w.heap.size 47 4 (fun i => (#[Value.int .i64 d, .int .i64 t, .int .i64 k, .int .i64 n] : Array Value).getD i undef) :=
    Blk.new w _ _ _ rfl (fun i hi => by
      have : i = 0 ∨ i = 1 ∨ i = 2 ∨ i = 3 := by omega
      rcases this with rfl | rfl | rfl | rfl <;> rfl)
  clear c0
  go_enter Try.func67, Try.ntmps67
  go_wp2
  have hA : New w (w.alloc (.cells #[.int .i64 d, .int .i64 t, .int .i64 k, .int .i64 n] 47)) := (Chg.refl _ w).alloc _
  have hsz : w.heap.size < (w.alloc (.cells #[.int .i64 d, .int .i64 t, .int .i64 k, .int .i64 n] 47)).heap.size := by simp
  generalize w.alloc (.cells #[.int .i64 d, .int .i64 t, .int .i64 k, .int .i64 n] 47) = wa at *
  have HSZ := Lib.hid hsz; clear hsz
  go_region_law (first | (go_simp; go_at_call 64; refine (HC.out _ hA.drew).mono ?_; rintro e w1 ⟨rfl, F1, hR1, hC1, hF1⟩; have hC2 : Chg F wa w1 := (Chg.refl _ wa).drew.trans hC1; have hbk1 := hC2.blk hbk HF0.out; have d0 := (hC2.cell (a := ⟨w.heap.size, 0, none⟩) HSZ.out HF0.out).trans b0; have d1 := (hC2.cell (a := ⟨w.heap.size, 1, none⟩) HSZ.out HF0.out).trans b1; have d2 := (hC2.cell (a := ⟨w.heap.size, 2, none⟩) HSZ.out HF0.out).trans b2; have d3 := (hC2.cell (a := ⟨w.heap.size, 3, none⟩) HSZ.out HF0.out).trans b3; have d4 := hbk1.free 3))
  all_goals
    have hV : Hid (IntKind.i64.wrap (IntKind.i32.wrap (IntKind.i64.wrap (see st t.toNat k.toNat + n))) = w32 (see st t.toNat k.toNat + n)) := wrap3 _
    have hbk2 := hbk1.set 3 (.int .i64 (IntKind.i64.wrap (IntKind.i32.wrap (IntKind.i64.wrap (see st t.toNat k.toNat + n)))))
    rw [hV.out] at hbk2
    rw [hV.out]
    generalize w32 (see st t.toNat k.toNat + n) = u at *
    have hCs : Chg (fun i => i = w.heap.size) w1 (w1.setCell ⟨w.heap.size, 3, none⟩ (.int .i64 u)) := (Chg.refl (fun i => i = w.heap.size) w1).setCell (fun _ => rfl) _
    have hR2 : Rep (w1.setCell ⟨w.heap.size, 3, none⟩ (.int .i64 u)) s va vo (Tx.look st t.toNat k.toNat) F1 := hR1.kept hCs (fun i hi e => by
      subst e
      rcases hF1 _ hi with h | h
      · exact HF0.out h
      · exact absurd (Nat.lt_of_lt_of_le HSZ.out h) (Nat.lt_irrefl _))
    have hCw : Chg F w (w1.setCell ⟨w.heap.size, 3, none⟩ (.int .i64 u)) := ((Chg.of_new hA).trans hC2).setCell (fun h => absurd h (Nat.lt_irrefl _)) _
    have hnF : ¬ F1 w.heap.size := fun hi => by
      rcases hF1 _ hi with h | h
      · exact HF0.out h
      · exact absurd (Nat.lt_of_lt_of_le HSZ.out h) (Nat.lt_irrefl _)
    have HNF := Lib.hid hnF; clear hnF
    have hF2 : ∀ i, F1 i → F i ∨ w.heap.size ≤ i := fun i hi => (hF1 i hi).imp id (fun h => Nat.le_trans hA.size h)
    clear hCs hR1 hC1 hF1 hC2 hbk1 d0 d1 d2 d3 d4 b0 b1 b2 b3 hbk
    generalize w1.setCell ⟨w.heap.size, 3, none⟩ (.int .i64 u) = w2 at *
    have e0 : w2.cell? ⟨w.heap.size, 0, none⟩ = some (.int .i64 d) := hbk2.cell (by omega)
    have e1 : w2.cell? ⟨w.heap.size, 1, none⟩ = some (.int .i64 t) := hbk2.cell (by omega)
    have e2 : w2.cell? ⟨w.heap.size, 2, none⟩ = some (.int .i64 k) := hbk2.cell (by omega)
    have e3 : w2.cell? ⟨w.heap.size, 3, none⟩ = some (.int .i64 u) := hbk2.cell (by omega)
    have HF2 := Lib.hid hF2; clear hF2
    go_wp2_with fail
    have hC3 : Calls Try.prog 66 #[.pointer (some ⟨s, 0, none⟩), .agg #[.int .i64 d, .int .i64 t, .int .i64 k, .int .i64 u]] w2 (Post w2 F1 s va vo ⟨0, 0⟩ (Tx.put (Tx.look st t.toNat k.toNat) t.toNat k.toNat u)) := by
      obtain ⟨vi, m, vr, hX, hF⟩ := hR2
      exact write_any hX hF d t k u h0 h1 k0 HL2.out
    refine hC3.mono ?_
    intro e w3 hP
    obtain ⟨rfl, F3, hR3, hC4, hF3⟩ := hP.left rfl
    have g3 := (hC4.cell (a := ⟨w.heap.size, 3, none⟩) hbk2.lt HNF.out).trans e3
    go_wp2
    go_ret
    refine ⟨rfl, F3, hR3, hCw.then hC4 (fun i hi h => (HF2.out i h).elim id (fun x => absurd hi (Nat.not_lt.2 x))), fun i hi => ?_⟩
    rcases hF3 i hi with h | h
    · exact HF2.out i h
    · exact .inr (Nat.le_trans hCw.size h)
end
end Go.Proofs.Yteaeflmglppcdaa
