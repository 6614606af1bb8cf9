/- The contract of commit: a transaction that wrote nothing. -/
import Derived.Test.YteaeflmglppcdaaR4
import Derived.Deep.AppendLies
import Derived.Deep.MidRow
namespace Go.Proofs.Yteaeflmglppcdaa
open Go.RowKit Tx

theorem Try.info3 : (Try.prog.info? 3).map (fun i => (i.zero, i.size, i.bytes)) = some (some (.int .i64 0), 1, 8) := by kernel_rfl

section
variable {w : World} {s m : Nat} {vi vr va vo : Value} {st : St} {F : Nat → Prop}

/-- The readers are another row. -/
theorem RepX.setReaders {w1 w2 : World} {g cap H : Nat} {r : Int} (h : RepX w s vi m vr va vo st) (hg : w.grownBy w1 vr.ownBlock)
    (hown : w1.ownsRow 0 3 1 (.slice (some ⟨g, 0, none⟩) (st.readers.length + 1) cap) (st.readers.length + 1) (st.readers.map (Value.int .i64) ++ [.int .i64 r]))
    (hgb : vr.ownBlock = some g ∨ g = H) (hH : w.heap.size ≤ H) (hw2 : w2 = w1.setCell ⟨s, 338, none⟩ (.slice (some ⟨g, 0, none⟩) (st.readers.length + 1) cap)) :
    RepX w2 s vi m (.slice (some ⟨g, 0, none⟩) (st.readers.length + 1) cap) va vo { st with readers := st.readers ++ [r] } := by
  subst hw2
  have hc : Chg (fun k => vr.ownBlock = some k) w w1 := (Chg.refl _ w).grown hg (fun k hk _ => hk)
  have hgs : g ≠ s := by
    rcases hgb with h1 | h1
    · exact fun e => h.sr (e ▸ h1)
    · have := h.blk.lt; omega
  have hgm : g ≠ m := by
    rcases hgb with h1 | h1
    · exact fun e => h.mr (e ▸ h1)
    · have := h.map.lt; omega
  have hgi : ∀ k, vi.ownBlock = some k → g ≠ k := by
    intro k hk
    rcases hgb with h1 | h1
    · exact fun e => h.ir k hk (e ▸ h1)
    · have := (h.insts.lt k hk).2; omega
  have hc2 : Chg (fun k => k = s) w1 (w1.setCell ⟨s, 338, none⟩ (.slice (some ⟨g, 0, none⟩) (st.readers.length + 1) cap)) := (Chg.refl (fun k => k = s) w1).setCell (fun _ => rfl) _
  refine { blk := ?_, insts := ?_, ne := h.ne, readers := ?_, map := ?_, sm := h.sm, si := h.si, sr := ?_, mi := h.mi, mr := ?_, ir := ?_ }
  · refine ((hc.blk h.blk h.sr).set 338 _).congr fun i hi => ?_
    unfold upd storeCell
    by_cases e : i = 338
    · simp [e]
    · simp [e]
  · exact hc2.ownsRow (hc.ownsRow h.insts fun k hk e => h.ir k hk e) (fun k hk e => h.si (e ▸ hk))
  · have := hc2.ownsRow hown (fun k hk e => by simp [Value.ownBlock] at hk; omega)
    simpa using this
  · exact (h.map.kept (hc.block m h.map.lt h.mr)).kept (hc2.block m (Nat.lt_of_lt_of_le h.map.lt hc.size) (fun e => h.sm e.symm))
  · simp [Value.ownBlock]; omega
  · simp [Value.ownBlock]; omega
  · intro k hk; simp [Value.ownBlock]; exact hgi k hk

set_option maxRecDepth 100000 in
set_option maxHeartbeats 1000000 in
theorem commit_quiet (hX : RepX w s vi m vr va vo st) (hF : ∀ k, F k ↔ foot s vi m vr k) (d t k n : Int) (h0 : 0 ≤ t) (h1 : t < 16) (hl : (st.txs t.toNat).live = true) (hw : (st.txs t.toNat).writes = false) (hlen : st.readers.length ≤ 1000000) :
    Calls Try.prog 68 #[.pointer (some ⟨s, 0, none⟩), .agg #[.int .i64 d, .int .i64 t, .int .i64 k, .int .i64 n]] w
      (Post w F s va vo (commit st t.toNat).1 (commit st t.toNat).2) := by
  have HF := Lib.hid hF; clear hF
  have HL := Lib.hid hl; clear hl
  have HW := Lib.hid hw; clear hw
  have hs := hX.blk.lt
  go_enter Try.func68, Try.ntmps68
  go_wp2_with fail
  (with_reducible refine (live_yes (hX.new ((Chg.refl _ w).alloc _)) _ _ _ _ h0 h1 HL.out).mono ?_); rintro e w1 ⟨rfl, hN⟩
  have hX1 := (hX.new ((Chg.refl _ w).alloc _)).new hN
  have hf := hX1.blk.free (1 + t.toNat * 21 + 18)
  have hc := hX1.tx (t := t.toNat) (by omega) (j := 18) (by omega)
  have hbx : ∀ i v, (#[Value.int .i64 d, .int .i64 t, .int .i64 k, .int .i64 n] : Array Value)[i]? = some v → w1.cell? ⟨w.heap.size, i, none⟩ = some v := fun i v hv => by
    rw [hN.cell (by simp) (fun x => x)]; rw [World.cell?_alloc_new]; exact hv
  have b1 := hbx 1 _ rfl
  clear hbx
  have hX2 := hX1.setTx (t := t.toNat) (j := 18) (by omega) (by omega) (v := .bool true) (fun i _ => cells_over (st.txs t.toNat) i)
  have hf2 := hX2.blk.free (1 + t.toNat * 21 + 19)
  have hc2 := hX2.tx (t := t.toNat) (by omega) (j := 19) (by omega)
  have hw2 : (w1.setCell ⟨s, 1 + t.toNat * 21 + 18, none⟩ (.bool true)).cell? ⟨s, 1 + t.toNat * 21 + 20, none⟩ = some (.bool false) := by
    rw [hX2.tx (by omega) (by omega), setTx_at]; simp [txCell, HW.out]
  go_wp2
  have hX3 := hX2.setTx (t := t.toNat) (j := 19) (by omega) (by omega) (v := .bool true) (fun i _ => by rw [setTx_at]; exact cells_comm { st.txs t.toNat with over := true } i)
  rw [setTx_setTx] at hX3
  have hC3 : Chg F w ((w1.setCell ⟨s, 1 + t.toNat * 21 + 18, none⟩ (.bool true)).setCell ⟨s, 1 + t.toNat * 21 + 19, none⟩ (.bool true)) :=
    ((Chg.of_new (((Chg.refl _ w).alloc _).trans hN)).setCell (fun _ => (HF.out s).2 (.inl rfl)) _).setCell (fun _ => (HF.out s).2 (.inl rfl)) _
  have b3 : ((w1.setCell ⟨s, 1 + t.toNat * 21 + 18, none⟩ (.bool true)).setCell ⟨s, 1 + t.toNat * 21 + 19, none⟩ (.bool true)).cell? ⟨w.heap.size, 1, none⟩ = some (.int .i64 t) := by
    rw [cell_set_other (by show w.heap.size ≠ s; omega), cell_set_other (by show w.heap.size ≠ s; omega)]; exact b1
  clear hX2 hX1 hN hf hc hf2 hc2 hw2 b1 hX
  generalize (w1.setCell ⟨s, 1 + t.toNat * 21 + 18, none⟩ (.bool true)).setCell ⟨s, 1 + t.toNat * 21 + 19, none⟩ (.bool true) = w3 at *
  have e1 : w3.cell? ⟨s, 338, none⟩ = some vr := hX3.blk.cell (by omega)
  have f1 := hX3.blk.free 338
  have hown := hX3.readers
  obtain ⟨i0, hi, hz0, hz1, hz2⟩ := info_parts Try.info3
  have hrl : st.readers.length + 1 ≤ maxLen := by unfold maxLen; omega
  have HI := Lib.hid hi; have HZ0 := Lib.hid hz0; have HZ1 := Lib.hid hz1; have HZ2 := Lib.hid hz2
  clear hi hz0 hz1 hz2
  have hnews : ∀ j u, [Value.int .i64 t][j]? = some u → (w3.alloc (.cells #[.int .i64 t] 3)).drew.cell? ((⟨w3.heap.size, 0, none⟩ : Addr).add j) = some u := cell_one_new w3 _ _
  have HN := Lib.hid hnews; clear hnews
  have HO : Hid ((w3.alloc (.cells #[.int .i64 t] 3)).drew.ownsRow 0 3 1 vr st.readers.length (st.readers.map (Value.int .i64))) := (hown.alloc _).drew
  clear hown
  have hs3 : s < w3.heap.size := hX3.blk.lt
  have hb3 : w.heap.size < w3.heap.size := World.block_lt_of_cell? w3 _ b3
  have HSR : Hid (some s ≠ vr.ownBlock) := fun e => hX3.sr e.symm
  have K0 : Hid ((w3.alloc (.cells #[.int .i64 t] 3)).drew.cell? ⟨s, 338, none⟩ = some vr) := by
    show _ = _
    rw [World.cell?_drew, World.cell?_alloc_lt _ _ _ hs3]; exact e1
  have K1 : Hid ((w3.alloc (.cells #[.int .i64 t] 3)).drew.frozen? ⟨s, 338, none⟩ = false) := by
    show _ = _
    rw [World.frozen?_drew, World.frozen?_alloc_past _ _ _ hs3]; exact f1
  go_region_law (first | (refine step_append_lies _ rfl _ _ 28 rfl 0 3 i0 (.int .i64 0) 1 8 Try.underlying28 HI.out HZ0.out HZ1.out HZ2.out rfl (by decide) vr st.readers.length (st.readers.map (Value.int .i64)) rfl HO.out ⟨w3.heap.size, 0, none⟩ 1 1 [.int .i64 t] rfl rfl HN.out (by simp [Value.oneCell']) (by decide) hrl (by omega) (Nat.zero_le _) (w3.heap.size + 1) (by simp) ?_; intro g cap w4 hown4 hg4 hgb4 hlt4; have HGB := Lib.hid hgb4; have HOWN := Lib.hid hown4; clear hgb4 hown4; have k1 : w4.cell? ⟨s, 338, none⟩ = some vr := (hg4.cell_far ⟨s, 338, none⟩ (by simp; omega) HSR.out).trans K0.out; have k2 : w4.frozen? ⟨s, 338, none⟩ = false := (hg4.frozen_far ⟨s, 338, none⟩ (by simp; omega) HSR.out).trans K1.out))
  all_goals
    have hX4 := hX3.new (((Chg.refl _ w3).alloc (.cells #[.int .i64 t] 3)).drew)
    have hX5 : RepX (w4.setCell ⟨s, 338, none⟩ (.slice (some ⟨g, 0, none⟩) (st.readers.length + 1) cap)) s vi m (.slice (some ⟨g, 0, none⟩) (st.readers.length + 1) cap) va vo
        { st.setTx t.toNat { st.txs t.toNat with over := true, comm := true } with readers := st.readers ++ [t] } := hX4.setReaders hg4 HOWN.out HGB.out (by simp) rfl
    have hC5 : Chg F w (w4.setCell ⟨s, 338, none⟩ (.slice (some ⟨g, 0, none⟩) (st.readers.length + 1) cap)) :=
      (((hC3.alloc (.cells #[.int .i64 t] 3)).drew).grown hg4 (fun k hk _ => (HF.out k).2 (.inr (.inr (.inr hk))))).setCell (fun _ => (HF.out s).2 (.inl rfl)) _
    have hF5 : Hid (∀ k, foot s vi m (.slice (some ⟨g, 0, none⟩) (st.readers.length + 1) cap) k → F k ∨ w.heap.size ≤ k) := by
      rintro k (rfl | rfl | hk | hk)
      · exact .inl ((HF.out _).2 (.inl rfl))
      · exact .inl ((HF.out _).2 (.inr (.inl rfl)))
      · exact .inl ((HF.out _).2 (.inr (.inr (.inl hk))))
      · simp [Value.ownBlock] at hk
        subst hk
        rcases HGB.out with h | h
        · exact .inl ((HF.out _).2 (.inr (.inr (.inr h))))
        · exact .inr (by rw [h]; exact Nat.le_trans hC3.size (Nat.le_succ _))
    have ha : Hid (commit st t.toNat = (⟨0, 0⟩, { st.setTx t.toNat { st.txs t.toNat with over := true, comm := true } with readers := st.readers ++ [t] })) := by
      show _ = _
      unfold commit
      rw [HW.out, Int.toNat_of_nonneg h0]
      rfl
    clear hX4 hX3 hC3 hg4 k1 k2 K0 K1 HSR HO HN HGB HOWN e1 f1 b3 hrl HI HZ0 HZ1 HZ2
    generalize w4.setCell ⟨s, 338, none⟩ (.slice (some ⟨g, 0, none⟩) (st.readers.length + 1) cap) = w5 at *
    go_wp2
    go_ret
    rw [ha.out]
    exact ⟨rfl, _, ⟨vi, m, _, hX5, fun k => Iff.rfl⟩, hC5, hF5.out⟩
end
end Go.Proofs.Yteaeflmglppcdaa
