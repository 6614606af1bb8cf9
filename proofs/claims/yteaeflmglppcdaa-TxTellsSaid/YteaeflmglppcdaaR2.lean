/- The contracts of abort, write and read. -/
import Derived.Test.YteaeflmglppcdaaR1
namespace Go.Proofs.Yteaeflmglppcdaa
open Go.RowKit Tx

theorem wpList_mapUpd {K V : Type} [DecidableEq K] {kt et : TypeId} {ek : K → Value} {ev : V → Value} {ops : Array Oper} {rest : List Oper} {o : Oper} {a : Act} {Q : Exit → Act → World → Prop}
    (w : World) (hg : o.guard = none) (m x v : Operand) (t : TypeId) (hop : o.op = Op.mapUpdate t m x v) (hk : KeyT kt ek) (ht : Try.prog.underlying t = some (.map kt et))
    (b : Nat) (l : List (K × V)) (k : K) (u : V) (hm : a.eval m = .map (some b)) (hx : a.eval x = ek k) (hv : a.eval v = ev u) (h : MapIs ek ev w b l)
    (hK : ∀ w', MapIs ek ev w' b (mput k u l) → Chg (fun i => i = b) w w' → wpList Try.prog ops Q rest (a.put o.dst undef) w') :
    wpList Try.prog ops Q (o :: rest) a w := by
  refine wpList_plain hg fun K' hK' => ?_
  obtain ⟨w', hrun, r1, r2⟩ := run_mapUpdate_map hk ht h k u
  unfold Oper.wp
  simp [execOp, hop, hm, hx, hv, hrun, Result.andThen]
  exact hK' _ _ (hK w' r1 r2)

section
variable {w : World} {s m : Nat} {vi vr va vo : Value} {st : St} {F : Nat → Prop}

/-- The map is written. -/
theorem RepX.setMap {w' : World} {l : List ((Int × Int) × Int)} (h : RepX w s vi m vr va vo st) (hm : MapIs ekCell (Value.int .i64) w' m l) (hc : Chg (fun i => i = m) w w') :
    RepX w' s vi m vr va vo { st with wr := l } :=
  { blk := hc.blk h.blk h.sm
    insts := hc.ownsRow h.insts fun k hk e => h.mi (e ▸ hk)
    ne := h.ne
    readers := hc.ownsRow h.readers fun k hk e => h.mr (e ▸ hk)
    map := hm
    sm := h.sm, si := h.si, sr := h.sr, mi := h.mi, mr := h.mr, ir := h.ir }

set_option maxHeartbeats 400000 in
theorem abort_any (hX : RepX w s vi m vr va vo st) (hF : ∀ k, F k ↔ foot s vi m vr k) (d t k n : Int) (h0 : 0 ≤ t) (h1 : t < 16) (hl : (st.txs t.toNat).live = true) :
    Calls Try.prog 69 #[.pointer (some ⟨s, 0, none⟩), .agg #[.int .i64 d, .int .i64 t, .int .i64 k, .int .i64 n]] w
      (Post w F s va vo (abort st t.toNat).1 (abort st t.toNat).2) := by
  have HF := Lib.hid hF; clear hF
  have HL := Lib.hid hl; clear hl
  have hs := hX.blk.lt
  go_enter Try.func69, Try.ntmps69
  go_wp2_with fail
  (with_reducible refine (live_yes (hX.new ((Chg.refl _ w).alloc _)) _ _ _ _ h0 h1 HL.out).mono ?_); rintro e w1 ⟨rfl, hN⟩
  have hX1 := (hX.new ((Chg.refl _ w).alloc _)).new hN
  have hf := hX1.blk.free (1 + t.toNat * 21 + 18)
  have hc := hX1.tx (t := t.toNat) (by omega) (j := 18) (by omega)
  go_wp2
  go_ret
  refine Post.put rfl HF.out (hX1.setTx (t := t.toNat) (j := 18) (by omega) (by omega) (fun i _ => cells_over _ i)) ?_
  exact (Chg.of_new (((Chg.refl _ w).alloc _).trans hN)).setCell (fun _ => (HF.out s).2 (.inl rfl)) _

set_option maxRecDepth 100000 in
set_option maxHeartbeats 400000 in
theorem write_any (hX : RepX w s vi m vr va vo st) (hF : ∀ k, F k ↔ foot s vi m vr k) (d t k n : Int) (h0 : 0 ≤ t) (h1 : t < 16) (k0 : 0 ≤ k) (hl : (st.txs t.toNat).live = true) :
    Calls Try.prog 66 #[.pointer (some ⟨s, 0, none⟩), .agg #[.int .i64 d, .int .i64 t, .int .i64 k, .int .i64 n]] w
      (Post w F s va vo ⟨0, 0⟩ (Tx.put st t.toNat k.toNat n)) := by
  have HF := Lib.hid hF; clear hF
  have HL := Lib.hid hl; clear hl
  have hs := hX.blk.lt
  go_enter Try.func66, Try.ntmps66
  go_wp2_with fail
  (with_reducible refine (live_yes (hX.new ((Chg.refl _ w).alloc _)) _ _ _ _ h0 h1 HL.out).mono ?_); rintro e w1 ⟨rfl, hN⟩
  have hX1 := (hX.new ((Chg.refl _ w).alloc _)).new hN
  have hf := hX1.blk.free (1 + t.toNat * 21 + 20)
  have hc := hX1.tx (t := t.toNat) (by omega) (j := 20) (by omega)
  have hbx : ∀ i v, (#[Value.int .i64 d, .int .i64 t, .int .i64 k, .int .i64 n] : Array Value)[i]? = some v → w1.cell? ⟨w.heap.size, i, none⟩ = some v := fun i v hv => by
    rw [hN.cell (by simp) (fun x => x)]; rw [World.cell?_alloc_new]; exact hv
  have hne : s ≠ w.heap.size := by omega
  go_wp2
  have hX2 := hX1.setTx (t := t.toNat) (j := 20) (by omega) (by omega) (x := { st.txs t.toNat with writes := true }) (fun i hi => cells_writes _ i hi)
  have hC : Chg F w (w1.setCell ⟨s, 1 + t.toNat * 21 + 20, none⟩ (.bool true)) := (Chg.of_new (((Chg.refl _ w).alloc _).trans hN)).setCell (fun _ => (HF.out s).2 (.inl rfl)) _
  have e1 : (w1.setCell ⟨s, 1 + t.toNat * 21 + 20, none⟩ (.bool true)).cell? ⟨w.heap.size, 1, none⟩ = some (.int .i64 t) := by
    rw [cell_set_other (Ne.symm hne)]; exact hbx 1 _ rfl
  have e2 : (w1.setCell ⟨s, 1 + t.toNat * 21 + 20, none⟩ (.bool true)).cell? ⟨w.heap.size, 2, none⟩ = some (.int .i64 k) := by
    rw [cell_set_other (Ne.symm hne)]; exact hbx 2 _ rfl
  have e3 : (w1.setCell ⟨s, 1 + t.toNat * 21 + 20, none⟩ (.bool true)).cell? ⟨w.heap.size, 3, none⟩ = some (.int .i64 n) := by
    rw [cell_set_other (Ne.symm hne)]; exact hbx 3 _ rfl
  have e4 := hX2.blk.cell (i := 337) (by omega)
  clear hbx hc hf hN hX1
  generalize w1.setCell ⟨s, 1 + t.toNat * 21 + 20, none⟩ (.bool true) = w2 at *
  simp only [storeCell] at e4
  go_still_tail 11, (by kernel_rfl)
  change wpList _ _ _ _ _ w2.drew
  refine wpList_mapUpd _ rfl _ _ _ _ rfl key_cell Try.underlying70 m st.wr (t, k) n rfl rfl rfl (hX2.map.kept rfl) ?_
  intro w3 hm3 hc3
  have hX3 := hX2.setMap hm3 ⟨hc3.os, hc3.tape, hc3.output, hc3.size, hc3.block⟩
  have hC3 : Chg F w w3 := (hC.drew).then hc3 (fun i _ e => (HF.out i).2 (.inr (.inl e)))
  clear hX2 hC hm3 hc3 hX e1 e2 e3 e4
  go_wp2
  go_ret
  refine Post.put rfl HF.out ?_ hC3
  unfold Tx.put
  rw [Int.toNat_of_nonneg h0, Int.toNat_of_nonneg k0]
  exact hX3
end
end Go.Proofs.Yteaeflmglppcdaa
