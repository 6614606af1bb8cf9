/- The contract of serial. -/
import Derived.Test.YteaeflmglppcdaaF0
import Derived.Deep.CutRange
import Derived.Deep.DeepCutAuto
namespace Go.Proofs.Yteaeflmglppcdaa
open Go.RowKit Tx

theorem wpList_storeT (T : TypeId) {ops : Array Oper} {rest : List Oper} {Q : Exit → Act → World → Prop} {w w' : World} {tm : Array Value} {df : List Deferred} {x y : Nat} {ty : TypeId} {p : String} {af : Array Edge} {dst : Option Tmp}
    (b o : Nat) (A : Array Value) (hrun : storeRes T w (.pointer (some ⟨b, o, none⟩)) (.agg A) = .ok .skip w') (hx : tm.getD x undef = .pointer (some ⟨b, o, none⟩)) (hy : tm.getD y undef = .agg A)
    (h : wpList Try.prog ops Q rest { tmps := tm, defers := df } w') :
    wpList Try.prog ops Q ({ dst := none, op := .store T (.tmp x) (.tmp y), type := ty, pos := p, after := af, guard := none } :: rest) { tmps := tm, defers := df } w := by
  refine wpList_plain rfl fun K' hK' => ?_
  unfold Oper.wp execOp
  have hx' : ({ tmps := tm, defers := df } : Act).eval (.tmp x) = .pointer (some ⟨b, o, none⟩) := hx
  have hy' : ({ tmps := tm, defers := df } : Act).eval (.tmp y) = .agg A := hy
  unfold storeRes at hrun
  simp only [hx', hy', Sem.run_bind, Sem.run_pure]
  rw [hrun]
  exact hK' _ _ h
/-- A whole instant is read, and laid in a new place. -/
theorem load_inst {w : World} {g i : Nat} {st : St} (hcell : ∀ i j, i < st.insts.length → j < 33 → w.cell? ⟨g, i * 33 + j, none⟩ = some (instCell (st.inst i) j)) (hi : i < st.insts.length) :
    (Instr.loadAt 88 (.pointer (some ⟨g, i * 33, none⟩))).run Try.prog w = .ok (.agg (instCells (st.inst i)).toArray) w := by
  refine run_loadAt_mid w g (i * 33) 88 (instCells (st.inst i)) _ (fun j v hv => ?_) Try.underlying88 rfl (by rw [length_instCells]; exact Try.info88)
  have hj : j < 33 := by
    have := (List.getElem?_eq_some_iff.1 hv).1
    rw [length_instCells] at this; exact this
  rw [hcell i j hi hj, ← hv, instCells_at _ _ hj]
theorem store_inst (w : World) (x : Inst) :
    (storeCells ⟨w.heap.size, 0, none⟩ (instCells x)).run Try.prog (w.alloc zobj) = .ok () ((w.alloc zobj).setCells w.heap.size 0 (instCells x)) := by
  have hb : Blk (w.alloc zobj) w.heap.size 88 33 _ := zero88_blk w
  have := run_storeCells_cells (P := Try.prog) w.heap.size 0 (instCells x) 0 (w.alloc zobj) (fun j hj => by
    rw [length_instCells] at hj
    rw [Nat.zero_add, hb.cell hj]; rfl) (fun j _ => hb.free _) (oneCell_instCells x)
  simpa using this
theorem inst_blk (w : World) (x : Inst) : Blk ((w.alloc zobj).setCells w.heap.size 0 (instCells x)) w.heap.size 88 33 (instCell x) :=
  (Blk.setCells (instCells x) 0 _ _ (zero88_blk w) (by rw [length_instCells]; omega)).congr fun i hi => by
    simp only [Nat.zero_le, if_true, Nat.sub_zero]
    rw [instCells_at x i hi]; rfl

def byPart (st : St) (i : Nat) : List Int := if 0 ≤ (st.inst i).by_ then [(st.inst i).by_] else []
theorem length_serialAt (st : St) (i : Nat) : (serialAt st i).length ≤ 1 + st.readers.length := by
  unfold serialAt readersOf
  rw [List.length_append]
  have := List.length_filter_le (fun r => decide ((st.txs r.toNat).inst = i)) st.readers
  split <;> simp <;> omega
theorem length_serial (st : St) (i : Nat) (hi : i ≤ 1000) (hr : st.readers.length ≤ 1000) : ((List.range i).flatMap (serialAt st)).length ≤ 1001000 := by
  have : ∀ i, ((List.range i).flatMap (serialAt st)).length ≤ i * 1001 := by
    intro i
    induction i with
    | zero => simp
    | succ i ih =>
      rw [List.range_succ, List.flatMap_append, List.length_append]
      have := length_serialAt st i
      simp only [List.flatMap_cons, List.flatMap_nil, List.append_nil]
      omega
  have := this i
  omega
def intRow (l : List Int) : List Value := l.map (Value.int .i64)
section
variable {w : World} {s m : Nat} {vi vr va vo : Value} {st : St}
theorem RepX.readersAt (h : RepX w s vi m vr va vo st) : ∃ ra rc, vr = .slice ra st.readers.length rc ∧ ∀ k r, st.readers[k]? = some r → ∃ rg, ra = some ⟨rg, 0, none⟩ ∧ w.cell? ⟨rg, k, none⟩ = some (.int .i64 r) := by
  have ho := h.readers
  rcases ho.2 with ⟨rfl, h0⟩ | ⟨g, cap, cur, rfl, _⟩
  · refine ⟨none, 0, by rw [h0], fun k r hk => ?_⟩
    have := (List.getElem?_eq_some_iff.1 hk).1
    omega
  · refine ⟨_, _, rfl, fun k r hk => ⟨g, rfl, ?_⟩⟩
    have hlt := (List.getElem?_eq_some_iff.1 hk).1
    have := World.ownsRow.cellAt (h := ho) k (by omega)
    rw [this]
    simp [hk]
set_option maxRecDepth 100000 in
set_option maxHeartbeats 2000000 in
theorem serial_any (hX : RepX w s vi m vr va vo st) (hT : Tidy st) (hi : st.insts.length ≤ 1000) (hrd : st.readers.length ≤ 1000) :
    Calls Try.prog 43 #[.pointer (some ⟨s, 0, none⟩)] w fun e w' => ∃ v, e = .returned v ∧ New w w' ∧ w'.ownsRow 0 3 1 v (serial st).length (intRow (serial st)) ∧ ∀ g, v.ownBlock = some g → w.heap.size ≤ g := by
  obtain ⟨g, cap, hvi, hm, hgs, hcell⟩ := hX.slice
  have v0 : w.cell? ⟨s, 0, none⟩ = some (.slice (some ⟨g, 0, none⟩) st.insts.length cap) := (hX.blk.cell (i := 0) (by omega)).trans (congrArg some hvi)
  have hi2 : (st.insts.length : Int) ≤ 1000 := by omega
  obtain ⟨ra, rc, rfl, hrc⟩ := hX.readersAt
  have HRC := Lib.hid hrc
  clear hrc
  have HX := Lib.hid hX
  have HC := Lib.hid hcell
  clear hcell hX hvi
  go_enter Try.func43, Try.ntmps43
  go_wp2
  go_loopw [2, 12] (fun v2 v wr => ∃ i : Nat, i ≤ st.insts.length ∧ v = .int .i64 i ∧ New w wr ∧ wr.ownsRow 0 3 1 v2 ((List.range i).flatMap (serialAt st)).length (intRow ((List.range i).flatMap (serialAt st))) ∧ ∀ g, v2.ownBlock = some g → w.heap.size ≤ g) (fun _ v _ => st.insts.length - (intOf v).toNat)
  case atStart => exact ⟨0, by omega, rfl, Chg.refl _ _, World.ownsRow_nil _ _ _ _, fun g hg => by simp [Value.ownBlock] at hg⟩
  case round =>
    obtain ⟨i, hile, rfl, hN, hown, hge⟩ := hrel
    by_cases hlt : i < st.insts.length
    · have b3 : (0 : Int) ≤ (i : Int) := by omega
      have b4 : (i : Int) < (st.insts.length : Int) := by omega
      have hcr : ∀ i j, i < st.insts.length → j < 33 → wr.cell? ⟨g, i * 33 + j, none⟩ = some (instCell (st.inst i) j) := fun i j h1 h2 => by
        have := HC.out i j h1 h2
        rw [hN.cell (World.block_lt_of_cell? w _ this) (fun x => x)]; exact this
      have HLD := Lib.hid (load_inst hcr hlt)
      have hst := store_inst wr (st.inst i)
      have HBK := Lib.hid (inst_blk wr (st.inst i))
      have hNw : New wr ((wr.alloc zobj).setCells wr.heap.size 0 (instCells (st.inst i))) := Chg.setCells (fun h => absurd h (Nat.lt_irrefl _)) _ _ _ ((Chg.refl _ wr).alloc _)
      have HNW := Lib.hid hNw
      clear hNw
      unfold zobj zero88 at hst HBK HNW
      clear hcr
      go_upto_region 4 with ((with_reducible refine wpList_loadT 88 g (i * 33) _ HLD.out ?_ ?_); · rfl)
      have HBK' := HBK.out
      have hN2 := hN.trans HNW.out
      have hown2 := HNW.out.ownsRow hown (fun _ _ x => x)
      have hnb := HBK'.lt
      have hwr : w.heap.size ≤ wr.heap.size := hN.size
      clear HBK HNW hst HLD hown hN
      generalize World.setCells _ wr.heap.size 0 (instCells (st.inst i)) = w5 at *
      generalize wr.heap.size = nb at *
      have e32 : w5.cell? ⟨nb, 32, none⟩ = some (.int .i64 (st.inst i).by_) := HBK'.cell (i := 32) (by omega)
      have hLl : ((List.range i).flatMap (serialAt st)).length ≤ 1001000 := length_serial st i (by omega) hrd
      obtain ⟨i0, hi0, hz0, hz1, hz2⟩ := info_parts Try.info3
      have HI := Lib.hid hi0; have HZ0 := Lib.hid hz0; have HZ1 := Lib.hid hz1; have HZ2 := Lib.hid hz2
      clear hi0 hz0 hz1 hz2
      generalize hL : (List.range i).flatMap (serialAt st) = L at *
      have hrl : L.length + 1 ≤ maxLen := by unfold maxLen; omega
      have HO2 := Lib.hid hown2
      go_upto_if 19 with fail
      go_cut [2] (fun v2' wx => New w wx ∧ wx.ownsRow 0 3 1 v2' (L ++ byPart st i).length (intRow (L ++ byPart st i)) ∧ ∀ g, v2'.ownBlock = some g → w.heap.size ≤ g)
      case first =>
        by_cases hby : 0 ≤ (st.inst i).by_
        · go_wp2_with (refine wpList_append_lies _ rfl _ _ 28 rfl 0 3 i0 (.int .i64 0) 1 8 Try.underlying28 HI.out HZ0.out HZ1.out HZ2.out rfl (by decide) _ L.length (intRow L) rfl (HO2.out.alloc _) ⟨_, 0, none⟩ 1 1 [.int .i64 (st.inst i).by_] rfl rfl (cell_one_new _ _ _) (by simp [Value.oneCell']) (by decide) hrl (by omega) (Nat.zero_le _) _ rfl ?_; intro g5 cap5 w6 hown5 hg5 hgb5 hlt5)
          go_meet
          refine ⟨(hN2.alloc _).grown hg5 (fun k hk hlt => absurd (hge k hk) (by omega)), ?_, fun g hg => ?_⟩
          · have e1 : byPart st i = [(st.inst i).by_] := if_pos hby
            rw [e1]
            have e2 : (L ++ [(st.inst i).by_]).length = L.length + 1 := by simp
            have e3 : intRow (L ++ [(st.inst i).by_]) = intRow L ++ [.int .i64 (st.inst i).by_] := by simp [intRow]
            rw [e2, e3]
            exact hown5
          · simp [Value.ownBlock] at hg
            subst hg
            rcases hgb5 with h | h
            · exact hge _ h
            · rw [h]; exact (hN2.alloc _).size
        · go_wp2
          go_meet
          have e1 : byPart st i = [] := if_neg (by omega)
          rw [e1, List.append_nil]
          exact ⟨hN2, HO2.out, hge⟩
      case rest =>
        obtain ⟨hNx, hownx, hgex⟩ := hcut
        have hMl : (L ++ byPart st i).length ≤ 1001001 := by
          rw [List.length_append]
          unfold byPart
          split <;> simp <;> omega
        clear HO2 hown2 hN2 e32 hge hLl hrl
        generalize hM : L ++ byPart st i = M at *
        have hXx := HX.out.new hNx
        have e8 : wc.cell? ⟨s, 338, none⟩ = some (.slice ra st.readers.length rc) := hXx.blk.cell (i := 338) (by omega)
        have hrd2 : (st.readers.length : Int) ≤ 1000 := by omega
        clear hXx
        go_wp2
        go_loopw [2, 30] (fun v2 v wr => ∃ k : Nat, k ≤ st.readers.length ∧ v = .int .i64 k ∧ New w wr ∧ wr.ownsRow 0 3 1 v2 (M ++ (st.readers.take k).filter fun r => decide ((st.txs r.toNat).inst = i)).length (intRow (M ++ (st.readers.take k).filter fun r => decide ((st.txs r.toNat).inst = i))) ∧ ∀ g, v2.ownBlock = some g → w.heap.size ≤ g) (fun _ v _ => st.readers.length - (intOf v).toNat)
        case atStart => exact ⟨0, by omega, rfl, hNx, by simpa using hownx, hgex⟩
        case round =>
          obtain ⟨k, hk, rfl, hNr, hownr, hger⟩ := hrel
          by_cases hlt2 : k < st.readers.length
          · obtain ⟨r, hr⟩ : ∃ r, st.readers[k]? = some r := ⟨_, List.getElem?_eq_getElem hlt2⟩
            obtain ⟨rg, hra, hcr0⟩ := HRC.out k r hr
            subst hra
            have ht := hT r (List.mem_of_getElem? hr)
            obtain ⟨ht0, ht1⟩ := ht
            have x0 : wr.cell? ⟨rg, k, none⟩ = some (.int .i64 r) := (hNr.cell (World.block_lt_of_cell? w _ hcr0) (fun x => x)).trans hcr0
            have x1 : wr.cell? ⟨s, 1 + r.toNat * 21, none⟩ = some (.int .i64 (st.txs r.toNat).inst) := by
              have := (HX.out.new hNr).tx (t := r.toNat) (by omega) (j := 0) (by omega)
              simpa [txCell] using this
            have k3 : (0 : Int) ≤ (k : Int) := by omega
            have k4 : (k : Int) < (st.readers.length : Int) := by omega
            have hf : (st.readers.take (k + 1)).filter (fun r => decide ((st.txs r.toNat).inst = i)) = (st.readers.take k).filter (fun r => decide ((st.txs r.toNat).inst = i)) ++ (if (st.txs r.toNat).inst = i then [r] else []) := by
              rw [List.take_succ_eq_append_getElem hlt2, List.filter_append, (List.getElem?_eq_some_iff.1 hr).2]
              by_cases h : (st.txs r.toNat).inst = i <;> simp [h]
            have HF := Lib.hid hf
            have HO := Lib.hid hownr
            have hll : (M ++ (st.readers.take k).filter fun r => decide ((st.txs r.toNat).inst = i)).length ≤ 1003000 := by
              rw [List.length_append]
              have h1 := List.length_filter_le (fun r => decide ((st.txs r.toNat).inst = i)) (st.readers.take k)
              have h2 : (st.readers.take k).length ≤ 1000 := by rw [List.length_take]; omega
              omega
            clear hf hownr hr hcr0
            generalize hNe : (M ++ (st.readers.take k).filter fun r => decide ((st.txs r.toNat).inst = i)) = N at *
            have hrl2 : N.length + 1 ≤ maxLen := by unfold maxLen; omega
            by_cases hin : (st.txs r.toNat).inst = i
            · have hin2 : (((st.txs r.toNat).inst : Nat) : Int) = (i : Int) := by omega
              go_wp2_with (refine wpList_append_lies _ rfl _ _ 28 rfl 0 3 i0 (.int .i64 0) 1 8 Try.underlying28 HI.out HZ0.out HZ1.out HZ2.out rfl (by decide) _ N.length (intRow N) rfl (HO.out.alloc _) ⟨_, 0, none⟩ 1 1 [.int .i64 r] rfl rfl (cell_one_new _ _ _) (by simp [Value.oneCell']) (by decide) hrl2 (by omega) (Nat.zero_le _) _ rfl ?_; intro g5 cap5 w6 hown5 hg5 hgb5 hlt5)
              refine ⟨⟨k + 1, by omega, by go_num, (hNr.alloc _).grown hg5 (fun j hj hlt => absurd (hger j hj) (by omega)), ?_, fun g hg => ?_⟩, by simp [intOf]; omega⟩
              · have e1 : M ++ (st.readers.take (k + 1)).filter (fun r => decide ((st.txs r.toNat).inst = i)) = N ++ [r] := by
                  rw [HF.out, if_pos hin, ← List.append_assoc, hNe]
                rw [e1]
                have e2 : (N ++ [r]).length = N.length + 1 := by simp
                have e3 : intRow (N ++ [r]) = intRow N ++ [.int .i64 r] := by simp [intRow]
                rw [e2, e3]
                exact hown5
              · simp [Value.ownBlock] at hg
                subst hg
                rcases hgb5 with h | h
                · exact hger _ h
                · rw [h]; exact (hNr.alloc _).size
            · have hin2 : ¬ (((st.txs r.toNat).inst : Nat) : Int) = (i : Int) := by omega
              go_wp2
              refine ⟨⟨k + 1, by omega, by go_num, hNr, ?_, hger⟩, by simp [intOf]; omega⟩
              have e1 : M ++ (st.readers.take (k + 1)).filter (fun r => decide ((st.txs r.toNat).inst = i)) = N := by
                rw [HF.out, if_neg hin, List.append_nil, hNe]
              rw [e1]
              exact HO.out
          · have hkk : k = st.readers.length := by omega
            subst hkk
            clear hlt2 hk
            rw [List.take_length] at hownr
            have hnext : (List.range (i + 1)).flatMap (serialAt st) = M ++ st.readers.filter (fun r => decide ((st.txs r.toNat).inst = i)) := by
              rw [List.range_succ, List.flatMap_append, hL, ← hM]
              simp [serialAt, byPart, readersOf, List.append_assoc]
            have HOW := Lib.hid hownr
            have HNX := Lib.hid hnext
            clear hownr hnext
            go_wp2
            refine ⟨⟨i + 1, by omega, by go_num, hNr, ?_, hger⟩, by simp [intOf]; omega⟩
            rw [HNX.out]
            exact HOW.out
    · have hii : i = st.insts.length := by omega
      subst hii
      clear hlt hile
      have HP := Lib.hid hown
      clear hown
      go_wp2
      go_ret
      exact ⟨_, rfl, hN, HP.out, hge⟩
end
end Go.Proofs.Yteaeflmglppcdaa
