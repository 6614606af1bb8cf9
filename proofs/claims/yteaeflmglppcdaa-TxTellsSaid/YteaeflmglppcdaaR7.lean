/- The contract of commit: a transaction that wrote, and is committed. -/
import Derived.Test.YteaeflmglppcdaaR6
import Derived.Deep.AppendLies
import Derived.Deep.MidRow
import Derived.Deep.RegionHeld3
import Derived.Deep.DeepCutAuto
namespace Go.Proofs.Yteaeflmglppcdaa
open Go.RowKit Tx

def wordsL (x : Inst) : List Value := (List.range 16).map fun i => Value.int .i64 (x.words i)
theorem length_wordsL (x : Inst) : (wordsL x).length = 16 := by simp [wordsL]
theorem wordsL_at (x : Inst) (j : Nat) (hj : j < 16) : (wordsL x)[j]? = some (.int .i64 (x.words j)) := by simp [wordsL, hj]
theorem oneCell_wordsL (x : Inst) : ∀ v ∈ wordsL x, v.oneCell' = true := by
  intro v hv
  simp only [wordsL, List.mem_map] at hv
  obtain ⟨i, _, rfl⟩ := hv
  rfl
theorem Try.info86 : (Try.prog.info? 86).map (·.size) = some 16 := by kernel_rfl
/-- The cells of a new instant with the words of another one. -/
def freshL (x : Inst) (t : Int) : List Value := wordsL x ++ (List.range 16).map (fun _ => Value.bool false) ++ [Value.int .i64 t]
/-- What a new instant is built of. -/
def isWords : Value → Bool
  | .agg A => A.size == 16
  | _ => false
def isInt : Value → Bool
  | .int .i64 _ => true
  | _ => false
def freshV (v u : Value) : Value := .agg ((v.cells.toList ++ (List.range 16).map (fun _ => Value.bool false) ++ [u]).toArray)
theorem isWords_L (x : Inst) : isWords (.agg (wordsL x).toArray) = true := by simp [isWords, wordsL]
theorem isInt_int (n : Int) : isInt (.int .i64 n) = true := rfl
theorem freshV_L (x : Inst) (t : Int) : freshV (.agg (wordsL x).toArray) (.int .i64 t) = .agg (freshL x t).toArray := by simp [freshV, freshL, Value.cells]
theorem exec_build88 (ev : Operand → Value) (dst : Option Tmp) (a b : Nat) (ty : TypeId) (pos : String) (after : Array Edge) (guard : Option (Nat × Bool)) (w : World)
    (h1 : isWords (ev (.tmp a)) = true) (h2 : isInt (ev (.tmp b)) = true) :
    (execOp ev { dst := dst, op := .build 88 #[(0, .tmp a), (2, .tmp b)], type := ty, pos := pos, after := after, guard := guard }).run Try.prog w = .ok (.value (freshV (ev (.tmp a)) (ev (.tmp b)))) w := by
  obtain ⟨A, hA, hs⟩ : ∃ A, ev (.tmp a) = .agg A ∧ A.size = 16 := by
    cases hv : ev (.tmp a) <;> rw [hv] at h1 <;> simp [isWords] at h1
    exact ⟨_, rfl, h1⟩
  obtain ⟨n, hn⟩ : ∃ n, ev (.tmp b) = .int .i64 n := by
    cases hv : ev (.tmp b) with
    | int k n =>
      rw [hv] at h2
      cases k <;> simp [isInt] at h2
      exact ⟨n, rfl⟩
    | _ => rw [hv] at h2; simp [isInt] at h2
  rw [hA, hn]
  simp only [execOp, List.map_toArray, List.map_cons, List.map_nil, hA, hn]
  obtain ⟨l⟩ := A
  simp only [List.size_toArray] at hs
  match l, hs with
  | [a0, a1, a2, a3, a4, a5, a6, a7, a8, a9, a10, a11, a12, a13, a14, a15], _ => show _ = _; kernel_rfl
/-- A store of a whole struct, as one word. -/
noncomputable def storeRes (T : TypeId) (w : World) (p v : Value) : Result Next := ((Instr.storeAt T p v).run Try.prog w).andThen fun _ w' => .ok .skip w'
theorem exec_store88 (ev : Operand → Value) (dst : Option Tmp) (a b : Nat) (ty : TypeId) (pos : String) (after : Array Edge) (guard : Option (Nat × Bool)) (w : World) :
    (execOp ev { dst := dst, op := .store 88 (.tmp a) (.tmp b), type := ty, pos := pos, after := after, guard := guard }).run Try.prog w = storeRes 88 w (ev (.tmp a)) (ev (.tmp b)) := by
  simp only [execOp, Sem.run_bind, storeRes, Sem.run_pure]
/-- A read of a whole array, as one word. -/
noncomputable def loadRes (T : TypeId) (w : World) (p : Value) : Result Next := ((Instr.loadAt T p).run Try.prog w).andThen fun v w' => .ok (.value v) w'
theorem exec_load86 (ev : Operand → Value) (dst : Option Tmp) (a : Nat) (ty : TypeId) (pos : String) (after : Array Edge) (guard : Option (Nat × Bool)) (w : World) :
    (execOp ev { dst := dst, op := .load 86 (.tmp a), type := ty, pos := pos, after := after, guard := guard }).run Try.prog w = loadRes 86 w (ev (.tmp a)) := by
  simp only [execOp, Sem.run_bind, loadRes, Sem.run_pure]
theorem loadRes_range (T : TypeId) (w : World) (b o : Nat) (cs : List Value) (d : TypeDesc) (hc : w.rangeAt b o cs) (hu : Try.prog.underlying T = some d) (hd : d.isRow = true) (hi : (Try.prog.info? T).map (·.size) = some cs.length) :
    loadRes T w (.pointer (some ⟨b, o, none⟩)) = .ok (.value (.agg cs.toArray)) w := by
  unfold loadRes
  rw [run_loadAt_mid w b o T cs d hc hu hd hi]
  rfl
/-- A new instant in memory, before it is written. -/
def zero88 : Array Value := #[.int .i64 0, .int .i64 0, .int .i64 0, .int .i64 0, .int .i64 0, .int .i64 0, .int .i64 0, .int .i64 0, .int .i64 0, .int .i64 0, .int .i64 0, .int .i64 0, .int .i64 0, .int .i64 0, .int .i64 0, .int .i64 0, .bool false, .bool false, .bool false, .bool false, .bool false, .bool false, .bool false, .bool false, .bool false, .bool false, .bool false, .bool false, .bool false, .bool false, .bool false, .bool false, .int .i64 0]
def zobj : Obj := .cells zero88 88
theorem exec_alloc88 (ev : Operand → Value) (dst : Option Tmp) (ty : TypeId) (pos : String) (after : Array Edge) (guard : Option (Nat × Bool)) (w : World) :
    (execOp ev { dst := dst, op := .alloc 88, type := ty, pos := pos, after := after, guard := guard }).run Try.prog w = .ok (.value (.pointer (some ⟨w.heap.size, 0, none⟩))) (w.alloc zobj) := by
  kernel_rfl
attribute [local go_sem ↓] exec_build88 exec_store88 exec_load86 exec_alloc88
attribute [local go_sem] isWords_L isInt_int freshV_L
theorem Blk.setCells {b : Nat} {T : TypeId} {n : Nat} : ∀ (l : List Value) (o : Nat) (w : World) (f : Nat → Value), Blk w b T n f → o + l.length ≤ n →
    Blk (w.setCells b o l) b T n (fun i => if o ≤ i then (l[i - o]?).getD (f i) else f i)
  | [], o, w, f, h, _ => h.congr (fun i _ => by simp)
  | v :: r, o, w, f, h, hn => by
    rw [World.setCells]
    refine (Blk.setCells r (o + 1) _ _ (h.set o v) (by simp at hn; omega)).congr fun i _ => ?_
    by_cases h1 : o = i
    · subst h1
      have h3 : ¬ o + 1 ≤ o := by omega
      simp [upd, h3]
    · by_cases h2 : o ≤ i
      · have h3 : o + 1 ≤ i := by omega
        have h4 : i - o = (i - (o + 1)) + 1 := by omega
        simp only [h3, h2, if_true]
        rw [h4, List.getElem?_cons_succ, upd_other _ _ (fun e => h1 e.symm)]
      · have h3 : ¬ o + 1 ≤ i := by omega
        simp only [h3, h2, if_false]
        rw [upd_other _ _ (fun e => h1 e.symm)]
theorem Chg.setCells {b : Nat} {S : Nat → Prop} {w0 : World} (hS : b < w0.heap.size → S b) : ∀ (l : List Value) (o : Nat) (w : World), Chg S w0 w → Chg S w0 (w.setCells b o l)
  | [], _, _, h => h
  | v :: r, o, w, h => by
    rw [World.setCells]
    exact Chg.setCells hS r (o + 1) _ (h.setCell hS v)
def freshI (x : Inst) (t : Int) : Inst := { words := x.words, wrote := fun _ => false, by_ := t }
theorem length_freshL (x : Inst) (t : Int) : (freshL x t).length = 33 := by simp [freshL, wordsL]
theorem oneCell_freshL (x : Inst) (t : Int) : ∀ v ∈ freshL x t, v.oneCell' = true := by
  intro v hv
  simp only [freshL, List.mem_append, List.mem_map, List.mem_singleton] at hv
  rcases hv with (hv | ⟨_, _, rfl⟩) | rfl
  · exact oneCell_wordsL x v hv
  · rfl
  · rfl
theorem freshL_at (x : Inst) (t : Int) (i : Nat) (hi : i < 33) : (freshL x t)[i]? = some (instCell (freshI x t) i) := by
  unfold freshL instCell freshI
  by_cases h1 : i < 16
  · rw [List.append_assoc, List.getElem?_append_left (by rw [length_wordsL]; exact h1), wordsL_at x i h1]
    simp [h1]
  · by_cases h2 : i < 32
    · rw [List.getElem?_append_left (by simp [length_wordsL]; omega), List.getElem?_append_right (by rw [length_wordsL]; omega), length_wordsL]
      simp only [h1, h2, if_false, if_true]
      rw [List.getElem?_map, List.getElem?_range (by omega)]
      rfl
    · have h3 : i = 32 := by omega
      subst h3
      simp [wordsL]
theorem Try.info88 : (Try.prog.info? 88).map (·.size) = some 33 := by kernel_rfl
theorem zero88_blk (w : World) : Blk (w.alloc zobj) w.heap.size 88 33 (fun i => zero88.getD i undef) :=
  Blk.new w _ _ _ rfl (fun i hi => by
    rw [Array.getD_eq_getD_getElem?, Array.getElem?_eq_getElem (show i < zero88.size from hi)]; rfl)
theorem store_fresh (w : World) (x : Inst) (t : Int) :
    storeRes 88 (w.alloc zobj).drew (.pointer (some ⟨w.heap.size, 0, none⟩)) (.agg (freshL x t).toArray) = .ok .skip ((w.alloc zobj).drew.setCells w.heap.size 0 (freshL x t)) := by
  unfold storeRes
  have hb : Blk (w.alloc zobj).drew w.heap.size 88 33 _ := zero88_blk w
  rw [run_storeAt_mid _ w.heap.size 0 88 (freshL x t).toArray (fun j hj => by
    rw [Nat.zero_add]
    rw [List.size_toArray, length_freshL] at hj
    exact ⟨by rw [hb.cell hj]; rfl, hb.free j⟩) (by rw [List.size_toArray, length_freshL]; exact Try.info88) (all_oneCell_toArray (oneCell_freshL x t))]
  rfl
theorem fresh_blk (w : World) (x : Inst) (t : Int) : Blk ((w.alloc zobj).drew.setCells w.heap.size 0 (freshL x t)) w.heap.size 88 33 (instCell (freshI x t)) :=
  (Blk.setCells (freshL x t) 0 _ _ (show Blk (w.alloc zobj).drew w.heap.size 88 33 _ from zero88_blk w) (by rw [length_freshL]; omega)).congr fun i hi => by
    simp only [Nat.zero_le, if_true, Nat.sub_zero]
    rw [freshL_at x t i hi]; rfl

/-- The words of a new instant, of which the keys below j have been looked up. -/
def half (st : St) (t : Nat) (j : Nat) : Inst :=
  { words := fun k => if k < j then (made st t).words k else (st.inst (last st)).words k, wrote := fun k => decide (k < j) && (made st t).wrote k, by_ := t }
theorem half_zero (st : St) (t : Nat) : half st t 0 = freshI (st.inst (last st)) t := by
  unfold half freshI; simp
theorem half_done (st : St) (t : Nat) (i : Nat) (hi : i < 33) : instCell (half st t 16) i = instCell (made st t) i := by
  unfold instCell
  by_cases h1 : i < 16
  · simp only [h1, if_true]; simp [half, h1]
  · by_cases h2 : i < 32
    · have h3 : i - 16 < 16 := by omega
      simp only [h1, h2, if_true, if_false]; simp [half, h3]
    · simp only [h1, h2, if_false]; rfl
theorem half_none (st : St) (t j : Nat) (h : mget ((t : Int), (j : Int)) st.wr = none) (i : Nat) (hi : i < 33) : instCell (half st t (j + 1)) i = instCell (half st t j) i := by
  unfold instCell
  by_cases h1 : i < 16
  · simp only [h1, if_true]
    by_cases e : i = j
    · subst e; simp [half, made, h]
    · have h5 : (i < j + 1) = (i < j) := by simp; omega
      simp [half, h5]
  · by_cases h2 : i < 32
    · simp only [h1, h2, if_true, if_false]
      by_cases e : i - 16 = j
      · rw [e]; simp [half, made, h]
      · have h5 : (i - 16 < j + 1) = (i - 16 < j) := by simp; omega
        simp [half, h5]
    · simp only [h1, h2, if_false]; rfl
theorem half_some (st : St) (t j : Nat) (u : Int) (hj : j < 16) (h : mget ((t : Int), (j : Int)) st.wr = some u) (i : Nat) (hi : i < 33) :
    instCell (half st t (j + 1)) i = upd (upd (instCell (half st t j)) j (.int .i64 u)) (16 + j) (.bool true) i := by
  unfold upd instCell
  by_cases h1 : i < 16
  · have h6 : ¬ i = 16 + j := by omega
    simp only [h1, h6, if_true, if_false]
    by_cases e : i = j
    · subst e; simp [half, made, h]
    · have h5 : (i < j + 1) = (i < j) := by simp; omega
      simp [half, h5, e]
  · have h7 : ¬ i = j := by omega
    by_cases h2 : i < 32
    · simp only [h1, h2, h7, if_true, if_false]
      by_cases e : i = 16 + j
      · have h8 : i - 16 = j := by omega
        rw [h8, if_pos e]; simp [half, made, h]
      · have h9 : ¬ i - 16 = j := by omega
        have h5 : (i - 16 < j + 1) = (i - 16 < j) := by simp; omega
        simp [half, h5, e]
    · have h6 : ¬ i = 16 + j := by omega
      simp only [h1, h2, h6, h7, if_false]; rfl
theorem oneCell_instCells (x : Inst) : ∀ v ∈ instCells x, v.oneCell' = true := by
  intro v hv
  simp only [instCells, List.mem_map, List.mem_range] at hv
  obtain ⟨i, hi, rfl⟩ := hv
  unfold instCell
  split
  · rfl
  · split <;> rfl
def isInst : Value → Bool
  | .agg A => A.size == 33
  | _ => false
theorem isInst_L (x : Inst) : isInst (.agg (instCells x).toArray) = true := by simp [isInst, instCells]
def cellsOf (v : Value) : Obj := .cells v.cells 88
theorem cellsOf_L (x : Inst) : cellsOf (.agg (instCells x).toArray) = .cells (instCells x).toArray 88 := rfl
theorem exec_load88 (ev : Operand → Value) (dst : Option Tmp) (a : Nat) (ty : TypeId) (pos : String) (after : Array Edge) (guard : Option (Nat × Bool)) (w : World) :
    (execOp ev { dst := dst, op := .load 88 (.tmp a), type := ty, pos := pos, after := after, guard := guard }).run Try.prog w = loadRes 88 w (ev (.tmp a)) := by
  simp only [execOp, Sem.run_bind, loadRes, Sem.run_pure]
theorem exec_slice65 (ev : Operand → Value) (dst : Option Tmp) (a : Nat) (ty : TypeId) (pos : String) (after : Array Edge) (guard : Option (Nat × Bool)) (w : World)
    (h1 : isInst (ev (.tmp a)) = true) :
    (execOp ev { dst := dst, op := .buildSlice 65 1 #[(0, .tmp a)], type := ty, pos := pos, after := after, guard := guard }).run Try.prog w = .ok (.value (.slice (some ⟨w.heap.size, 0, none⟩) 1 1)) (w.alloc (cellsOf (ev (.tmp a)))) := by
  obtain ⟨A, hA, hs⟩ : ∃ A, ev (.tmp a) = .agg A ∧ A.size = 33 := by
    cases hv : ev (.tmp a) <;> rw [hv] at h1 <;> simp [isInst] at h1
    exact ⟨_, rfl, h1⟩
  rw [hA]
  simp only [execOp, List.map_toArray, List.map_cons, List.map_nil, hA]
  obtain ⟨l⟩ := A
  simp only [List.size_toArray] at hs
  match l, hs with
  | a0 :: a1 :: a2 :: a3 :: a4 :: a5 :: a6 :: a7 :: a8 :: a9 :: a10 :: a11 :: a12 :: a13 :: a14 :: a15 :: c0 :: c1 :: c2 :: c3 :: c4 :: c5 :: c6 :: c7 :: c8 :: c9 :: c10 :: c11 :: c12 :: c13 :: c14 :: c15 :: e :: [], _ => show _ = _; kernel_rfl
attribute [local go_sem ↓] exec_load88 exec_slice65
attribute [local go_sem] isInst_L cellsOf_L
theorem Try.info88z : (Try.prog.info? 88).map (fun i => (i.zero, i.size, i.bytes)) = some (some (.agg zero88), 33, 152) := by kernel_rfl

section
variable {w : World} {s m : Nat} {vi vr va vo : Value} {st : St} {F : Nat → Prop}
/-- The instants are another row. -/
theorem RepX.setInsts {w1 w2 : World} {g cap H : Nat} {x : Inst} (h : RepX w s vi m vr va vo st) (hg : w.grownBy w1 vi.ownBlock)
    (hown : w1.ownsRow 0 88 33 (.slice (some ⟨g, 0, none⟩) (st.insts.length + 1) cap) (st.insts.length + 1) (st.insts.flatMap instCells ++ instCells x))
    (hgb : vi.ownBlock = some g ∨ g = H) (hH : w.heap.size ≤ H) (hw2 : w2 = w1.setCell ⟨s, 0, none⟩ (.slice (some ⟨g, 0, none⟩) (st.insts.length + 1) cap)) :
    RepX w2 s (.slice (some ⟨g, 0, none⟩) (st.insts.length + 1) cap) m vr va vo { st with insts := st.insts ++ [x] } := by
  subst hw2
  have hc : Chg (fun k => vi.ownBlock = some k) w w1 := (Chg.refl _ w).grown hg (fun k hk _ => hk)
  have hgs : g ≠ s := by
    rcases hgb with h1 | h1
    · exact fun e => h.si (e ▸ h1)
    · have := h.blk.lt; omega
  have hgm : g ≠ m := by
    rcases hgb with h1 | h1
    · exact fun e => h.mi (e ▸ h1)
    · have := h.map.lt; omega
  have hgr : vr.ownBlock ≠ some g := by
    rcases hgb with h1 | h1
    · exact h.ir g h1
    · intro hk; have := (h.readers.lt g hk).2; omega
  have hc2 : Chg (fun k => k = s) w1 (w1.setCell ⟨s, 0, none⟩ (.slice (some ⟨g, 0, none⟩) (st.insts.length + 1) cap)) := (Chg.refl (fun k => k = s) w1).setCell (fun _ => rfl) _
  refine { blk := ?_, insts := ?_, ne := by simp, readers := ?_, map := ?_, sm := h.sm, si := ?_, sr := h.sr, mi := ?_, mr := h.mr, ir := ?_ }
  · refine ((hc.blk h.blk h.si).set 0 _).congr fun i hi => ?_
    unfold upd storeCell
    by_cases e : i = 0
    · simp [e]
    · simp [e]
  · have := hc2.ownsRow hown (fun k hk e => by simp [Value.ownBlock] at hk; omega)
    simpa [List.flatMap_append] using this
  · exact hc2.ownsRow (hc.ownsRow h.readers fun k hk e => h.ir k e hk) (fun k hk e => h.sr (e ▸ hk))
  · exact (h.map.kept (hc.block m h.map.lt h.mi)).kept (hc2.block m (Nat.lt_of_lt_of_le h.map.lt hc.size) (fun e => h.sm e.symm))
  · simp [Value.ownBlock]; omega
  · simp [Value.ownBlock]; omega
  · intro k hk; simp [Value.ownBlock] at hk; subst hk; exact hgr
end

section
variable {w : World} {s m : Nat} {vi vr va vo : Value} {st : St} {F : Nat → Prop}

set_option maxRecDepth 100000 in
set_option maxHeartbeats 8000000 in
theorem commit_write (hX : RepX w s vi m vr va vo st) (hF : ∀ k, F k ↔ foot s vi m vr k) (d t k n : Int) (h0 : 0 ≤ t) (h1 : t < 16) (hl : (st.txs t.toNat).live = true) (hw : (st.txs t.toNat).writes = true) (hcl : clash st t.toNat = false) (hlen : st.insts.length ≤ 1000000) :
    Calls Try.prog 68 #[.pointer (some ⟨s, 0, none⟩), .agg #[.int .i64 d, .int .i64 t, .int .i64 k, .int .i64 n]] w
      (Post w F s va vo (commit st t.toNat).1 (commit st t.toNat).2) := by
  have HF := Lib.hid hF; clear hF
  have HL := Lib.hid hl; clear hl
  have ha : Hid (commit st t.toNat = (⟨0, st.insts.length⟩, { st.setTx t.toNat { st.txs t.toNat with over := true, comm := true } with insts := st.insts ++ [made st t.toNat] })) := by
    show _ = _
    unfold commit
    rw [hw, hcl]
    rfl
  have HW := Lib.hid hw; clear hw
  have hc1 : ∀ c, c < 16 → ((st.txs t.toNat).read c && behind st c (st.txs t.toNat).inst) = false := by
    unfold clash at hcl
    rw [List.any_eq_false] at hcl
    intro c hc
    have := hcl c (by simpa using hc)
    simpa using this
  have HCL := Lib.hid hc1; clear hc1 hcl
  have hs := hX.blk.lt
  go_enter Try.func68, Try.ntmps68
  go_wp2_with fail
  (with_reducible refine (live_yes (hX.new ((Chg.refl _ w).alloc _)) _ _ _ _ h0 h1 HL.out).mono ?_); rintro e w1 ⟨rfl, hN⟩
  have hX1 := (hX.new ((Chg.refl _ w).alloc _)).new hN
  have hB1 : w1.cell? ⟨w.heap.size, 1, none⟩ = some (.int .i64 t) := by
    rw [hN.cell (by simp) (fun x => x)]; rw [World.cell?_alloc_new]; rfl
  have hf := hX1.blk.free (1 + t.toNat * 21 + 18)
  have hc := hX1.tx (t := t.toNat) (by omega) (j := 18) (by omega)
  have hX2 := hX1.setTx (t := t.toNat) (j := 18) (by omega) (by omega) (v := .bool true) (fun i _ => cells_over (st.txs t.toNat) i)
  have hw2 : (w1.setCell ⟨s, 1 + t.toNat * 21 + 18, none⟩ (.bool true)).cell? ⟨s, 1 + t.toNat * 21 + 20, none⟩ = some (.bool true) := by
    rw [hX2.tx (by omega) (by omega), setTx_at]; simp [txCell, HW.out]
  have hC2 : Chg F w (w1.setCell ⟨s, 1 + t.toNat * 21 + 18, none⟩ (.bool true)) :=
    (Chg.of_new (((Chg.refl _ w).alloc _).trans hN)).setCell (fun _ => (HF.out s).2 (.inl rfl)) _
  have hB2 : (w1.setCell ⟨s, 1 + t.toNat * 21 + 18, none⟩ (.bool true)).cell? ⟨w.heap.size, 1, none⟩ = some (.int .i64 t) := by
    rw [cell_set_other (by show w.heap.size ≠ s; omega)]; exact hB1
  have hL2 : w.heap.size < (w1.setCell ⟨s, 1 + t.toNat * 21 + 18, none⟩ (.bool true)).heap.size := World.block_lt_of_cell? _ _ hB2
  have hrl : readsL ((st.setTx t.toNat { st.txs t.toNat with over := true }).txs t.toNat) = readsL (st.txs t.toNat) := by rw [setTx_at]; rfl
  have HLD : Hid ((Instr.loadAt 66 (.pointer (some ⟨s, 1 + t.toNat * 21 + 1, none⟩))).run Try.prog (w1.setCell ⟨s, 1 + t.toNat * 21 + 18, none⟩ (.bool true)) = .ok (.agg (readsL (st.txs t.toNat)).toArray) (w1.setCell ⟨s, 1 + t.toNat * 21 + 18, none⟩ (.bool true))) := by
    rw [← hrl]
    exact run_loadAt_mid _ s (1 + t.toNat * 21 + 1) 66 _ _ (hX2.reads (by omega)) Try.underlying66 rfl Try.info66
  clear hrl
  go_wp2_with ((with_reducible refine wpList_loadT 66 s (1 + t.toNat * 21 + 1) _ HLD.out ?_ ?_); · rfl)
  clear HLD hw2 hc hf hX1 hN hX hB1
  generalize w1.setCell ⟨s, 1 + t.toNat * 21 + 18, none⟩ (.bool true) = w2 at *
  go_loopw [41] (fun v wr => ∃ j : Nat, j ≤ 16 ∧ v = .int .i64 j ∧ (∀ i, i < j → ((st.txs t.toNat).read i && behind st i (st.txs t.toNat).inst) = false) ∧ Chg F w wr ∧ wr.cell? ⟨w.heap.size, 1, none⟩ = some (.int .i64 t) ∧ RepX wr s vi m vr va vo (st.setTx t.toNat { st.txs t.toNat with over := true })) (fun v _ => 16 - (intOf v).toNat)
  case atStart => exact ⟨0, by omega, rfl, by simp, hC2, hB2, hX2⟩
  case round =>
    obtain ⟨j, hj, rfl, hno, hCr, hBr, hXr⟩ := hrel
    by_cases hlt : j < 16
    · have HNO := Lib.hid hno
      have hix : ∀ w, (Instr.index 66 (.agg (readsL (st.txs t.toNat)).toArray) (.int .i64 j)).run Try.prog w = .ok (.bool ((st.txs t.toNat).read j)) w := run_index_reads _ j hlt
      clear hno
      cases hr : (st.txs t.toNat).read j
      · rw [hr] at hix
        have HR := Lib.hid hr; clear hr
        go_wp2_with ((with_reducible refine (must_yes _ _).mono ?_); rintro e w' ⟨rfl, rfl⟩)
        go_roundw
        case rel =>
          refine ⟨j + 1, by omega, by go_num, fun i hi => ?_, hCr, hBr, hXr⟩
          by_cases e : i = j
          · rw [e, HR.out]; rfl
          · exact HNO.out i (by omega)
        case measure => simp [intOf]; omega
      · rw [hr] at hix
        have HR := Lib.hid hr; clear hr
        have hinst : wr.cell? ⟨s, 1 + t.toNat * 21, none⟩ = some (.int .i64 (st.txs t.toNat).inst) := by
          have := hXr.tx (t := t.toNat) (by omega) (j := 0) (by omega)
          rw [setTx_at] at this
          simpa [txCell] using this
        have HB : Hid (Calls Try.prog 75 #[.pointer (some ⟨s, 0, none⟩), .int .i64 j, .int .i64 (st.txs t.toNat).inst] wr fun e w' => e = .returned (.bool (behind st j (st.txs t.toNat).inst)) ∧ New wr w') := behind_any hXr j _ hlt
        cases hbe : behind st j (st.txs t.toNat).inst
        · rw [hbe] at HB
          have HBE := Lib.hid hbe; clear hbe
          go_wp2_with (first | ((with_reducible refine (must_yes _ _).mono ?_); rintro e w' ⟨rfl, rfl⟩) | ((with_reducible refine HB.out.mono ?_); rintro e w' ⟨rfl, hn'⟩))
          go_roundw
          case rel =>
            refine ⟨j + 1, by omega, by go_num, fun i hi => ?_, hCr.trans (Chg.of_new hn'), ?_, hXr.new hn'⟩
            · by_cases e : i = j
              · rw [e, HBE.out, Bool.and_false]
              · exact HNO.out i (by omega)
            · rw [hn'.cell (World.block_lt_of_cell? _ _ hBr) (fun x => x)]; exact hBr
          case measure => simp [intOf]; omega
        · exact absurd (HCL.out j hlt) (by rw [HR.out, hbe]; simp)
    · have hj16 : j = 16 := by omega
      subst hj16
      clear hlt hno hj
      have f19 := hXr.blk.free (1 + t.toNat * 21 + 19)
      have c19 := hXr.tx (t := t.toNat) (by omega) (j := 19) (by omega)
      go_wp2
      have hX3 : RepX (wr.setCell ⟨s, 1 + t.toNat * 21 + 19, none⟩ (.bool true)) s vi m vr va vo (st.setTx t.toNat { st.txs t.toNat with over := true, comm := true }) := by
        have := hXr.setTx (t := t.toNat) (j := 19) (by omega) (by omega) (v := .bool true) (fun i _ => by rw [setTx_at]; exact cells_comm { st.txs t.toNat with over := true } i)
        rw [setTx_setTx] at this
        exact this
      have hC3 : Chg F w (wr.setCell ⟨s, 1 + t.toNat * 21 + 19, none⟩ (.bool true)) := hCr.setCell (fun _ => (HF.out s).2 (.inl rfl)) _
      have hB3 : (wr.setCell ⟨s, 1 + t.toNat * 21 + 19, none⟩ (.bool true)).cell? ⟨w.heap.size, 1, none⟩ = some (.int .i64 t) := by
        rw [cell_set_other (by show w.heap.size ≠ s; omega)]; exact hBr
      clear hXr hCr hBr f19 c19 hX2 hC2 hB2 hL2
      generalize wr.setCell ⟨s, 1 + t.toNat * 21 + 19, none⟩ (.bool true) = w3 at *
      obtain ⟨g, cap, hvi, hm, hgs, hcell⟩ := hX3.slice
      have v0 : w3.cell? ⟨s, 0, none⟩ = some vi := hX3.blk.cell (by omega)
      rw [hvi] at v0
      have hne := hX3.ne
      have hlen3 : (st.setTx t.toNat { st.txs t.toNat with over := true, comm := true }).insts = st.insts := rfl
      rw [hlen3] at v0 hm hne hcell
      have i1 : (0 : Int) ≤ (st.insts.length : Int) - 1 := by omega
      have i3 : (1 : Int) ≤ (st.insts.length : Int) := by omega
      have i2 : (st.insts.length : Int) - 1 < (st.insts.length : Int) := by omega
      have hq : ∀ j, j < 16 → w3.cell? ⟨g, (st.insts.length - 1) * 33 + j, none⟩ = some (.int .i64 ((st.inst (last st)).words j)) := by
        intro j hj
        rw [show st.insts.length - 1 = last st from rfl]
        rw [hcell (last st) j (by unfold last; omega) (by omega)]
        simp only [instCell, if_pos hj]
        rfl
      have q0 := hq 0 (by omega)
      have hrg : w3.rangeAt g ((st.insts.length - 1) * 33) (wordsL (st.inst (last st))) := fun j v hv => by
        have hj : j < 16 := by
          have := (List.getElem?_eq_some_iff.1 hv).1
          rw [length_wordsL] at this; exact this
        rw [hq j hj, ← hv, wordsL_at _ _ hj]
      have HLA : Hid (∀ w', New w3 w' → Calls Try.prog 39 #[.pointer (some ⟨s, 0, none⟩)] w' fun e w'' => e = .returned (.int .i64 ((st.insts.length : Int) - 1)) ∧ w'' = w') := fun w' h => by have h9 := last_rep (hX3.new h); exact h9
      have hs3 : s < w3.heap.size := hX3.blk.lt
      have hb3 : w.heap.size < w3.heap.size := World.block_lt_of_cell? w3 _ hB3
      have hg3 : g < w3.heap.size := World.block_lt_of_cell? w3 _ q0
      have HVI := Lib.hid hvi
      clear hcell hq hvi hlen3
      have nv := World.new_ne w3 _ v0
      have nb := World.new_ne w3 _ hB3
      have nq := World.new_ne w3 _ q0
      have hi86 : (Try.prog.info? 86).map (·.size) = some (wordsL (st.inst (last st))).length := by rw [length_wordsL]; exact Try.info86
      have HLD0 : loadRes 86 w3.drew (.pointer (some ⟨g, (st.insts.length - 1) * 33, none⟩)) = .ok (.value (.agg (wordsL (st.inst (last st))).toArray)) w3.drew := loadRes_range 86 _ _ _ _ _ hrg Try.underlying86 rfl hi86
      have HLD1 : loadRes 86 (w3.alloc zobj).drew (.pointer (some ⟨g, (st.insts.length - 1) * 33, none⟩)) = .ok (.value (.agg (wordsL (st.inst (last st))).toArray)) (w3.alloc zobj).drew := loadRes_range 86 _ _ _ _ _ (World.rangeAt_alloc hrg _) Try.underlying86 rfl hi86
      clear hi86
      have HST : storeRes 88 (w3.alloc zobj).drew (.pointer (some ⟨w3.heap.size, 0, none⟩)) (.agg (freshL (st.inst (last st)) t).toArray) = .ok .skip ((w3.alloc zobj).drew.setCells w3.heap.size 0 (freshL (st.inst (last st)) t)) := store_fresh w3 _ t
      clear q0 hrg nv nb nq
      go_cut [8] (fun v8 wx => v8 = .pointer (some ⟨w3.heap.size, 0, none⟩) ∧ wx = ((w3.alloc zobj).drew.setCells w3.heap.size 0 (freshL (st.inst (last st)) t)))
      case first =>
        go_region_law (first | (go_simp; go_at_call 39; refine (HLA.out _ (by first | exact (Chg.refl _ w3).drew | exact ((Chg.refl _ w3).alloc _).drew)).mono ?_; rintro e w' ⟨rfl, rfl⟩))
        all_goals (go_wp2_with fail; go_meet; exact ⟨rfl, rfl⟩)
      case rest =>
        obtain ⟨rfl, rfl⟩ := hcut
        have nbs : w3.heap.size ≠ s := by omega
        have nbw : w3.heap.size ≠ w.heap.size := by omega
        have nbm : w3.heap.size ≠ m := by have := hX3.map.lt; omega
        have hNw : New w3 ((w3.alloc zobj).drew.setCells w3.heap.size 0 (freshL (st.inst (last st)) t)) :=
          Chg.setCells (fun h => absurd h (by omega)) _ _ _ ((Chg.refl _ w3).alloc zobj).drew
        have hX4 := hX3.new hNw
        have hC4 := hC3.trans (Chg.of_new hNw)
        have hB4 : ((w3.alloc zobj).drew.setCells w3.heap.size 0 (freshL (st.inst (last st)) t)).cell? ⟨w.heap.size, 1, none⟩ = some (.int .i64 t) := by
          rw [hNw.cell hb3 (fun x => x)]; exact hB3
        have hK4 : Blk ((w3.alloc zobj).drew.setCells w3.heap.size 0 (freshL (st.inst (last st)) t)) w3.heap.size 88 33 (instCell (half st t.toNat 0)) := by
          rw [half_zero, Int.toNat_of_nonneg h0]; exact fresh_blk w3 _ t
        have HNI : Hid (∀ k, vi.ownBlock = some k → k < w3.heap.size) := fun k hk => (hX3.insts.lt k hk).2
        have HNR : Hid (∀ k, vr.ownBlock = some k → k < w3.heap.size) := fun k hk => (hX3.readers.lt k hk).2
        have hm3 := hX3.map.lt
        have hww : w.heap.size ≤ w3.heap.size := by omega
        clear HLD0 HLD1 HST HLA hNw hB3 hC3 hX3 v0
        generalize (w3.alloc zobj).drew.setCells w3.heap.size 0 (freshL (st.inst (last st)) t) = w4 at *
        generalize w3.heap.size = nb at *
        go_wp2
        go_loopw [74] (fun v wr => ∃ j : Nat, j ≤ 16 ∧ v = .int .i64 j ∧ Chg F w wr ∧ wr.cell? ⟨w.heap.size, 1, none⟩ = some (.int .i64 t) ∧ Blk wr nb 88 33 (instCell (half st t.toNat j)) ∧ RepX wr s vi m vr va vo (st.setTx t.toNat { st.txs t.toNat with over := true, comm := true })) (fun v _ => 16 - (intOf v).toNat)
        case atStart => exact ⟨0, by omega, rfl, hC4, hB4, hK4, hX4⟩
        case round =>
          obtain ⟨j, hj, rfl, hCr, hBr, hKr, hXr⟩ := hrel
          by_cases hlt : j < 16
          · have e4 := hXr.blk.cell (i := 337) (by omega)
            simp only [storeCell] at e4
            have hlk : ∀ nq, (Instr.lookup 70 (.map (some m)) (.agg #[.int .i64 t, .int .i64 j]) true).run Try.prog (wr.drewN nq) = _ := fun nq => run_lookup_map (ev := Value.int .i64) key_cell Try.underlying70 (hXr.map.kept (w' := wr.drewN nq) rfl) (zero_int _) (t, (j : Int)) true
            simp only [if_true] at hlk
            have hwr9 : (st.setTx t.toNat { st.txs t.toNat with over := true, comm := true }).wr = st.wr := rfl
            rw [hwr9] at hlk
            cases hg : mget (t, (j : Int)) st.wr with
            | none =>
              rw [hg] at hlk
              simp only [Option.map_none, Option.getD_none, Option.isSome_none] at hlk
              have hlk0 := hlk 0
              have hh := half_none st t.toNat j (by rw [Int.toNat_of_nonneg h0]; exact hg)
              have HH := Lib.hid hh
              clear hh hg
              go_wp2
              go_quiet (fail)
              go_wp2
              go_roundw
              case rel => exact ⟨j + 1, by omega, by go_num, hCr.drewN _, hBr, (show Blk (wr.drewN _) _ _ _ _ from hKr).congr (fun i hi => (HH.out i hi).symm), hXr.new ((Chg.refl _ _).drewN _)⟩
              case measure => simp [intOf]; omega
            | some u =>
              rw [hg] at hlk
              simp only [Option.map_some, Option.getD_some, Option.isSome_some] at hlk
              have hlk0 := hlk 0
              have hh := half_some st t.toNat j u hlt (by rw [Int.toNat_of_nonneg h0]; exact hg)
              have HH := Lib.hid hh
              clear hh hg
              have b3 : (0 : Int) ≤ (j : Int) := by omega
              have b4 : (j : Int) < 16 := by omega
              go_wp2
              go_quiet (fail)
              have hKn : Blk (wr.drewN nq) nb 88 33 (instCell (half st t.toNat j)) := hKr
              have hXn := hXr.new ((Chg.refl _ wr).drewN nq)
              have hCn : Chg F w (wr.drewN nq) := hCr.drewN nq
              have hBn : (wr.drewN nq).cell? ⟨w.heap.size, 1, none⟩ = some (.int .i64 t) := hBr
              clear hXr hKr hCr hBr hlk hlk0 e4
              generalize wr.drewN nq = w5 at *
              have p1 := hKn.cell (i := j) (by omega)
              have p2 := hKn.free j
              have hK6 := hKn.set j (.int .i64 u)
              have p3 := hK6.cell (i := 16 + j) (by omega)
              have p4 := hK6.free (16 + j)
              go_wp2
              have hS : ∀ k, foot s vi m vr k → ¬ k = nb := by
                rintro k (rfl | rfl | hk | hk) e
                · omega
                · omega
                · have := HNI.out k hk; omega
                · have := HNR.out k hk; omega
              have hc6 : Chg (fun k => k = nb) w5 ((w5.setCell ⟨nb, j, none⟩ (.int .i64 u)).setCell ⟨nb, 16 + j, none⟩ (.bool true)) := ((Chg.refl (fun k => k = nb) w5).setCell (fun _ => rfl) _).setCell (fun _ => rfl) _
              have hX6 := hXn.kept hc6 hS
              have hK7 := (hK6.set (16 + j) (.bool true)).congr (fun i hi => (HH.out i hi).symm)
              have hC6 : Chg F w ((w5.setCell ⟨nb, j, none⟩ (.int .i64 u)).setCell ⟨nb, 16 + j, none⟩ (.bool true)) := (hCn.setCell (fun h => absurd h (show ¬ nb < w.heap.size by omega)) _).setCell (fun h => absurd h (show ¬ nb < w.heap.size by omega)) _
              have hB6 : ((w5.setCell ⟨nb, j, none⟩ (.int .i64 u)).setCell ⟨nb, 16 + j, none⟩ (.bool true)).cell? ⟨w.heap.size, 1, none⟩ = some (.int .i64 t) := by
                rw [cell_set_other (by show w.heap.size ≠ nb; omega), cell_set_other (by show w.heap.size ≠ nb; omega)]; exact hBn
              clear hXn hKn hCn hBn hK6 p1 p2 p3 p4 hc6
              generalize (w5.setCell ⟨nb, j, none⟩ (.int .i64 u)).setCell ⟨nb, 16 + j, none⟩ (.bool true) = w6 at *
              go_roundw
              case rel => exact ⟨j + 1, by omega, by go_num, hC6, hB6, hK7, hX6⟩
              case measure => simp [intOf]; omega
          · have hj16 : j = 16 := by omega
            subst hj16
            clear hlt hj
            have hK5 : Blk wr nb 88 33 (instCell (made st t.toNat)) := hKr.congr (fun i hi => half_done st _ i hi)
            clear hKr hX4 hB4 hC4 hK4
            have e1 : wr.cell? ⟨s, 0, none⟩ = some vi := hXr.blk.cell (by omega)
            have f1 := hXr.blk.free 0
            have hown := hXr.insts
            obtain ⟨i0, hi, hz0, hz1, hz2⟩ := info_parts Try.info88z
            have hrl : st.insts.length + 1 ≤ maxLen := by unfold maxLen; omega
            have HI := Lib.hid hi; have HZ0 := Lib.hid hz0; have HZ1 := Lib.hid hz1; have HZ2 := Lib.hid hz2
            clear hi hz0 hz1 hz2
            have hra : wr.drew.rangeAt nb 0 (instCells (made st t.toNat)) := fun j v hv => by
              have hj : j < 33 := by
                have := (List.getElem?_eq_some_iff.1 hv).1
                rw [length_instCells] at this; exact this
              rw [instCells_at _ _ hj] at hv
              rw [Nat.zero_add, World.cell?_drew, hK5.cell hj]; exact hv
            have HLD : loadRes 88 wr.drew (.pointer (some ⟨nb, 0, none⟩)) = .ok (.value (.agg (instCells (made st t.toNat)).toArray)) wr.drew := loadRes_range 88 _ _ _ _ _ hra Try.underlying88 rfl (by rw [length_instCells]; exact Try.info88)
            have hnews : ∀ j u, (instCells (made st t.toNat))[j]? = some u → (wr.alloc (.cells (instCells (made st t.toNat)).toArray 88)).drew.cell? ((⟨wr.heap.size, 0, none⟩ : Addr).add j) = some u := fun j u hj => by
              rw [World.cell?_drew]
              have ha0 : (⟨wr.heap.size, 0, none⟩ : Addr).add j = ⟨wr.heap.size, j, none⟩ := by
                cases j with
                | zero => rfl
                | succ j => simp [Addr.add]
              rw [ha0, World.cell?_alloc_new]
              simpa using hj
            have HN := Lib.hid hnews; clear hnews
            have HO : Hid ((wr.alloc (.cells (instCells (made st t.toNat)).toArray 88)).drew.ownsRow 0 88 33 vi st.insts.length (st.insts.flatMap instCells)) := (hown.alloc _).drew
            clear hown hra
            have hs3 : s < wr.heap.size := hXr.blk.lt
            have hb3 : w.heap.size < wr.heap.size := World.block_lt_of_cell? wr _ hBr
            have HSR : Hid (some s ≠ vi.ownBlock) := fun e => hXr.si e.symm
            have K0 : Hid ((wr.alloc (.cells (instCells (made st t.toNat)).toArray 88)).drew.cell? ⟨s, 0, none⟩ = some vi) := by
              show _ = _
              rw [World.cell?_drew, World.cell?_alloc_lt _ _ _ hs3]; exact e1
            have K1 : Hid ((wr.alloc (.cells (instCells (made st t.toNat)).toArray 88)).drew.frozen? ⟨s, 0, none⟩ = false) := by
              show _ = _
              rw [World.frozen?_drew, World.frozen?_alloc_past _ _ _ hs3]; exact f1
            clear hm HVI HCL 
            go_wp2
            go_region_law (first | (refine step_append_lies _ rfl _ _ 65 rfl 0 88 i0 (.agg zero88) 33 152 Try.underlying65 HI.out HZ0.out HZ1.out HZ2.out rfl (by decide) vi st.insts.length (st.insts.flatMap instCells) rfl HO.out ⟨wr.heap.size, 0, none⟩ 1 1 (instCells (made st t.toNat)) rfl (by rw [length_instCells]) HN.out (oneCell_instCells _) (by decide) hrl (by omega) (Nat.zero_le _) (wr.heap.size + 1) (by simp) ?_; intro g5 cap5 w4' hown4 hg4 hgb4 hlt4; have HGB := Lib.hid hgb4; have HOWN := Lib.hid hown4; clear hgb4 hown4; have k1 : w4'.cell? ⟨s, 0, none⟩ = some vi := (hg4.cell_far ⟨s, 0, none⟩ (by simp; omega) HSR.out).trans K0.out; have k2 : w4'.frozen? ⟨s, 0, none⟩ = false := (hg4.frozen_far ⟨s, 0, none⟩ (by simp; omega) HSR.out).trans K1.out))
            all_goals
              have hX5 := hXr.new (((Chg.refl _ wr).alloc (.cells (instCells (made st t.toNat)).toArray 88)).drew)
              have hX6 : RepX (w4'.setCell ⟨s, 0, none⟩ (.slice (some ⟨g5, 0, none⟩) (st.insts.length + 1) cap5)) s (.slice (some ⟨g5, 0, none⟩) (st.insts.length + 1) cap5) m vr va vo
                  { st.setTx t.toNat { st.txs t.toNat with over := true, comm := true } with insts := st.insts ++ [made st t.toNat] } := hX5.setInsts hg4 HOWN.out HGB.out (by simp) rfl
              have hC6 : Chg F w (w4'.setCell ⟨s, 0, none⟩ (.slice (some ⟨g5, 0, none⟩) (st.insts.length + 1) cap5)) :=
                (((hCr.alloc (.cells (instCells (made st t.toNat)).toArray 88)).drew).grown hg4 (fun k hk _ => (HF.out k).2 (.inr (.inr (.inl hk))))).setCell (fun _ => (HF.out s).2 (.inl rfl)) _
              have hF6 : Hid (∀ k, foot s (.slice (some ⟨g5, 0, none⟩) (st.insts.length + 1) cap5) m vr k → F k ∨ w.heap.size ≤ k) := by
                rintro k (rfl | rfl | hk | hk)
                · exact .inl ((HF.out _).2 (.inl rfl))
                · exact .inl ((HF.out _).2 (.inr (.inl rfl)))
                · simp [Value.ownBlock] at hk
                  subst hk
                  rcases HGB.out with h | h
                  · exact .inl ((HF.out _).2 (.inr (.inr (.inl h))))
                  · exact .inr (by rw [h]; exact Nat.le_trans hCr.size (Nat.le_succ _))
                · exact .inl ((HF.out _).2 (.inr (.inr (.inr hk))))
              have hL6 := last_rep hX6
              have e6 : (((st.insts ++ [made st t.toNat]).length : Nat) : Int) - 1 = (st.insts.length : Int) := by simp
              rw [e6] at hL6
              clear hX5 hXr hCr hg4 k1 k2 K0 K1 HSR HO HN HGB HOWN e1 f1 hrl HI HZ0 HZ1 HZ2 e6
              generalize w4'.setCell ⟨s, 0, none⟩ (.slice (some ⟨g5, 0, none⟩) (st.insts.length + 1) cap5) = w6 at *
              go_wp2_with ((with_reducible refine hL6.mono ?_); rintro e w' ⟨rfl, rfl⟩)
              go_ret
              rw [ha.out]
              exact ⟨rfl, _, ⟨_, m, vr, hX6, fun k => Iff.rfl⟩, hC6, hF6.out⟩
end
end Go.Proofs.Yteaeflmglppcdaa
