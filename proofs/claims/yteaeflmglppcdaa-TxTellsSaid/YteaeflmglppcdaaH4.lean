/- The contracts of tx.Alone. -/
import Derived.Test.YteaeflmglppcdaaF2
import Derived.Test.YteaeflmglppcdaaG0
import Derived.Test.YteaeflmglppcdaaH1
import Derived.Test.YteaeflmglppcdaaH3
import Derived.Maps.AppendAt
import Derived.Maps.OwnIn
namespace Go.Proofs.Yteaeflmglppcdaa
open Go.RowKit Tx
attribute [local go_sem] Oper.semAt_some

/-- The script of committed transactions, one behind the other, in an order. -/
def Tx.behind_ (ops : List Tx.Op) (l : List Ans) (order : List Int) : List Tx.Op := order.flatMap (own ops l)
def Tx.alone (ops : List Tx.Op) : List Tx.Op := behind_ ops (Tx.run St.zero ops).1 (serial (Tx.run St.zero ops).2)

theorem length_parts (f : Int → Nat) (L : List Int) (n : Nat) : ((List.range n).flatMap fun i => L.filter fun r => decide (f r = i)).length = (L.filter fun r => decide (f r < n)).length := by
  induction n with
  | zero =>
    have : (L.filter fun r => decide (f r < 0)) = [] := List.filter_eq_nil_iff.2 (fun r _ => by simp)
    rw [this]; rfl
  | succ n ih =>
    rw [List.range_succ, List.flatMap_append, List.length_append, ih]
    simp only [List.flatMap_cons, List.flatMap_nil, List.append_nil]
    clear ih
    induction L with
    | nil => rfl
    | cons r L ih =>
      have h3 : f r < n ∨ f r = n ∨ n + 1 ≤ f r := by omega
      rcases h3 with h | h | h
      · have h1 : ¬ f r = n := by omega
        have h2 : f r < n + 1 := by omega
        simp only [List.filter_cons, h, h1, h2, decide_true, decide_false, if_true, List.length_cons, Bool.false_eq_true, if_false]
        omega
      · have h1 : ¬ f r < n := by omega
        have h2 : f r < n + 1 := by omega
        simp only [List.filter_cons, h, h1, h2, decide_true, decide_false, if_true, List.length_cons, Bool.false_eq_true, if_false]
        simp
        omega
      · have h0 : ¬ f r < n := by omega
        have h1 : ¬ f r = n := by omega
        have h2 : ¬ f r < n + 1 := by omega
        simp only [List.filter_cons, h0, h1, h2, decide_false, Bool.false_eq_true, if_false]
        omega
theorem length_serial2 (st : St) : (serial st).length ≤ st.insts.length + st.readers.length := by
  have key : ∀ n, ((List.range n).flatMap (serialAt st)).length ≤ n + ((List.range n).flatMap fun i => st.readers.filter fun r => decide ((st.txs r.toNat).inst = i)).length := by
    intro n
    induction n with
    | zero => simp
    | succ n ih =>
      rw [List.range_succ, List.flatMap_append, List.flatMap_append, List.length_append, List.length_append]
      simp only [List.flatMap_cons, List.flatMap_nil, List.append_nil]
      have : (serialAt st n).length ≤ 1 + (st.readers.filter fun r => decide ((st.txs r.toNat).inst = n)).length := by
        unfold serialAt readersOf
        rw [List.length_append]
        split <;> simp
      omega
  have h1 := key st.insts.length
  rw [length_parts] at h1
  have h2 := List.length_filter_le (fun r => decide ((st.txs r.toNat).inst < st.insts.length)) st.readers
  unfold serial
  omega
theorem length_own (ops : List Tx.Op) (l : List Ans) (t : Int) : (own ops l t).length ≤ ops.length := by
  have := length_own1 t (ops.zip l)
  rw [List.length_zip] at this
  unfold own
  omega
theorem length_behind (ops : List Tx.Op) (l : List Ans) (order : List Int) : (behind_ ops l order).length ≤ order.length * ops.length := by
  unfold behind_
  induction order with
  | nil => simp
  | cons t r ih =>
    rw [List.flatMap_cons, List.length_append, List.length_cons, Nat.add_mul]
    have := length_own ops l t
    omega
theorem oneCell_ops (l : List Tx.Op) : ∀ u ∈ opRow l, u.oneCell' = true := by
  intro u hu
  unfold opRow at hu
  rw [List.mem_flatMap] at hu
  obtain ⟨o, _, h⟩ := hu
  simp only [List.mem_cons, List.not_mem_nil, or_false] at h
  rcases h with rfl | rfl | rfl | rfl <;> rfl
theorem opRow_append (a b : List Tx.Op) : opRow (a ++ b) = opRow a ++ opRow b := by simp [opRow]
theorem ans_shape {w : World} {va : Value} {n : Nat} {l : List Ans} (h : w.ownsRow 0 49 2 va n (ansRow l)) (hl : l.length = n) :
    ∃ aa ga ca, va = .slice aa n ca ∧ (0 < n → aa = some ⟨ga, 0, none⟩ ∧ ga < w.heap.size) ∧ ∀ i x, l[i]? = some x → w.cell? ⟨ga, i * 2, none⟩ = some (.int .i64 x.e) := by
  rcases Nat.eq_zero_or_pos n with h0 | h0
  · obtain ⟨a, c, rfl⟩ := row_shape h
    refine ⟨a, 0, c, rfl, fun h => by omega, fun i x hx => ?_⟩
    have := (List.getElem?_eq_some_iff.1 hx).1
    omega
  · obtain ⟨g, cap, rfl, _, hg⟩ := h.form h0
    refine ⟨_, g, cap, rfl, fun _ => ⟨rfl, hg⟩, fun i x hx => ?_⟩
    have hi := (List.getElem?_eq_some_iff.1 hx).1
    rw [World.ownsRow.cellAt (h := h) (i * 2) (by omega)]
    have h2 := flatMap_at ansCells 2 (fun _ => rfl) l i 0 ⟨0, 0⟩ hi (by omega)
    have h3 : l.getD i ⟨0, 0⟩ = x := by rw [List.getD_eq_getElem?_getD, hx]; rfl
    rw [h3] at h2
    exact h2
theorem cells_own (B Bx : Nat) (o : Obj) (ho : o.isCells = true) : OwnFrom B (fun (_ : Unit) W => W.heap[Bx]? = some o) := fun _ X Y row hs hg hrow =>
  (hg.block Bx (Array.getElem?_eq_some_iff.1 hs).1 (fun e => by
    obtain ⟨_, o', h1, h2⟩ := hrow Bx e.symm
    rw [show X.heap[Bx]? = some o from hs] at h1
    cases h1
    rw [ho] at h2; cases h2)).trans hs
theorem chg_own {β : Type} (B : Nat) (S : Nat → Prop) (w0 : World) (hB : w0.heap.size ≤ B) : OwnFrom B (fun (_ : β) W => Chg S w0 W) := fun _ _ _ row hs hg hrow =>
  hs.grown hg (fun k hk hlt => by have := (hrow k hk).1; omega)
theorem behind_take (ops : List Tx.Op) (l : List Ans) (sr : List Int) (i : Nat) (t : Int) (h : sr[i]? = some t) : behind_ ops l (sr.take (i + 1)) = behind_ ops l (sr.take i) ++ own ops l t := by
  have hlt := (List.getElem?_eq_some_iff.1 h).1
  unfold behind_
  rw [List.take_succ_eq_append_getElem hlt, List.flatMap_append, (List.getElem?_eq_some_iff.1 h).2]
  simp
section
variable {w : World}
set_option maxRecDepth 100000 in
set_option maxHeartbeats 1000000 in
theorem alone_no (a : Option Addr) (n c : Nat) (hl : 200 < n) (h63 : n ≤ maxLen) :
    Calls Try.prog 20 #[.slice a n c] w fun e w' => e = .returned (.tuple #[.slice none 0 0, .int .i64 3]) ∧ New w w' := by
  have hmf : ∀ (fn : Fn) (first cap : Array Value) (w : World), (Instr.makeFunc fn first cap).run Try.prog w = .ok (.func fn first cap) w := fun _ _ _ _ => rfl
  have HR : Hid (∀ w', Calls Try.prog 34 #[.slice a n c] w' fun e w2 => e = .panicked (stopV 3) ∧ w2 = w') := fun w' => ran_no a n c hl h63
  go_enter_defers Try.func20, Try.ntmps20
  go_wp2_with ((refine (HR.out _).mono ?_); rintro e w ⟨rfl, rfl⟩)
  refine door20_panic 3 w.heap.size _ _ _ _ rfl rfl rfl (by rw [World.cell?_alloc_new]; rfl) (by simp [go_sem]) ⟨rfl, ?_⟩
  exact (((Chg.refl _ w).alloc _).setCell (fun h => absurd h (Nat.lt_irrefl _)) _).alloc _
set_option maxRecDepth 100000 in
set_option maxHeartbeats 1000000 in
theorem alone_yes (a : Option Addr) (b off c : Nat) (ops : List Tx.Op) (hO : OpsAt w a b off ops) (hl : ops.length ≤ 200) :
    Calls Try.prog 20 #[.slice a ops.length c] w fun e w' => ∃ v, e = .returned (.tuple #[v, .int .i64 0]) ∧ New w w' ∧
      w'.ownsRow 0 47 4 v (alone ops).length (opRow (alone ops)) ∧ ∀ g, v.ownBlock = some g → w.heap.size ≤ g := by
  have hmf : ∀ (fn : Fn) (first cap : Array Value) (w : World), (Instr.makeFunc fn first cap).run Try.prog w = .ok (.func fn first cap) w := fun _ _ _ _ => rfl
  have HR : Hid (∀ w', New w w' → Calls Try.prog 34 #[.slice a ops.length c] w' (RanPost w' ops (.slice a ops.length c))) := fun w' hn => ran_any a b off c ops (hO.kept hn (fun x => x)) hl
  have hG : Good (Tx.run St.zero ops).2 (0 + ops.length) := Good.zero.run
  have hT : Tidy (Tx.run St.zero ops).2 := Tidy.zero.run
  have h1 := hG.insts
  have h2 := hG.readers
  have hls := length_serial2 (Tx.run St.zero ops).2
  have HLR := Lib.hid (length_run ops St.zero)
  have HO := Lib.hid hO
  unfold Tx.alone
  clear hO hG
  generalize hr : Tx.run St.zero ops = r at *
  generalize hsr : serial r.2 = sr at *
  refine calls_of_wp_marks Try.func20 rfl ?_
  simp only [Try.ntmps20, List.size_toArray, List.length_cons, List.length_nil, Nat.reduceAdd, Nat.reduceSub, Array.replicate_succ, Array.replicate_zero, List.push_toArray, List.append_toArray, List.nil_append, List.cons_append]
  go_wp2_with (first
    | ((refine (HR.out _ ((Chg.refl _ w).alloc _)).mono ?_); unfold RanPost; rw [hr]; rintro e w4 ⟨s, va, F4, rfl, ⟨vi, m, vr, hX4, hF4⟩, hown4, hN4, hFF4, hg4⟩; have hSE := Lib.hid (serial_any hX4 hT (by omega) (by omega)); have p0 : w4.cell? ⟨w.heap.size, 0, none⟩ = some (.int .i64 0) := (hN4.cell (a := ⟨w.heap.size, 0, none⟩) (by simp) (fun x => x)).trans (World.cell?_alloc_new w _ _ _); have p1 : w4.frozen? ⟨w.heap.size, 0, none⟩ = false := (hN4.frozen (a := ⟨w.heap.size, 0, none⟩) (by simp) (fun x => x)).trans (by simp [go_sem]); have hs4 : w.heap.size < w4.heap.size := World.block_lt_of_cell? w4 _ p0)
    | ((refine hSE.out.mono ?_); rintro e w5 ⟨v, rfl, hN5, hown5, hg5⟩; rw [hsr] at hown5; obtain ⟨a5, c5, rfl⟩ := row_shape hown5))
  have hN05 : New w w5 := (((Chg.refl _ w).alloc _).trans hN4).trans hN5
  have hX5 := hX4.new hN5
  have hown45 := hN5.ownsRow hown4 (fun _ _ x => x)
  obtain ⟨aa, ga, ca, rfl, haa, hac⟩ := ans_shape hown45 HLR.out
  have hsE : w.heap.size < w5.heap.size := Nat.lt_of_lt_of_le hs4 hN5.size
  have q0 : w5.cell? ⟨w.heap.size, 0, none⟩ = some (.int .i64 0) := (hN5.cell (a := ⟨w.heap.size, 0, none⟩) hs4 (fun x => x)).trans p0
  have q1 : w5.frozen? ⟨w.heap.size, 0, none⟩ = false := (hN5.frozen (a := ⟨w.heap.size, 0, none⟩) hs4 (fun x => x)).trans p1
  have hslt : s < w5.heap.size := hX5.blk.lt
  have HST : Hid (∀ W, New w5 W → ∀ b1 b2 t, W.cell? ⟨b1, 0, none⟩ = some (.pointer (some ⟨s, 0, none⟩)) → W.cell? ⟨b2, 0, none⟩ = some (.int .i64 t) → ItW W b1 b2 s t a b off c ops aa ga ca r.1) :=
    fun W hW b1 b2 t h1 h2 =>
      { c1 := h1, c2 := h2
        c3 := (hW.cell (a := ⟨s, 339, none⟩) hslt (fun x => x)).trans (hX5.blk.cell (i := 339) (by omega))
        c4 := (hW.cell (a := ⟨s, 340, none⟩) hslt (fun x => x)).trans (hX5.blk.cell (i := 340) (by omega))
        at_ := (HO.out.kept hN05 (fun x => x)).kept hW (fun x => x)
        len := HLR.out
        aptr := fun h => (haa (List.length_pos_iff.2 h)).1
        acell := fun i x hx => (hW.cell (a := ⟨ga, i * 2, none⟩) (World.block_lt_of_cell? w5 _ (hac i x hx)) (fun x => x)).trans (hac i x hx) }
  have hnil : 0 < sr.length → ops ≠ [] := fun h e => by
    subst e
    have : r = ([], St.zero) := hr.symm
    rw [this] at hsr
    have h0 : serial St.zero = [] := by decide +kernel
    rw [← hsr] at h
    simp [h0] at h
  have HB : Hid (0 < sr.length → b < w5.heap.size ∧ ga < w5.heap.size) := fun h => ⟨(HO.out.kept hN05 (fun x => x)).lt (hnil h), (haa (List.length_pos_iff.2 (hnil h))).2⟩
  have hsl : (sr.length : Int) ≤ 1000 := by omega
  have hsl2 : sr.length ≤ 401 := by omega
  have HLB : Hid (∀ i, (behind_ ops r.1 (sr.take i)).length ≤ 80200) := fun i => by
    have h1 := length_behind ops r.1 (sr.take i)
    have h2 : (sr.take i).length ≤ 401 := by rw [List.length_take]; omega
    have h3 : (sr.take i).length * ops.length ≤ 401 * 200 := Nat.mul_le_mul h2 hl
    omega
  have HSR := Lib.hid hown5
  clear hown5 hac haa hown45 hX5 hX4 hown4 hFF4 hg4 hF4 hSE p0 p1 HR hnil h1 h2 hls hT
  refine wp_loop (fun a' wr => ∃ (i : Nat) (Ds : List Nat) (u5 u7 u8 u17 u18 u19 u20 u21 u22 u28 u29 u30 u31 u32 : Value),
      a' = { tmps := #[.slice a ops.length c, undef, .slice none 0 0, .pointer (some ⟨w.heap.size, 0, none⟩), .pointer (some ⟨s, 0, none⟩), u5, undef, u7, u8, undef, .func (.func 45) #[] #[.pointer (some ⟨w.heap.size, 0, none⟩)], .slice a ops.length c, .pointer (some ⟨s, 0, none⟩), .pointer (some ⟨s, 0, none⟩), .slice a5 sr.length c5, .int .i64 sr.length, .int .i64 i, u17, u18, u19, u20, u21, u22, undef, undef, undef, undef, undef, u28, u29, u30, u31, u32, undef],
             defers := Ds.map mark ++ [{ target := Target.fn (Fn.func 45) #[.pointer (some ⟨w.heap.size, 0, none⟩)], args := #[] }] } ∧
      i ≤ sr.length ∧ New w5 wr ∧ wr.ownsRow 0 47 4 u5 (behind_ ops r.1 (sr.take i)).length (opRow (behind_ ops r.1 (sr.take i))) ∧ (∀ g, u5.ownBlock = some g → w5.heap.size ≤ g) ∧ (∀ D ∈ Ds, w5.heap.size ≤ D ∧ wr.heap[D]? = some (.deferred (some []))) ∧ Ds.Nodup)
    (fun a' _ => sr.length - (intOf (a'.tmps.getD 16 undef)).toNat)
    ⟨0, [], _, _, _, _, _, _, _, _, _, _, _, _, _, _, rfl, by omega, Chg.refl _ _, World.ownsRow_nil _ _ _ _, fun g hg => by simp [Value.ownBlock] at hg, by simp, by simp⟩ ?_
  rintro _ wr ⟨i, Ds, u5, u7, u8, u17, u18, u19, u20, u21, u22, u28, u29, u30, u31, u32, rfl, hi, hN, hown, hge, hDs, hnd⟩
  by_cases hlt : i < sr.length
  · obtain ⟨t, ht⟩ : ∃ t, sr[i]? = some t := ⟨_, List.getElem?_eq_getElem hlt⟩
    obtain ⟨hbl, hgl⟩ := HB.out (by omega)
    obtain ⟨a6, c6, rfl⟩ := row_shape hown
    have b3 : (0 : Int) ≤ (i : Int) := by omega
    have b4 : (i : Int) < (sr.length : Int) := by omega
    obtain ⟨g5, cap5, hv5, _, _⟩ := HSR.out.form (by omega)
    obtain ⟨rfl, rfl⟩ : a5 = some ⟨g5, 0, none⟩ ∧ c5 = cap5 := by simpa using hv5
    have x0 : wr.cell? ⟨g5, i, none⟩ = some (.int .i64 t) := by
      have := World.ownsRow.cellAt (h := hN.ownsRow HSR.out (fun _ _ x => x)) i (by omega)
      rw [this]
      simp [intRow, ht]
    have HN := Lib.hid hN; have HOW := Lib.hid hown; have HDS := Lib.hid hDs; have HBT := Lib.hid (behind_take ops r.1 sr i t ht)
    have hNs := hN.size
    clear hN hown hDs hv5
    go_wp2_with ((refine (of_any s t).mono ?_); rintro e w7 ⟨rfl, rfl⟩)
    have c8 := ((Boxed.new wr 22 (.slice none 0 0)).alloc (.cells #[.pointer (some ⟨s, 0, none⟩)] 73)).alloc (.cells #[.int .i64 t] 3)
    have cb1 := ((Boxed.new (wr.alloc (.cells #[.slice none 0 0] 22)) 73 (.pointer (some ⟨s, 0, none⟩))).alloc (.cells #[.int .i64 t] 3)).cell
    have cb2 := (Boxed.new ((wr.alloc (.cells #[.slice none 0 0] 22)).alloc (.cells #[.pointer (some ⟨s, 0, none⟩)] 73)) 3 (.int .i64 t)).cell
    have hNW : New wr (((wr.alloc (.cells #[.slice none 0 0] 22)).alloc (.cells #[.pointer (some ⟨s, 0, none⟩)] 73)).alloc (.cells #[.int .i64 t] 3)) := (((Chg.refl _ wr).alloc _).alloc _).alloc _
    have hsz : (((wr.alloc (.cells #[.slice none 0 0] 22)).alloc (.cells #[.pointer (some ⟨s, 0, none⟩)] 73)).alloc (.cells #[.int .i64 t] 3)).heap.size = wr.heap.size + 1 + 1 + 1 := by simp
    simp only [World.size_alloc] at cb1 cb2
    have HIT := HST.out _ (HN.out.trans hNW) _ _ t cb1 cb2
    clear cb1 cb2
    generalize ((wr.alloc (.cells #[.slice none 0 0] 22)).alloc (.cells #[.pointer (some ⟨s, 0, none⟩)] 73)).alloc (.cells #[.int .i64 t] 3) = W0 at *
    have HSTOP := it_stops (3 - 1) (by omega) hl HIT
    obtain ⟨i0, hi0, hz0, hz1, hz2⟩ := info_parts Try.info47
    refine wpIn_wide.1 (wpIn_rangeFunc_ownH (n := 3) rfl (by omega) (gf := 52) (lb := #[.pointer (some ⟨wr.heap.size + 1, 0, none⟩), .pointer (some ⟨wr.heap.size + 1 + 1, 0, none⟩)]) rfl trivial (enters_of Try.func52 (by kernel_rfl) rfl)
      HSTOP (fun h k => h.trans k) (fun W k o o' hk hko _ _ => (Chg.refl _ W).grown (grownBy_putObj' W k o') (fun j hj _ => by cases hj; rintro (h | h | h | h | h) <;> omega)) (Below.refl _ _) (fun _ => rfl)
      (fun pre W => (∃ v, Boxed W wr.heap.size 22 v ∧ W.ownsRow 0 47 4 v pre.length (opRow pre) ∧ ∀ g, v.ownBlock = some g → W0.heap.size ≤ g) ∧ Chg (fun k => k = wr.heap.size) W0 W)
      (fun _ _ _ => False)
      (OwnFrom.and ((holdsRow_own 0 wr.heap.size 22 47 4 (fun pre => pre.length) opRow (fun _ v => ∀ g, v.ownBlock = some g → W0.heap.size ≤ g)).from _) (chg_own _ _ _ (Nat.le_refl _)))
      (fun _ _ _ _ _ hs _ _ => hs)
      ⟨⟨_, c8, World.ownsRow_nil _ _ _ _, fun g hg => by simp [Value.ownBlock] at hg⟩, Chg.refl _ _⟩
      (fun x a' W => ∃ Bx, W0.heap.size ≤ Bx ∧ W.heap[Bx]? = some (.cells #[.int .i64 x.d, .int .i64 x.t, .int .i64 x.k, .int .i64 x.n] 47) ∧
        a' = { tmps := #[.slice a ops.length c, undef, .slice none 0 0, .pointer (some ⟨w.heap.size, 0, none⟩), .pointer (some ⟨s, 0, none⟩), (.slice a6 (behind_ ops r.1 (sr.take i)).length c6), undef, .int .i64 t, .pointer (some ⟨wr.heap.size, 0, none⟩), .pointer (some ⟨Bx, 0, none⟩), .func (.func 45) #[] #[.pointer (some ⟨w.heap.size, 0, none⟩)], .slice a ops.length c, .pointer (some ⟨s, 0, none⟩), .pointer (some ⟨s, 0, none⟩), .slice (some ⟨g5, 0, none⟩) sr.length c5, .int .i64 sr.length, .int .i64 i, .bool true, .pointer (some ⟨g5, i, none⟩), .int .i64 t, .pointer (some ⟨s, 0, none⟩), .int .i64 t, .func (.func 52) #[] #[.pointer (some ⟨wr.heap.size + 1, 0, none⟩), .pointer (some ⟨wr.heap.size + 1 + 1, 0, none⟩)], opVal x, undef, undef, undef, undef, u28, u29, u30, u31, u32, undef], defers := [] })
      (fun x a' s X Y row hs hg hrow => by
        obtain ⟨Bx, h1, h2, h3⟩ := hs
        exact ⟨Bx, h1, cells_own _ Bx _ rfl () X Y row h2 hg hrow, h3⟩) ?assign ?body ?done ?stop)
    case assign =>
      rintro l0 pre x W K ⟨⟨v, hB, hrow, hge0⟩, hC⟩ hK
      unfold opVal at hK ⊢
      gi_wp2
      refine hK _ _ ((KeepsOthers.alloc W _).from _) ((Chg.refl _ W).alloc _) ⟨⟨v, hB.alloc _, hrow.alloc _, hge0⟩, hC.alloc _⟩ ⟨W.heap.size, hC.size, heap_alloc_new W _, rfl⟩
    case body =>
      rintro l0 pre x a' W hll _ ⟨⟨v, hB, hrow, hge0⟩, hC⟩ ⟨Bx, hBx, hbx, rfl⟩ hlen
      have y0 : W.cell? ⟨Bx, 0, none⟩ = some (.int .i64 x.d) := by simp [World.cell?, hbx]
      have y1 : W.cell? ⟨Bx, 1, none⟩ = some (.int .i64 x.t) := by simp [World.cell?, hbx]
      have y2 : W.cell? ⟨Bx, 2, none⟩ = some (.int .i64 x.k) := by simp [World.cell?, hbx]
      have y3 : W.cell? ⟨Bx, 3, none⟩ = some (.int .i64 x.n) := by simp [World.cell?, hbx]
      have y4 := hB.cell
      have hml : pre.length + 1 ≤ maxLen := by unfold maxLen; omega
      gi_wp2_with (gi_at_builtin; go_loud (refine wpListIn_append_own_at _ rfl _ _ 22 rfl 0 47 i0 zero47 4 32 Try.underlying22 hi0 hz0 hz1 hz2 rfl (by decide) v pre.length (opRow pre) rfl (hrow.alloc _) ⟨W.heap.size, 0, none⟩ 1 1 [.int .i64 x.d, .int .i64 x.t, .int .i64 x.k, .int .i64 x.n] rfl rfl (news_alloc W #[.int .i64 x.d, .int .i64 x.t, .int .i64 x.k, .int .i64 x.n] _) (oneCell_ops [x]) hml (by omega) (Nat.zero_le _) ?_); intro v' w1 hown' hgrow _ hat; obtain ⟨g6, cap6, rfl⟩ := ownsRow_succ hown'; obtain ⟨hv1, hv2, hr2, hk2, _⟩ := hB.appended (by decide) hrow (Nat.zero_le _) (Nat.zero_le _) hown' hgrow; have hc1 := hv1.cell; have hf1 := hv1.frozen)
      have hwr : wr.heap.size < W0.heap.size := by omega
      have hWs : W0.heap.size ≤ W.heap.size := hC.size
      have hg6 : W0.heap.size ≤ g6 := by
        rcases hat with h | h
        · exact hge0 g6 (by rw [← h]; rfl)
        · simp [Value.ownBlock] at h; omega
      refine ⟨hk2.from _, ?_, ⟨⟨_, hv2, by rw [opRow_append, List.length_append]; exact hr2, fun g hg => by simp [Value.ownBlock] at hg; omega⟩, ?_⟩⟩
      · refine (((Chg.refl _ W).alloc _).grown hgrow (fun k hk hlt => ?_)).setCell (fun _ => ?_) _
        · have := hge0 k hk
          rintro (h | h | h | h | h) <;> omega
        · rintro (h | h | h | h | h) <;> simp at h <;> omega
      · exact ((hC.alloc _).grown hgrow (fun k hk hlt => by have := hge0 k hk; omega)).setCell (fun _ => rfl) _
    case done =>
      rintro D ys W hD rfl ⟨⟨v, hB, hrow, hge0⟩, hC⟩ hK
      obtain ⟨a7, c7, rfl⟩ := row_shape hrow
      have hWs : W0.heap.size ≤ W.heap.size := hC.size
      have hNWW : New wr W := hNW.then hC (fun i hi e => by omega)
      have hr5 := hNWW.ownsRow HOW.out (fun _ _ x => x)
      have hlb := HLB.out i
      have hlo := length_own ops r.1 t
      have HJ : Hid (∀ T, Calls Try.prog 47 #[.slice (some ⟨W.heap.size, 0, none⟩) 2 2] (W.alloc (.cells #[(.slice a6 (behind_ ops r.1 (sr.take i)).length c6), .slice a7 (own ops r.1 t).length c7] T)) fun e w' => ∃ v2, e = .returned v2 ∧ New (W.alloc (.cells #[(.slice a6 (behind_ ops r.1 (sr.take i)).length c6), .slice a7 (own ops r.1 t).length c7] T)) w' ∧
          w'.ownsRow 0 47 4 v2 ((behind_ ops r.1 (sr.take i)).length + (own ops r.1 t).length) (opRow (behind_ ops r.1 (sr.take i)) ++ opRow (own ops r.1 t)) ∧ ∀ g, v2.ownBlock = some g → (W.alloc (.cells #[(.slice a6 (behind_ ops r.1 (sr.take i)).length c6), .slice a7 (own ops r.1 t).length c7] T)).heap.size ≤ g) :=
        fun T => joined_two (World.cell?_alloc_new W _ _ _) (World.cell?_alloc_new W _ _ _) (hr5.alloc _) (hrow.alloc _) (oneCell_ops _) (oneCell_ops _) (by omega)
      have y8 := hB.cell
      have HK := Lib.hid hK
      clear hB hrow hr5 HIT HSTOP hi0 hz0 hz1 hz2 hK
      dsimp only
      go_wp2_with ((refine (HJ.out _).mono ?_); rintro e w8 ⟨v8, rfl, hN8, hown8, hge8⟩)
      have hN58 : New w5 w8 := ((HN.out.trans hNWW).alloc _).trans hN8
      have hNr8 : New wr w8 := (hNWW.alloc _).trans hN8
      have hDW : D < W.heap.size := (Array.getElem?_eq_some_iff.1 HK.out).1
      refine ⟨⟨i + 1, D :: Ds, _, _, _, _, _, _, _, _, _, _, _, _, _, _, rfl, by omega, hN58, ?_, fun g hg => ?_, ?_, ?_⟩, ?_⟩
      · rw [HBT.out, List.length_append, opRow_append]
        exact hown8
      · have h1 := hge8 g hg
        have h2 : W.heap.size ≤ (W.alloc (.cells #[.slice a6 (behind_ ops r.1 (sr.take i)).length c6, .slice a7 (own ops r.1 t).length c7] 22)).heap.size := by simp
        omega
      · intro E hE
        rcases List.mem_cons.1 hE with rfl | hE
        · exact ⟨by omega, ((((Chg.refl (fun _ => False) W).alloc _).trans hN8).block E hDW (fun x => x)).trans HK.out⟩
        · have h1 := HDS.out E hE
          exact ⟨h1.1, (hNr8.block E (Array.getElem?_eq_some_iff.1 h1.2).1 (fun x => x)).trans h1.2⟩
      · refine List.nodup_cons.2 ⟨fun hE => ?_, hnd⟩
        have h1 := (Array.getElem?_eq_some_iff.1 (HDS.out D hE).2).1
        omega
      · show sr.length - (intOf (.int .i64 ((i : Int) + 1))).toNat < sr.length - (intOf (.int .i64 (i : Int))).toNat
        simp [intOf]
        omega
    case stop =>
      rintro D cc pre W _ _ h _
      exact h.elim
  · obtain rfl : i = sr.length := by omega
    have e0 : wr.cell? ⟨w.heap.size, 0, none⟩ = some (.int .i64 0) := (hN.cell (a := ⟨w.heap.size, 0, none⟩) hsE (fun x => x)).trans q0
    have e1 : wr.frozen? ⟨w.heap.size, 0, none⟩ = false := (hN.frozen (a := ⟨w.heap.size, 0, none⟩) hsE (fun x => x)).trans q1
    rw [List.take_length] at hown
    have HOW := Lib.hid hown; have HDS := Lib.hid hDs; have HN := Lib.hid hN
    clear hown hDs hN
    go_wp2
    refine ⟨Ds, _, rfl, fun D hD => ?_, hnd, fun w2 hc => ?_⟩
    · have h1 := HDS.out D hD
      rw [Below.heap_setCell _ _ _ _ (show D ≠ w.heap.size by omega)]
      exact h1.2
    · have hS : Chg (fun k => k = w.heap.size) wr (wr.setCell ⟨w.heap.size, 0, none⟩ (.int .i64 0)) := (Chg.refl (fun k => k = w.heap.size) wr).setCell (fun _ => rfl) _
      have hND : w.heap.size ∉ Ds := fun h => by have := (HDS.out _ h).1; omega
      have hsr2 : w.heap.size < wr.heap.size := Nat.lt_of_lt_of_le hsE HN.out.size
      refine door20_ret w.heap.size { tmps := _, defers := [_] } w2 u5 (.int .i64 0) rfl rfl rfl ?_ ⟨u5, rfl, ?_, ?_, ?_⟩
      · rw [hc.cell (a := ⟨w.heap.size, 0, none⟩) (by simpa using hsr2) hND]
        exact World.cell?_setCell_same _ _ _ (by rw [e0])
      · refine Chg.then (S' := fun k => k ∈ Ds) ((hN05.trans HN.out).setCell (fun h => absurd h (Nat.lt_irrefl _)) _) hc (fun j hj hD => ?_)
        have := (HDS.out j hD).1
        have := hN05.size
        omega
      · refine hc.ownsRow (hS.ownsRow HOW.out (fun k hk e => by have := hge k hk; omega)) (fun k hk hD => ?_)
        rcases HOW.out.2 with ⟨rfl, _⟩ | ⟨g, cap, cur, rfl, _, hgc, _⟩
        · simp [Value.ownBlock] at hk
        · simp [Value.ownBlock] at hk
          subst hk
          have := (HDS.out _ hD).2
          rw [hgc] at this
          cases this
      · intro g hg
        have := hge g hg
        have := hN05.size
        omega
end
end Go.Proofs.Yteaeflmglppcdaa
