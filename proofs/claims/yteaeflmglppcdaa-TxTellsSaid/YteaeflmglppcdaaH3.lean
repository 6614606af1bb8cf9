/- The iterator over the operations of a transaction that were done: its contract. -/
import Derived.Test.YteaeflmglppcdaaH2
import Derived.Test.YteaeflmglppcdaaE0
import Derived.RangeFuncNested
import Derived.RangeFuncBound
import Derived.RangeFuncCalls
import Derived.RangeFuncLeaves
import Derived.Shelf.Abstract
import Derived.OwnWalkIn
import Derived.TacticsInMore
import Derived.LoopNIn
import Derived.LoopIn
import Derived.WalkMore
namespace Go.Proofs.Yteaeflmglppcdaa
open Go.RowKit Tx
attribute [local go_sem] Oper.semAt_some

theorem wpIn_scope_wide {n : Nat} {P : Program} {c : Code} {Q : Exit → Act → World → Prop} {a : Act} {w : World} (h : c.wpIn Fence.wide n P (Exit.noGoto Q) a w) : (Code.scope c).wpIn Fence.wide n P Q a w := wpIn_wide.2 (wp_scope_straight (wpIn_wide.1 h))
/-- The operations, of pairs with their answers, of a transaction, that were done. -/
def Tx.own1 (t : Int) (z : List (Tx.Op × Ans)) : List Tx.Op := (z.filter fun p => decide (p.1.t = t) && decide (p.2.e = 0)).map Prod.fst
def Tx.own (ops : List Tx.Op) (l : List Ans) (t : Int) : List Tx.Op := own1 t (ops.zip l)
def opVal (o : Tx.Op) : Value := .agg #[.int .i64 o.d, .int .i64 o.t, .int .i64 o.k, .int .i64 o.n]

/-- What the iterator reads. -/
structure ItW (W : World) (b1 b2 s : Nat) (t : Int) (ao : Option Addr) (bo off c : Nat) (ops : List Tx.Op) (aa : Option Addr) (ga ca : Nat) (l : List Ans) : Prop where
  c1 : W.cell? ⟨b1, 0, none⟩ = some (.pointer (some ⟨s, 0, none⟩))
  c2 : W.cell? ⟨b2, 0, none⟩ = some (.int .i64 t)
  c3 : W.cell? ⟨s, 339, none⟩ = some (.slice aa ops.length ca)
  c4 : W.cell? ⟨s, 340, none⟩ = some (.slice ao ops.length c)
  at_ : OpsAt W ao bo off ops
  len : l.length = ops.length
  aptr : ops ≠ [] → aa = some ⟨ga, 0, none⟩
  acell : ∀ i x, l[i]? = some x → W.cell? ⟨ga, i * 2, none⟩ = some (.int .i64 x.e)
/-- The blocks that it reads. -/
def ItR (b1 b2 s bo ga : Nat) (k : Nat) : Prop := k = b1 ∨ k = b2 ∨ k = s ∨ k = bo ∨ k = ga
theorem ItW.kept {W W' : World} {b1 b2 s : Nat} {t : Int} {ao : Option Addr} {bo off c : Nat} {ops : List Tx.Op} {aa : Option Addr} {ga ca : Nat} {l : List Ans} (h : ItW W b1 b2 s t ao bo off c ops aa ga ca l)
    (hc : Chg (fun k => ¬ ItR b1 b2 s bo ga k) W W') : ItW W' b1 b2 s t ao bo off c ops aa ga ca l where
  c1 := (hc.cell (a := ⟨b1, 0, none⟩) (World.block_lt_of_cell? W _ h.c1) (fun x => x (.inl rfl))).trans h.c1
  c2 := (hc.cell (a := ⟨b2, 0, none⟩) (World.block_lt_of_cell? W _ h.c2) (fun x => x (.inr (.inl rfl)))).trans h.c2
  c3 := (hc.cell (a := ⟨s, 339, none⟩) (World.block_lt_of_cell? W _ h.c3) (fun x => x (.inr (.inr (.inl rfl))))).trans h.c3
  c4 := (hc.cell (a := ⟨s, 340, none⟩) (World.block_lt_of_cell? W _ h.c4) (fun x => x (.inr (.inr (.inl rfl))))).trans h.c4
  at_ := h.at_.kept hc (fun x => x (.inr (.inr (.inr (.inl rfl)))))
  len := h.len
  aptr := h.aptr
  acell := fun i x hx => (hc.cell (a := ⟨ga, i * 2, none⟩) (World.block_lt_of_cell? W _ (h.acell i x hx)) (fun x => x (.inr (.inr (.inr (.inr rfl)))))).trans (h.acell i x hx)

theorem own1_take {t : Int} {z : List (Tx.Op × Ans)} {j : Nat} {p : Tx.Op × Ans} (h : z[j]? = some p) : own1 t (z.take (j + 1)) = own1 t (z.take j) ++ if p.1.t = t ∧ p.2.e = 0 then [p.1] else [] := by
  have hlt := (List.getElem?_eq_some_iff.1 h).1
  unfold own1
  rw [List.take_succ_eq_append_getElem hlt, List.filter_append, (List.getElem?_eq_some_iff.1 h).2, List.map_append]
  by_cases h1 : p.1.t = t <;> by_cases h2 : p.2.e = 0 <;> simp [h1, h2]
theorem length_own1 (t : Int) (z : List (Tx.Op × Ans)) : (own1 t z).length ≤ z.length := by
  unfold own1
  rw [List.length_map]
  exact List.length_filter_le _ _

set_option maxRecDepth 100000 in
set_option maxHeartbeats 2000000 in
theorem it_in (n l0 : Nat) (hn : 1 ≤ n) {b1 b2 s : Nat} {t : Int} {ao : Option Addr} {bo off c : Nat} {ops : List Tx.Op} {aa : Option Addr} {ga ca : Nat} {l : List Ans} (hol : ops.length ≤ 200) (J Jx : List Tx.Op → World → Prop)
    (B : Nat) (hJ : AbidesFrom B J)
    (hY : ∀ pre x W, J pre W → pre.length < ops.length → YieldAt Fence.wide (n - 1) Try.prog l0 #[opVal x] W fun e W' =>
      (e = .returned (.bool true) ∧ J (pre ++ [x]) W' ∧ Chg (fun k => ¬ ItR b1 b2 s bo ga k) W W') ∨ (e = .returned (.bool false) ∧ Jx (pre ++ [x]) W'))
    (W : World) (hW : ItW W b1 b2 s t ao bo off c ops aa ga ca l) (h0 : J [] W) :
    CallsIn Fence.wide n Try.prog 52 #[.func (.yield l0) #[] #[], .pointer (some ⟨b1, 0, none⟩), .pointer (some ⟨b2, 0, none⟩)] W fun e W' => (∃ v, e = .returned v) ∧
      ((∃ ys, ys = own ops l t ∧ J ys W') ∨ (∃ pre, True ∧ Jx pre W')) := by
  have hol2 : (ops.length : Int) ≤ 200 := by omega
  have d1 := hW.c1
  have d4 := hW.c4
  have hl := hW.len
  have HY := Lib.hid hY; have HJJ := Lib.hid hJ; have HW := Lib.hid hW; have H0 := Lib.hid h0
  clear hY hJ hW h0
  refine callsIn_of_wp Try.func52 rfl trivial ?_ rfl
  simp only [Try.ntmps52, List.size_toArray, List.length_cons, List.length_nil, Nat.reduceAdd, Nat.reduceSub, Array.replicate_succ, Array.replicate_zero, List.push_toArray, List.append_toArray, List.nil_append, List.cons_append]
  apply wpIn_scope_wide
  apply wpIn_seq
  apply wpIn_label
  gi_wp2
  gi_loopw [11] (fun v wr => ∃ j : Nat, j ≤ ops.length ∧ v = .int .i64 j ∧ ItW wr b1 b2 s t ao bo off c ops aa ga ca l ∧ J (own1 t ((ops.zip l).take j)) wr) (fun v _ => ops.length - (intOf v).toNat)
  case atStart => exact ⟨0, by omega, rfl, HW.out, H0.out⟩
  case round =>
    obtain ⟨j, hj, rfl, hI, hJs⟩ := hrel
    clear d1 d4
    by_cases hlt : j < ops.length
    · obtain ⟨o, ho⟩ : ∃ o, ops[j]? = some o := ⟨_, List.getElem?_eq_getElem hlt⟩
      obtain ⟨x, hx⟩ : ∃ x, l[j]? = some x := ⟨_, List.getElem?_eq_getElem (by omega)⟩
      have hp : (ops.zip l)[j]? = some (o, x) := by rw [List.getElem?_zip_eq_some]; exact ⟨ho, hx⟩
      have HT := Lib.hid (own1_take (t := t) hp)
      have hne : ops ≠ [] := fun e => by rw [e] at hlt; simp at hlt
      obtain rfl := hI.at_.ptr hne
      obtain rfl := hI.aptr hne
      have x0 : wr.cell? ⟨bo, off + j * 4, none⟩ = some (.int .i64 o.d) := hI.at_.cell j o ho 0 (by omega)
      have x1 : wr.cell? ⟨bo, off + j * 4 + 1, none⟩ = some (.int .i64 o.t) := hI.at_.cell j o ho 1 (by omega)
      have x2 : wr.cell? ⟨bo, off + j * 4 + 2, none⟩ = some (.int .i64 o.k) := hI.at_.cell j o ho 2 (by omega)
      have x3 : wr.cell? ⟨bo, off + j * 4 + 3, none⟩ = some (.int .i64 o.n) := hI.at_.cell j o ho 3 (by omega)
      have b3 : (0 : Int) ≤ (j : Int) := by omega
      have b4 : (j : Int) < (ops.length : Int) := by omega
      have hI4 : ItW (wr.alloc (.cells #[.int .i64 o.d, .int .i64 o.t, .int .i64 o.k, .int .i64 o.n] 47)) b1 b2 s t (some ⟨bo, off, none⟩) bo off c ops (some ⟨ga, 0, none⟩) ga ca l := hI.kept ((Chg.refl _ wr).alloc _)
      have hJ4 : J (own1 t ((ops.zip l).take j)) (wr.alloc (.cells #[.int .i64 o.d, .int .i64 o.t, .int .i64 o.k, .int .i64 o.n] 47)) := HJJ.out _ _ _ none hJs (World.grownBy_alloc wr _ none) (fun r e => by cases e)
      have hlen : (own1 t ((ops.zip l).take j)).length < ops.length := by
        have := length_own1 t ((ops.zip l).take j)
        rw [List.length_take] at this
        omega
      have e1 := hI4.c1
      have e2 := hI4.c2
      have e3 := hI4.c3
      have ex := hI4.acell j x hx
      obtain ⟨fn, tmps, assign, body, hy, hR⟩ := HY.out _ o _ hJ4 hlen
      unfold opVal at hy
      have HI := Lib.hid hI; have HI4 := Lib.hid hI4; have HJ := Lib.hid hJ4
      clear hI hI4 hJ4 hJs
      by_cases hh : o.t = t
      · subst hh
        by_cases hxe : x.e = 0
        · have HT' := HT.out
          rw [if_pos ⟨rfl, hxe⟩] at HT'
          have HTT := Lib.hid HT'
          clear HT'
          gi_wp2
          refine hR.mono ?_
          rintro e W3 (⟨rfl, hJ3, hk3⟩ | ⟨rfl, hJx3⟩)
          · have HI3 := Lib.hid (HI4.out.kept hk3)
            have HJ3 := Lib.hid hJ3
            clear hJ3 hk3
            gi_wp2
            exact ⟨⟨j + 1, by omega, by go_num, HI3.out, by rw [HTT.out]; exact HJ3.out⟩, by simp [intOf]; omega⟩
          · gi_wp2
            rw [Exit.noGoto_ret]
            refine bodyPost_ret (results_none rfl _ _ _) rfl ?_
            exact ⟨⟨_, rfl⟩, .inr ⟨_, trivial, hJx3⟩⟩
        · gi_wp2
          refine ⟨⟨j + 1, by omega, by go_num, HI4.out, ?_⟩, by simp [intOf]; omega⟩
          rw [HT.out, if_neg (fun h => hxe h.2), List.append_nil]
          exact HJ.out
      · gi_wp2
        refine ⟨⟨j + 1, by omega, by go_num, HI4.out, ?_⟩, by simp [intOf]; omega⟩
        rw [HT.out, if_neg (fun h => hh h.1), List.append_nil]
        exact HJ.out
    · obtain rfl : j = ops.length := by omega
      gi_wp2
      rw [Exit.noGoto_normal]
      go_end0
      refine ⟨⟨_, rfl⟩, .inl ⟨_, ?_, hJs⟩⟩
      unfold own
      rw [List.take_of_length_le (by rw [List.length_zip]; omega)]
/-- What of hands back keeps the contract of an iterator: the operations that were done, in order. -/
theorem it_stops (n : Nat) (hn : 1 ≤ n) {w : World} {b1 b2 s : Nat} {t : Int} {ao : Option Addr} {bo off c : Nat} {ops : List Tx.Op} {aa : Option Addr} {ga ca : Nat} {l : List Ans} (hol : ops.length ≤ 200)
    (hW : ItW w b1 b2 s t ao bo off c ops aa ga ca l) :
    SeqStopsK Fence.wide n Try.prog 52 #[.pointer (some ⟨b1, 0, none⟩), .pointer (some ⟨b2, 0, none⟩)] (fun x : Tx.Op => #[opVal x]) (Chg (fun k => ¬ ItR b1 b2 s bo ga k)) (fun ys => ys = own ops l t) (fun _ => True) ops.length w :=
  fun l0 J Jx W hB hJ _ hY h0 => it_in n l0 hn hol J Jx W.heap.size hJ hY W (hW.kept ((New.of_below hB).mono fun _ _ x => x.elim)) h0
end Go.Proofs.Yteaeflmglppcdaa
