/- The contract of listed: all operations are done, their answers listed. -/
import Derived.Test.YteaeflmglppcdaaD6
import Derived.LoopTactic
namespace Go.Proofs.Yteaeflmglppcdaa
open Go.RowKit Tx

theorem run_append (l : List Tx.Op) : ∀ (st : St) (r : List Tx.Op), Tx.run st (l ++ r) = ((Tx.run st l).1 ++ (Tx.run (Tx.run st l).2 r).1, (Tx.run (Tx.run st l).2 r).2) := by
  induction l with
  | nil => intro st r; simp [Tx.run]
  | cons o l ih => intro st r; simp [Tx.run, ih]
theorem Good.run {l : List Tx.Op} : ∀ {st : St} {q : Nat}, Good st q → Good (Tx.run st l).2 (q + l.length) := by
  induction l with
  | nil => intro st q h; exact h
  | cons o l ih =>
    intro st q h
    have := ih (h.step o)
    simp only [Tx.run, List.length_cons]
    rw [show q + (l.length + 1) = q + 1 + l.length by omega]
    exact this
theorem length_run (l : List Tx.Op) : ∀ (st : St), (Tx.run st l).1.length = l.length := by
  induction l with
  | nil => intro st; rfl
  | cons o l ih => intro st; simp [Tx.run, ih]

def ansCells (a : Ans) : List Value := [.int .i64 a.e, .int .i64 a.n]
def ansRow (l : List Ans) : List Value := l.flatMap ansCells
def opCell (o : Tx.Op) (j : Nat) : Value := if j = 0 then .int .i64 o.d else if j = 1 then .int .i64 o.t else if j = 2 then .int .i64 o.k else .int .i64 o.n
/-- A script lies in memory, at block b. -/
structure OpsAt (w : World) (a : Option Addr) (b off : Nat) (ops : List Tx.Op) : Prop where
  len : ops.length ≤ maxLen
  ptr : ops ≠ [] → a = some ⟨b, off, none⟩
  cell : ∀ i o, ops[i]? = some o → ∀ j, j < 4 → w.cell? ⟨b, off + i * 4 + j, none⟩ = some (opCell o j)
theorem OpsAt.lt {w : World} {a : Option Addr} {b off : Nat} {ops : List Tx.Op} (h : OpsAt w a b off ops) (hne : ops ≠ []) : b < w.heap.size := by
  cases ops with
  | nil => exact absurd rfl hne
  | cons o r => exact World.block_lt_of_cell? w _ (h.cell 0 o rfl 0 (by omega))
theorem OpsAt.kept {w w' : World} {a : Option Addr} {b off : Nat} {ops : List Tx.Op} {S : Nat → Prop} (h : OpsAt w a b off ops) (hc : Chg S w w') (hS : ¬ S b) : OpsAt w' a b off ops :=
  ⟨h.len, h.ptr, fun i o hi j hj => by
    have := h.cell i o hi j hj
    rw [hc.cell (World.block_lt_of_cell? w _ this) hS]; exact this⟩

theorem Try.info49 : (Try.prog.info? 49).map (fun i => (i.zero, i.size, i.bytes)) = some (some (.agg #[.int .i64 0, .int .i64 0]), 2, 16) := by kernel_rfl

theorem news_alloc (w : World) (A : Array Value) (T : TypeId) : ∀ k u, A.toList[k]? = some u → (w.alloc (.cells A T)).cell? ((⟨w.heap.size, 0, none⟩ : Addr).add k) = some u := by
  intro k u hk
  have ha0 : (⟨w.heap.size, 0, none⟩ : Addr).add k = ⟨w.heap.size, k, none⟩ := by
    cases k with
    | zero => rfl
    | succ k => simp [Addr.add]
  rw [ha0, World.cell?_alloc_new]
  simpa using hk
theorem oneCell_ans (a : Ans) : ∀ u ∈ ansCells a, u.oneCell' = true := by
  intro u hu
  simp only [ansCells, List.mem_cons, List.not_mem_nil, or_false] at hu
  rcases hu with rfl | rfl <;> rfl
section
variable {w : World} {s : Nat} {va vo : Value} {st : St} {F : Nat → Prop}
/-- What listed leaves. -/
def ListPost (w : World) (F : Nat → Prop) (s : Nat) (va vo : Value) (r : List Ans × St) (v : Value) (w' : World) : Prop :=
  w'.ownsRow 0 49 2 v r.1.length (ansRow r.1) ∧ ∃ F', Rep w' s va vo r.2 F' ∧ Chg F w w' ∧ (∀ k, F' k → F k ∨ w.heap.size ≤ k) ∧ ∀ g, v.ownBlock = some g → w.heap.size ≤ g ∧ ¬ F' g

set_option maxRecDepth 100000 in
set_option maxHeartbeats 1000000 in
theorem listed_any (hR : Rep w s va vo st F) {q : Nat} (hG : Good st q) (a : Option Addr) (b off c : Nat) (ops : List Tx.Op) (hO : OpsAt w a b off ops) (hb : ¬ F b) (hq : q + ops.length ≤ 1000) :
    Calls Try.prog 49 #[.slice a ops.length c, .func (.func 48) #[.pointer (some ⟨s, 0, none⟩)] #[]] w fun e w' =>
      ∃ v, e = .returned v ∧ ListPost w F s va vo (Tx.run st ops) v w' := by
  have HG := Lib.hid hG; clear hG
  have HLT := Lib.hid hR.lt
  have hl63 : (ops.length : Int) ≤ 9223372036854775807 := by omega
  have hbl : ops ≠ [] → b < w.heap.size := hO.lt
  have HBL := Lib.hid hbl; clear hbl
  go_enter Try.func49, Try.ntmps49
  go_wp2
  go_loopw [4, 9] (fun v4 v wr => ∃ j : Nat, j ≤ ops.length ∧ v = .int .i64 j ∧ OpsAt wr a b off ops ∧ ListPost w F s va vo (Tx.run st (ops.take j)) v4 wr) (fun _ v _ => ops.length - (intOf v).toNat)
  case atStart =>
    refine ⟨0, by omega, rfl, hO, World.ownsRow_nil _ _ _ _, F, hR, Chg.refl _ _, fun _ h => .inl h, ?_⟩
    intro g hg; simp [Value.ownBlock] at hg
  case round =>
    obtain ⟨j, hj, rfl, hOr, hown, F1, hR1, hC1, hF1, hg1⟩ := hrel
    by_cases hlt : j < ops.length
    · obtain ⟨o, ho⟩ : ∃ o, ops[j]? = some o := ⟨_, List.getElem?_eq_getElem hlt⟩
      have hne : ops ≠ [] := fun e => by rw [e] at hlt; simp at hlt
      obtain rfl := hOr.ptr hne
      have x0 : wr.cell? ⟨b, off + j * 4, none⟩ = some (.int .i64 o.d) := hOr.cell j o ho 0 (by omega)
      have x1 : wr.cell? ⟨b, off + j * 4 + 1, none⟩ = some (.int .i64 o.t) := hOr.cell j o ho 1 (by omega)
      have x2 : wr.cell? ⟨b, off + j * 4 + 2, none⟩ = some (.int .i64 o.k) := hOr.cell j o ho 2 (by omega)
      have x3 : wr.cell? ⟨b, off + j * 4 + 3, none⟩ = some (.int .i64 o.n) := hOr.cell j o ho 3 (by omega)
      have b3 : (0 : Int) ≤ (j : Int) := by omega
      have b4 : (j : Int) < (ops.length : Int) := by omega
      have hGj : Good (Tx.run st (ops.take j)).2 (q + j) := by
        have := HG.out.run (l := ops.take j)
        rwa [List.length_take, Nat.min_eq_left hj] at this
      have HD : Hid (∀ w', New wr w' → Calls Try.prog 48 #[.pointer (some ⟨s, 0, none⟩), .agg #[.int .i64 o.d, .int .i64 o.t, .int .i64 o.k, .int .i64 o.n]] w' (DonePost w' F1 s va vo (Tx.step (Tx.run st (ops.take j)).2 o))) :=
        fun w' hn => done_any (hR1.new hn) hGj (by omega) o
      have ht : Hid (Tx.run st (ops.take (j + 1)) = ((Tx.run st (ops.take j)).1 ++ [(Tx.step (Tx.run st (ops.take j)).2 o).1], (Tx.step (Tx.run st (ops.take j)).2 o).2)) := by
        show _ = _
        rw [List.take_succ_eq_append_getElem hlt, run_append, (List.getElem?_eq_some_iff.1 ho).2]
        simp [Tx.run]
      have hlr : (Tx.run st (ops.take j)).1.length = j := by rw [length_run, List.length_take, Nat.min_eq_left hj]
      rw [hlr] at hown
      have HX := Lib.hid (And.intro hOr (And.intro hown (And.intro hR1 (And.intro hC1 (And.intro hF1 hg1)))))
      clear hOr hown hR1 hC1 hF1 hg1 hGj ho hO hR
      generalize Tx.run st (ops.take j) = r at *
      generalize hst : Tx.step r.2 o = z at *
      obtain ⟨i0, hi, hz0, hz1, hz2⟩ := info_parts Try.info49
      have HI := Lib.hid hi; have HZ0 := Lib.hid hz0; have HZ1 := Lib.hid hz1; have HZ2 := Lib.hid hz2
      clear hi hz0 hz1 hz2
      have hrl : j + 1 ≤ maxLen := by unfold maxLen; omega
      go_wp2_with (first
        | ((refine (HD.out _ (by repeat (first | exact Chg.refl _ _ | refine Chg.alloc ?_ _ | refine Chg.setCell ?_ (fun h => absurd h (Nat.lt_irrefl _)) _))).mono ?_); rintro e w2 ⟨rfl, F2, hR2, hC2, hF2⟩; have HC2 : Hid (Chg F1 wr w2) := Chg.trans (Chg.of_new (by repeat (first | exact Chg.refl _ _ | refine Chg.alloc ?_ _ | refine Chg.setCell ?_ (fun h => absurd h (Nat.lt_irrefl _)) _))) hC2; have HF2 : Hid (∀ k, F2 k → F1 k ∨ wr.heap.size ≤ k) := (fun k hk => (hF2 k hk).imp id (fun h => Nat.le_trans (by simp) h)); have HR2 := Lib.hid hR2; clear hC2 hF2 hR2; have HO2 := Lib.hid (HC2.out.ownsRow HX.out.2.1 (fun k hk => (HX.out.2.2.2.2.2 k hk).2)))
        | (refine wpList_append_lies _ rfl _ _ 24 rfl 0 49 i0 (.agg #[.int .i64 0, .int .i64 0]) 2 16 Try.underlying24 HI.out HZ0.out HZ1.out HZ2.out rfl (by decide) _ j (ansRow r.1) rfl (HO2.out.alloc _) ⟨_, 0, none⟩ 1 1 (ansCells z.1) rfl rfl (news_alloc _ #[.int .i64 z.1.e, .int .i64 z.1.n] _) (oneCell_ans _) (by decide) hrl (by omega) (Nat.zero_le _) _ rfl ?_; intro g5 cap5 w5 hown5 hg5 hgb5 hlt5))
      obtain ⟨hOr, hown, hR1, hC1, hF1, hg1⟩ := HX.out
      have hC5 := ((HC2.out.mono (fun _ _ h => Or.inl h) : Chg (fun k => F1 k ∨ u4.ownBlock = some k) wr w2).alloc (.cells #[.int .i64 z.1.e, .int .i64 z.1.n] 49)).grown hg5 (fun k hk _ => .inr hk)
      have hbF1 : ¬ F1 b := fun h => (hF1 b h).elim hb (fun h2 => by have := HBL.out hne; omega)
      have hbv : u4.ownBlock ≠ some b := fun h => by have := (hg1 b h).1; have := HBL.out hne; omega
      have hgF2 : ∀ g, u4.ownBlock = some g → ¬ F2 g := fun g hg h2 => by
        rcases HF2.out g h2 with h | h
        · exact (hg1 g hg).2 h
        · have := (hown.lt g hg).2; omega
      have hsz : w2.heap.size ≤ w5.heap.size := Nat.le_trans (by simp) hg5.size
      have hC25 : Chg (fun k => u4.ownBlock = some k) w2 w5 := (((Chg.refl (fun k => u4.ownBlock = some k) w2).alloc (.cells #[.int .i64 z.1.e, .int .i64 z.1.n] 49)).grown hg5 (fun k hk _ => hk))
      refine ⟨⟨j + 1, by omega, by go_num, hOr.kept hC5 (fun h => h.elim hbF1 hbv), ?_⟩, by simp [intOf]; omega⟩
      rw [ht.out]
      refine ⟨?_, F2, ?_, hC1.then hC5 (fun i hi h => h.elim (fun h => (hF1 i h).elim id (fun h2 => absurd hi (by omega))) (fun h => absurd hi (by have := (hg1 i h).1; omega))), fun k hk => ?_, fun g hg => ?_⟩
      · have hl : (r.1 ++ [z.1]).length = j + 1 := by simp [hlr]
        have he : ansRow (r.1 ++ [z.1]) = ansRow r.1 ++ ansCells z.1 := by simp [ansRow, List.flatMap_append]
        rw [hl, he]
        exact hown5
      · exact HR2.out.kept hC25 (fun k hk h => hgF2 k h hk)
      · rcases HF2.out k hk with h | h
        · exact hF1 k h
        · exact .inr (Nat.le_trans hC1.size h)
      · simp [Value.ownBlock] at hg
        subst hg
        rcases hgb5 with h | h
        · exact ⟨(hg1 _ h).1, hgF2 _ h⟩
        · have h1 := hC1.size
          have h2 := HC2.out.size
          have h3 : w2.heap.size ≤ g5 := by rw [h]; simp
          exact ⟨by omega, fun hf => by have := HR2.out.lt _ hf; omega⟩
    · have hjj : j = ops.length := by omega
      subst hjj
      rw [List.take_length] at hown hR1
      have HP := Lib.hid (show ListPost w F s va vo (Tx.run st ops) _ wr from ⟨hown, F1, hR1, hC1, hF1, hg1⟩)
      clear hlt hj
      go_wp2
      go_ret
      exact ⟨_, rfl, HP.out⟩
end
end Go.Proofs.Yteaeflmglppcdaa
