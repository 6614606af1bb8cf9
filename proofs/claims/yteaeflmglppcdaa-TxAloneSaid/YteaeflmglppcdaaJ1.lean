/- The contract of the law's of: the operations of a transaction that were done, and their answers. -/
import Derived.Test.YteaeflmglppcdaaI0
namespace Go.Proofs.Yteaeflmglppcdaa
open Go.RowKit Tx

def Tx.ownA (t : Int) (z : List (Tx.Op × Ans)) : List Ans := (z.filter fun p => decide (p.1.t = t) && decide (p.2.e = 0)).map Prod.snd
theorem ownA_take {t : Int} {z : List (Tx.Op × Ans)} {j : Nat} {p : Tx.Op × Ans} (h : z[j]? = some p) : ownA t (z.take (j + 1)) = ownA t (z.take j) ++ if p.1.t = t ∧ p.2.e = 0 then [p.2] else [] := by
  have hlt := (List.getElem?_eq_some_iff.1 h).1
  unfold ownA
  rw [List.take_succ_eq_append_getElem hlt, List.filter_append, (List.getElem?_eq_some_iff.1 h).2, List.map_append]
  by_cases h1 : p.1.t = t <;> by_cases h2 : p.2.e = 0 <;> simp [h1, h2]
theorem length_ownA (t : Int) (z : List (Tx.Op × Ans)) : (ownA t z).length ≤ z.length := by
  unfold ownA
  rw [List.length_map]
  exact List.length_filter_le _ _
/-- Rows of different types lie in different blocks. -/
theorem rows_apart {w : World} {B B' : Nat} {T T' : TypeId} {sz sz' n n' : Nat} {v v' : Value} {xs xs' : List Value} (h : w.ownsRow B T sz v n xs) (h' : w.ownsRow B' T' sz' v' n' xs') (hT : T ≠ T') : ∀ k, v.ownBlock = some k → v'.ownBlock ≠ some k := by
  intro k hk hk'
  rcases h.2 with ⟨rfl, _⟩ | ⟨g, cap, cur, rfl, _, hg, _⟩
  · simp [Value.ownBlock] at hk
  · rcases h'.2 with ⟨rfl, _⟩ | ⟨g', cap', cur', rfl, _, hg', _⟩
    · simp [Value.ownBlock] at hk'
    · simp [Value.ownBlock] at hk hk'
      subst hk hk'
      rw [hg] at hg'
      cases hg'
      exact hT rfl
section
variable {w : World}
set_option maxRecDepth 100000 in
set_option maxHeartbeats 2000000 in
theorem of_law (a a' : Option Addr) (b b' off off' c c' n' : Nat) (ops : List Tx.Op) (l : List Ans) (t : Int) (hO : OpsAt w a b off ops) (hA : AnsAt w a' b' off' l) (hn : l.length = n') (hl : ops.length ≤ n') (h2 : ops.length ≤ 200) (h3 : n' ≤ 200) :
    Calls Try.prog 27 #[.slice a ops.length c, .slice a' n' c', .int .i64 t] w fun e w' => ∃ v1 v2, e = .returned (.tuple #[v1, v2]) ∧ New w w' ∧
      w'.ownsRow 0 47 4 v1 (own1 t (ops.zip l)).length (opRow (own1 t (ops.zip l))) ∧ w'.ownsRow 0 49 2 v2 (ownA t (ops.zip l)).length (ansRow (ownA t (ops.zip l))) ∧
      (∀ g, v1.ownBlock = some g → w.heap.size ≤ g) ∧ ∀ g, v2.ownBlock = some g → w.heap.size ≤ g := by
  have k2 : (ops.length : Int) ≤ 200 := by omega
  have k3 : (n' : Int) ≤ 200 := by omega
  have HO := Lib.hid hO; have HA := Lib.hid hA
  clear hO hA
  go_enter Try.func27, Try.ntmps27
  go_wp2
  go_loopw [6, 7, 12] (fun v6 v7 v wr => ∃ j : Nat, j ≤ ops.length ∧ v = .int .i64 j ∧ New w wr ∧ wr.ownsRow 0 47 4 v6 (own1 t ((ops.zip l).take j)).length (opRow (own1 t ((ops.zip l).take j))) ∧
      wr.ownsRow 0 49 2 v7 (ownA t ((ops.zip l).take j)).length (ansRow (ownA t ((ops.zip l).take j))) ∧ (∀ g, v6.ownBlock = some g → w.heap.size ≤ g) ∧ ∀ g, v7.ownBlock = some g → w.heap.size ≤ g) (fun _ _ v _ => ops.length - (intOf v).toNat)
  case atStart => exact ⟨0, by omega, rfl, Chg.refl _ _, World.ownsRow_nil _ _ _ _, World.ownsRow_nil _ _ _ _, fun g hg => by simp [Value.ownBlock] at hg, fun g hg => by simp [Value.ownBlock] at hg⟩
  case round =>
    obtain ⟨j, hj, rfl, hN, hr6, hr7, hg6, hg7⟩ := hrel
    by_cases hlt : j < ops.length
    · obtain ⟨o, ho⟩ : ∃ o, ops[j]? = some o := ⟨_, List.getElem?_eq_getElem hlt⟩
      obtain ⟨x, hx⟩ : ∃ x, l[j]? = some x := ⟨_, List.getElem?_eq_getElem (by omega)⟩
      have hp : (ops.zip l)[j]? = some (o, x) := by rw [List.getElem?_zip_eq_some]; exact ⟨ho, hx⟩
      have HT1 := Lib.hid (own1_take (t := t) hp); have HT2 := Lib.hid (ownA_take (t := t) hp)
      obtain rfl := HO.out.ptr (fun e => by rw [e] at hlt; simp at hlt)
      obtain rfl := HA.out.ptr (fun e => by rw [e] at hx; simp at hx)
      have hOw := HO.out.kept hN (fun x => x)
      have x0 : wr.cell? ⟨b, off + j * 4, none⟩ = some (.int .i64 o.d) := hOw.cell j o ho 0 (by omega)
      have x1 : wr.cell? ⟨b, off + j * 4 + 1, none⟩ = some (.int .i64 o.t) := hOw.cell j o ho 1 (by omega)
      have x2 : wr.cell? ⟨b, off + j * 4 + 2, none⟩ = some (.int .i64 o.k) := hOw.cell j o ho 2 (by omega)
      have x3 : wr.cell? ⟨b, off + j * 4 + 3, none⟩ = some (.int .i64 o.n) := hOw.cell j o ho 3 (by omega)
      have b3 : (0 : Int) ≤ (j : Int) := by omega
      have b4 : (j : Int) < (ops.length : Int) := by omega
      have b5 : (j : Int) < (n' : Int) := by omega
      have hAw := (HA.out.kept hN).kept ((Chg.refl _ wr).alloc (.cells #[.int .i64 o.d, .int .i64 o.t, .int .i64 o.k, .int .i64 o.n] 47))
      obtain ⟨a0, a1⟩ := hAw.cell j x hx
      have hl6 : (own1 t ((ops.zip l).take j)).length ≤ 200 := by
        have := length_own1 t ((ops.zip l).take j)
        rw [List.length_take] at this; omega
      have hl7 : (ownA t ((ops.zip l).take j)).length ≤ 200 := by
        have := length_ownA t ((ops.zip l).take j)
        rw [List.length_take] at this; omega
      have HX := Lib.hid hx
      clear hOw hAw hp ho hx
      generalize own1 t ((ops.zip l).take j) = L6 at *
      generalize ownA t ((ops.zip l).take j) = L7 at *
      obtain ⟨i0, hi0, hz0, hz1, hz2⟩ := info_parts Try.info47
      obtain ⟨i1, hi1, hy0, hy1, hy2⟩ := info_parts Try.info49
      have HI := Lib.hid hi0; have HZ0 := Lib.hid hz0; have HZ1 := Lib.hid hz1; have HZ2 := Lib.hid hz2
      have HJ := Lib.hid hi1; have HY0 := Lib.hid hy0; have HY1 := Lib.hid hy1; have HY2 := Lib.hid hy2
      have HN := Lib.hid (hN.alloc (.cells #[.int .i64 o.d, .int .i64 o.t, .int .i64 o.k, .int .i64 o.n] 47))
      have HR6 := Lib.hid (hr6.alloc (.cells #[.int .i64 o.d, .int .i64 o.t, .int .i64 o.k, .int .i64 o.n] 47))
      have HR7 := Lib.hid (hr7.alloc (.cells #[.int .i64 o.d, .int .i64 o.t, .int .i64 o.k, .int .i64 o.n] 47))
      clear hi0 hz0 hz1 hz2 hi1 hy0 hy1 hy2 hN hr6 hr7
      have m0 : (wr.alloc (.cells #[.int .i64 o.d, .int .i64 o.t, .int .i64 o.k, .int .i64 o.n] 47)).cell? ⟨wr.heap.size, 0, none⟩ = some (.int .i64 o.d) := by rw [World.cell?_alloc_new]; rfl
      have m1 : (wr.alloc (.cells #[.int .i64 o.d, .int .i64 o.t, .int .i64 o.k, .int .i64 o.n] 47)).cell? ⟨wr.heap.size, 1, none⟩ = some (.int .i64 o.t) := by rw [World.cell?_alloc_new]; rfl
      have m2 : (wr.alloc (.cells #[.int .i64 o.d, .int .i64 o.t, .int .i64 o.k, .int .i64 o.n] 47)).cell? ⟨wr.heap.size, 2, none⟩ = some (.int .i64 o.k) := by rw [World.cell?_alloc_new]; rfl
      have m3 : (wr.alloc (.cells #[.int .i64 o.d, .int .i64 o.t, .int .i64 o.k, .int .i64 o.n] 47)).cell? ⟨wr.heap.size, 3, none⟩ = some (.int .i64 o.n) := by rw [World.cell?_alloc_new]; rfl
      have hbb : b' < w.heap.size := World.block_lt_of_cell? w _ (HA.out.cell j x HX.out).1
      have hw2 : w.heap.size ≤ wr.heap.size + 1 := by have := HN.out.size; rw [World.size_alloc] at this; exact this
      have hsz : (wr.alloc (.cells #[.int .i64 o.d, .int .i64 o.t, .int .i64 o.k, .int .i64 o.n] 47)).heap.size = wr.heap.size + 1 := World.size_alloc _ _
      go_upto_region 4 with fail
      generalize wr.alloc _ = w2 at *
      generalize wr.heap.size = nb at *
      by_cases hh : o.t = t ∧ x.e = 0
      · obtain ⟨xe, xn⟩ := x
        obtain ⟨rfl, hxe⟩ := hh
        dsimp only at hxe a0 a1
        obtain rfl := hxe
        have HT1' := HT1.out
        have HT2' := HT2.out
        rw [if_pos ⟨rfl, rfl⟩] at HT1' HT2'
        go_upto_region 5 with fail
        have ho6 : ∀ g, u6.ownBlock = some g → g < w2.heap.size := fun g hg => (HR6.out.lt g hg).2
        have hs2 : w2.drew.heap.size = nb + 1 := hsz
        have h47 := heap_alloc_new w2.drew (.cells #[.int .i64 o.d, .int .i64 o.t, .int .i64 o.k, .int .i64 o.n] 47)
        have h49 := heap_alloc_new w2.drew (.cells #[.int .i64 0, .int .i64 xn] 49)
        rw [hs2] at h47 h49
        have hs47 : (w2.drew.alloc (.cells #[.int .i64 o.d, .int .i64 o.t, .int .i64 o.k, .int .i64 o.n] 47)).heap.size = nb + 1 + 1 := by rw [World.size_alloc, hs2]
        have hs49 : (w2.drew.alloc (.cells #[.int .i64 0, .int .i64 xn] 49)).heap.size = nb + 1 + 1 := by rw [World.size_alloc, hs2]
        have q2 := heap_alloc_new (w2.drew.alloc (.cells #[.int .i64 o.d, .int .i64 o.t, .int .i64 o.k, .int .i64 o.n] 47)) (.cells #[.int .i64 0, .int .i64 xn] 49)
        have q3 := heap_alloc_new (w2.drew.alloc (.cells #[.int .i64 0, .int .i64 xn] 49)) (.cells #[.int .i64 o.d, .int .i64 o.t, .int .i64 o.k, .int .i64 o.n] 47)
        rw [hs47] at q2; rw [hs49] at q3
        have q2' : ((w2.drew.alloc (.cells #[.int .i64 o.d, .int .i64 o.t, .int .i64 o.k, .int .i64 o.n] 47)).alloc (.cells #[.int .i64 0, .int .i64 xn] 49)).heap[nb + 1]? = some (.cells #[.int .i64 o.d, .int .i64 o.t, .int .i64 o.k, .int .i64 o.n] 47) := (Below.heap_alloc _ _ _ (by omega)).trans h47
        have q3' : ((w2.drew.alloc (.cells #[.int .i64 0, .int .i64 xn] 49)).alloc (.cells #[.int .i64 o.d, .int .i64 o.t, .int .i64 o.k, .int .i64 o.n] 47)).heap[nb + 1]? = some (.cells #[.int .i64 0, .int .i64 xn] 49) := (Below.heap_alloc _ _ _ (by omega)).trans h49
        have N1 := Lib.hid (World.news_of_block h47); have N2 := Lib.hid (World.news_of_block q2'); have N3 := Lib.hid (World.news_of_block q3)
        have Q2 := Lib.hid q2; have Q3 := Lib.hid q3'
        have R1 : Hid ((w2.drew.alloc (.cells #[.int .i64 o.d, .int .i64 o.t, .int .i64 o.k, .int .i64 o.n] 47)).ownsRow 0 47 4 u6 L6.length (opRow L6)) := World.ownsRow.alloc (World.ownsRow.drew HR6.out) _
        have R2 : Hid (((w2.drew.alloc (.cells #[.int .i64 o.d, .int .i64 o.t, .int .i64 o.k, .int .i64 o.n] 47)).alloc (.cells #[.int .i64 0, .int .i64 xn] 49)).ownsRow 0 47 4 u6 L6.length (opRow L6)) := World.ownsRow.alloc R1.out _
        have R3 : Hid (((w2.drew.alloc (.cells #[.int .i64 0, .int .i64 xn] 49)).alloc (.cells #[.int .i64 o.d, .int .i64 o.t, .int .i64 o.k, .int .i64 o.n] 47)).ownsRow 0 47 4 u6 L6.length (opRow L6)) := World.ownsRow.alloc (World.ownsRow.alloc (World.ownsRow.drew HR6.out) _) _
        have Z2 : Hid (nb + 1 + 1 < ((w2.drew.alloc (.cells #[.int .i64 o.d, .int .i64 o.t, .int .i64 o.k, .int .i64 o.n] 47)).alloc (.cells #[.int .i64 0, .int .i64 xn] 49)).heap.size) := by show _ < _; rw [World.size_alloc, hs47]; omega
        have Z3 : Hid (nb + 1 < ((w2.drew.alloc (.cells #[.int .i64 0, .int .i64 xn] 49)).alloc (.cells #[.int .i64 o.d, .int .i64 o.t, .int .i64 o.k, .int .i64 o.n] 47)).heap.size) := by show _ < _; rw [World.size_alloc, hs49]; omega
        have Z1 : Hid (nb + 1 ≤ (w2.drew.alloc (.cells #[.int .i64 o.d, .int .i64 o.t, .int .i64 o.k, .int .i64 o.n] 47)).heap.size) := by show _ ≤ _; rw [hs47]; omega
        have Z2L : Hid (nb + 1 ≤ ((w2.drew.alloc (.cells #[.int .i64 o.d, .int .i64 o.t, .int .i64 o.k, .int .i64 o.n] 47)).alloc (.cells #[.int .i64 0, .int .i64 xn] 49)).heap.size) := Nat.le_of_lt (Nat.lt_of_succ_lt Z2.out)
        have Z3L : Hid (nb + 1 ≤ ((w2.drew.alloc (.cells #[.int .i64 0, .int .i64 xn] 49)).alloc (.cells #[.int .i64 o.d, .int .i64 o.t, .int .i64 o.k, .int .i64 o.n] 47)).heap.size) := Nat.le_of_lt Z3.out
        have NE2 : Hid (some (nb + 1 + 1) ≠ u6.ownBlock) := fun e => by have := ho6 _ e.symm; omega
        have NE3 : Hid (some (nb + 1) ≠ u6.ownBlock) := fun e => by have := ho6 _ e.symm; omega
        have HB7 : Hid (∀ k, u6.ownBlock = some k → k ≠ b') := fun k hk e => by have := hg6 _ hk; omega
        have HBL : Hid (b' < w2.heap.size) := by show _ < _; omega
        have RA := Lib.hid (rows_apart HR6.out HR7.out (by decide))
        have e0 : (w2.alloc (.cells #[.int .i64 o.d, .int .i64 o.t, .int .i64 o.k, .int .i64 o.n] 47)).cell? ⟨b', off' + j * 2, none⟩ = some (.int .i64 0) := (World.cell?_alloc_lt _ _ _ HBL.out).trans a0
        have e1 : (w2.alloc (.cells #[.int .i64 o.d, .int .i64 o.t, .int .i64 o.k, .int .i64 o.n] 47)).cell? ⟨b', off' + j * 2 + 1, none⟩ = some (.int .i64 xn) := (World.cell?_alloc_lt _ _ _ HBL.out).trans a1
        clear h47 h49 q2 q3 q2' q3'
        go_region_law (first
          | (refine step_append_lies _ rfl _ _ 22 rfl 0 47 i0 zero47 4 32 Try.underlying22 HI.out HZ0.out HZ1.out HZ2.out rfl (by decide) u6 L6.length (opRow L6) rfl (by first | exact R1.out | exact R2.out | exact R3.out) ⟨_, 0, none⟩ 1 1 [.int .i64 o.d, .int .i64 o.t, .int .i64 o.k, .int .i64 o.n] rfl rfl (by first | exact N1.out | exact N2.out | exact N3.out) (oneCell_ops [o]) (by decide) (by unfold maxLen; omega) (by omega) (Nat.zero_le _) _ rfl ?_; intro g5 cap5 w6 hown5 hg5 hat5 hlt5; have hC6 : Chg (fun k => u6.ownBlock = some k) w2 w6 := (by first | exact ((Chg.refl _ w2).drew.alloc _).grown hg5 (fun k hk _ => hk) | exact (((Chg.refl _ w2).drew.alloc _).alloc _).grown hg5 (fun k hk _ => hk)); have R7 := Lib.hid (hC6.ownsRow HR7.out (fun k hk e => RA.out k e hk)); have a0' : w6.cell? ⟨b', off' + j * 2, none⟩ = some (.int .i64 0) := (hC6.cell (a := ⟨b', off' + j * 2, none⟩) HBL.out (fun e => HB7.out _ e rfl)).trans a0; have a1' : w6.cell? ⟨b', off' + j * 2 + 1, none⟩ = some (.int .i64 xn) := (hC6.cell (a := ⟨b', off' + j * 2 + 1, none⟩) HBL.out (fun e => HB7.out _ e rfl)).trans a1; have HC6 := Lib.hid hC6; have HW5 := Lib.hid hown5; have HT5 := Lib.hid hat5; (first | have N38 : Hid (∀ j u, [.int .i64 0, .int .i64 xn][j]? = some u → w6.cell? ((⟨nb + 1 + 1, 0, none⟩ : Addr).add j) = some u) := Lib.hid (World.news_of_block (cs := #[.int .i64 0, .int .i64 xn]) ((hg5.block (nb + 1 + 1) Z2.out NE2.out).trans Q2.out)) | have N38 : Hid (∀ j u, [.int .i64 0, .int .i64 xn][j]? = some u → w6.cell? ((⟨nb + 1, 0, none⟩ : Addr).add j) = some u) := Lib.hid (World.news_of_block (cs := #[.int .i64 0, .int .i64 xn]) ((hg5.block (nb + 1) Z3.out NE3.out).trans Q3.out)) | skip); clear hC6 hown5 hat5 hg5)
          | (refine step_append_lies _ rfl _ _ 24 rfl 0 49 i1 (.agg #[.int .i64 0, .int .i64 0]) 2 16 Try.underlying24 HJ.out HY0.out HY1.out HY2.out rfl (by decide) u7 L7.length (ansRow L7) rfl (by first | exact R7.out | exact R7.out.alloc _) ⟨_, 0, none⟩ 1 1 [.int .i64 0, .int .i64 xn] rfl rfl (by first | exact N38.out | exact news_alloc w6 #[.int .i64 0, .int .i64 xn] _) (oneCell_ans ⟨0, xn⟩) (by decide) (by unfold maxLen; omega) (by omega) (Nat.zero_le _) _ rfl ?_; intro g7 cap7 w7 hown7 hg7' hat7 hlt7; have hC7 : Chg (fun k => u7.ownBlock = some k) w6 w7 := (by first | exact (Chg.refl _ w6).grown hg7' (fun k hk _ => hk) | exact ((Chg.refl _ w6).alloc _).grown hg7' (fun k hk _ => hk)); have HC7 := Lib.hid hC7; have HW7 := Lib.hid hown7; have HT7 : Hid (u7.ownBlock = some g7 ∨ w6.heap.size ≤ g7) := hat7.imp id (fun e => by rw [e]; simp); clear hC7 hown7 hat7 hg7'))
        all_goals
          have hNF : New w w7 := (HN.out.then HC6.out (fun k hk e => by have := hg6 k e; omega)).then HC7.out (fun k hk e => by have := hg7 k e; omega)
          have hF6 := HC7.out.ownsRow HW5.out (fun k hk e => rows_apart HW5.out R7.out (by decide) k hk e)
          have hgg5 : w.heap.size ≤ g5 := HT5.out.elim (hg6 _) (fun e => by rw [e]; simp [World.size_alloc]; omega)
          have hgg7 : w.heap.size ≤ g7 := HT7.out.elim (hg7 _) (fun e => by have := HN.out.size; have := HC6.out.size; omega)
          have HNF := Lib.hid hNF; have HF6 := Lib.hid hF6
          clear hNF hF6 HC6 HC7 HW5 HT5 HT7 R7 R1 R2 R3 N1 N2 N3 Q2 Q3 Z2 Z3 NE2 NE3 RA HR6 HR7 HN e0 e1 m0 m1 m2 m3 a0 a1 x0 x1 x2 x3
          go_wp2
          refine ⟨⟨j + 1, by omega, by go_num, HNF.out, ?_, ?_, fun g hg => ?_, fun g hg => ?_⟩, by simp [intOf]; omega⟩
          · rw [HT1', opRow_append, List.length_append]; exact HF6.out
          · rw [HT2', List.length_append, show ansRow (L7 ++ [⟨0, xn⟩]) = ansRow L7 ++ [.int .i64 0, .int .i64 xn] by simp [ansRow, ansCells]]; exact HW7.out
          · simp [Value.ownBlock] at hg; omega
          · simp [Value.ownBlock] at hg; omega
      · have HT1' := HT1.out
        have HT2' := HT2.out
        rw [if_neg hh, List.append_nil] at HT1' HT2'
        clear m0 m2 m3
        go_upto_if 28 with fail
        all_goals
          go_wp2
          all_goals first
            | (exfalso; exact hh ⟨by assumption, by assumption⟩)
            | (refine ⟨⟨j + 1, by omega, by go_num, HN.out, ?_, ?_, hg6, hg7⟩, by simp [intOf]; omega⟩
               · rw [HT1']; exact HR6.out
               · rw [HT2']; exact HR7.out)
    · obtain rfl : j = ops.length := by omega
      rw [List.take_of_length_le (by rw [List.length_zip]; omega)] at hr6 hr7
      have HN := Lib.hid hN; have HR6 := Lib.hid hr6; have HR7 := Lib.hid hr7
      clear hN hr6 hr7
      go_wp2
      refine bodyPost_ret (results_tmp2 rfl _ _ _) rfl ?_
      exact ⟨_, _, rfl, HN.out, HR6.out, HR7.out, hg6, hg7⟩
end
end Go.Proofs.Yteaeflmglppcdaa
