/- Pairs as keys of a map; the contract of the law's written. -/
import Derived.Test.YteaeflmglppcdaaJ4
import Derived.ChangeKeysEq
namespace Go.Proofs.Yteaeflmglppcdaa
open Go.RowKit Tx

theorem equalPair (d : Nat) (a b c e : Int) (w : World) : (Op.equalIn (d + 2) 58 (.agg #[.int .i64 a, .int .i64 b]) (.agg #[.int .i64 c, .int .i64 e])).run Try.prog w = .ok (a == c && b == e) w := by
  obtain ⟨i3, hi3, hz0, hz1, hz2⟩ := info_parts Try.info3
  have hc : Try.prog.cellsOf 3 = 1 := by kernel_rfl
  rw [run_equalIn_array (w := w) (d + 1) _ _ Try.underlying58 hi3, hc]
  by_cases h : a = c
  · by_cases h2 : b = e
    · simp [Op.eqItems, List.range_succ, go_sem, equalInt, h, h2, hi3, hz1]
    · simp [Op.eqItems, List.range_succ, go_sem, equalInt, h, h2, hi3, hz1]
  · simp [Op.eqItems, List.range_succ, go_sem, equalInt, h, hi3, hz1]
theorem checkPair (d : Nat) (a b : Int) (w : World) (e : Bool) : (Instr.checkKey e (d + 2) 58 (.agg #[.int .i64 a, .int .i64 b])).run Try.prog w = .ok () w := by
  obtain ⟨i3, hi3, hz0, hz1, hz2⟩ := info_parts Try.info3
  simp [Instr.checkKey, run_underlying Try.underlying58, Std.Legacy.Range.forIn_eq_forIn_range', Std.Legacy.Range.size, List.range', go_sem, checkInt, hi3, hz1]
theorem key_pair : KeyT 58 ekCell where
  check := fun k w e => checkPair 9998 k.1 k.2 w e
  eq := fun a b w => (equalPair 9998 a.1 a.2 b.1 b.2 w).trans (by
    congr 1
    obtain ⟨a1, a2⟩ := a; obtain ⟨b1, b2⟩ := b
    simp only [Prod.mk.injEq]
    by_cases h : a1 = b1 <;> by_cases h2 : a2 = b2 <;> simp [h, h2])
  now := ⟨_, Try.underlying58, .inl fun a b => by rfl⟩
  bits := fun k => by
    have : ∀ d, Instr.sameBits (d + 2) (ekCell k) (ekCell k) = true := fun d => by simp [Instr.sameBits, ekCell]
    exact this 9998
theorem make_map54 (w : World) : (Instr.makeMap 54 none).run Try.prog w = .ok (.map (some w.heap.size)) (w.alloc (.map #[] 0)) := by kernel_rfl
theorem make_map55 (w : World) : (Instr.makeMap 55 none).run Try.prog w = .ok (.map (some w.heap.size)) (w.alloc (.map #[] 0)) := by kernel_rfl
theorem zero3 (w : World) : (zeroValue 3).run Try.prog w = .ok (.int .i64 0) w := by kernel_rfl
/-- Has a transaction written a key? -/
def wroteP (t k : Int) (p : Tx.Op × Ans) : Bool := decide (p.1.t = t) && (decide (p.1.k = k) && (decide (p.2.e = 0) && (decide (p.1.d = 2) || decide (p.1.d = 3))))
def wroteB (t k : Int) (z : List (Tx.Op × Ans)) : Bool := z.any (wroteP t k)
theorem wroteB_take {t k : Int} {z : List (Tx.Op × Ans)} {j : Nat} {p : Tx.Op × Ans} (h : z[j]? = some p) : wroteB t k (z.take (j + 1)) = (wroteB t k (z.take j) || wroteP t k p) := by
  have hlt := (List.getElem?_eq_some_iff.1 h).1
  unfold wroteB
  rw [List.take_succ_eq_append_getElem hlt, List.any_append, (List.getElem?_eq_some_iff.1 h).2]
  simp
theorem wroteB_mono {t k : Int} {z : List (Tx.Op × Ans)} {j : Nat} (h : wroteB t k (z.take j) = true) : wroteB t k z = true := by
  unfold wroteB at *
  rw [List.any_eq_true] at *
  obtain ⟨x, hx, h2⟩ := h
  exact ⟨x, List.mem_of_mem_take hx, h2⟩
section
variable {w : World}
set_option maxRecDepth 100000 in
set_option maxHeartbeats 2000000 in
theorem written_any (a a' : Option Addr) (b b' off off' c c' n' : Nat) (ops : List Tx.Op) (l : List Ans) (t k : Int) (hO : OpsAt w a b off ops) (hA : AnsAt w a' b' off' l) (hn : l.length = n') (hl : ops.length ≤ n') (h2 : ops.length ≤ 200) (h3 : n' ≤ 200) :
    Calls Try.prog 29 #[.slice a ops.length c, .slice a' n' c', .int .i64 t, .int .i64 k] w fun e w' => e = .returned (.bool (wroteB t k (ops.zip l))) ∧ New w w' := by
  have k2 : (ops.length : Int) ≤ 200 := by omega
  have k3 : (n' : Int) ≤ 200 := by omega
  have HO := Lib.hid hO; have HA := Lib.hid hA
  clear hO hA
  go_enter Try.func29, Try.ntmps29
  go_wp2
  go_loopw [13] (fun v wr => ∃ j : Nat, j ≤ ops.length ∧ v = .int .i64 j ∧ New w wr ∧ wroteB t k ((ops.zip l).take j) = false) (fun v _ => ops.length - (intOf v).toNat)
  case atStart => exact ⟨0, by omega, rfl, Chg.refl _ _, rfl⟩
  case round =>
    obtain ⟨j, hj, rfl, hN, hno⟩ := hrel
    by_cases hlt : j < ops.length
    · obtain ⟨o, ho⟩ : ∃ o, ops[j]? = some o := ⟨_, List.getElem?_eq_getElem hlt⟩
      obtain ⟨x, hx⟩ : ∃ x, l[j]? = some x := ⟨_, List.getElem?_eq_getElem (by omega)⟩
      have hp : (ops.zip l)[j]? = some (o, x) := by rw [List.getElem?_zip_eq_some]; exact ⟨ho, hx⟩
      have hT1 := wroteB_take (t := t) (k := k) hp
      rw [hno, Bool.false_or] at hT1
      have HT1 := Lib.hid hT1
      obtain rfl := HO.out.ptr (fun e => by rw [e] at hlt; simp at hlt)
      obtain rfl := HA.out.ptr (fun e => by rw [e] at hx; simp at hx)
      have hOw := HO.out.kept hN (fun x => x)
      have x0 : wr.cell? ⟨b, off + j * 4, none⟩ = some (.int .i64 o.d) := hOw.cell j o ho 0 (by omega)
      have x1 : wr.cell? ⟨b, off + j * 4 + 1, none⟩ = some (.int .i64 o.t) := hOw.cell j o ho 1 (by omega)
      have x2 : wr.cell? ⟨b, off + j * 4 + 2, none⟩ = some (.int .i64 o.k) := hOw.cell j o ho 2 (by omega)
      have x3 : wr.cell? ⟨b, off + j * 4 + 3, none⟩ = some (.int .i64 o.n) := hOw.cell j o ho 3 (by omega)
      have b3 : (0 : Int) ≤ (j : Int) := by omega
      have b4 : (j : Int) < (ops.length : Int) := by omega
      have b5 : (j : Int) < (n' : Int) := by omega
      have hAw := (HA.out.kept hN).kept ((Chg.refl _ wr).alloc (.cells #[.int .i64 o.d, .int .i64 o.t, .int .i64 o.k, .int .i64 o.n] 47))
      obtain ⟨a0, a1⟩ := hAw.cell j x hx
      have HN := Lib.hid (hN.alloc (.cells #[.int .i64 o.d, .int .i64 o.t, .int .i64 o.k, .int .i64 o.n] 47))
      have m0 : (wr.alloc (.cells #[.int .i64 o.d, .int .i64 o.t, .int .i64 o.k, .int .i64 o.n] 47)).cell? ⟨wr.heap.size, 0, none⟩ = some (.int .i64 o.d) := by rw [World.cell?_alloc_new]; rfl
      have m1 : (wr.alloc (.cells #[.int .i64 o.d, .int .i64 o.t, .int .i64 o.k, .int .i64 o.n] 47)).cell? ⟨wr.heap.size, 1, none⟩ = some (.int .i64 o.t) := by rw [World.cell?_alloc_new]; rfl
      have m2 : (wr.alloc (.cells #[.int .i64 o.d, .int .i64 o.t, .int .i64 o.k, .int .i64 o.n] 47)).cell? ⟨wr.heap.size, 2, none⟩ = some (.int .i64 o.k) := by rw [World.cell?_alloc_new]; rfl
      clear hOw hAw ho hx hN hno hT1
      go_upto_region 4 with fail
      generalize wr.alloc _ = w2 at *
      generalize wr.heap.size = nb at *
      clear x0 x1 x2 x3
      have DONE : Hid (wroteP t k (o, x) = true → wroteB t k (ops.zip l) = true) := fun h => wroteB_mono (j := j + 1) (HT1.out.trans h)
      clear hp
      obtain ⟨xe, xn⟩ := x
      dsimp only at a0 a1
      by_cases q1 : o.t = t
      · by_cases q2 : o.k = k
        · by_cases q3 : xe = 0
          · subst q3
            by_cases q4 : o.d = 2
            · have HB := Lib.hid (DONE.out (by unfold wroteP; simp [q1, q2, q4]))
              go_wp2
              go_ret
              exact ⟨by rw [HB.out]; rfl, HN.out⟩
            · by_cases q5 : o.d = 3
              · have HB := Lib.hid (DONE.out (by unfold wroteP; simp [q1, q2, q5]))
                go_wp2
                go_ret
                exact ⟨by rw [HB.out]; rfl, HN.out⟩
              · have HB : Hid (wroteB t k ((ops.zip l).take (j + 1)) = false) := Lib.hid (HT1.out.trans (by unfold wroteP; simp [q4, q5]))
                go_wp2
                all_goals first | (exfalso; rename_i hcc; simp [q4, q5] at hcc; done) | skip
                exact ⟨⟨j + 1, by omega, by go_num, HN.out, HB.out⟩, by simp [intOf]; omega⟩
          · have HB : Hid (wroteB t k ((ops.zip l).take (j + 1)) = false) := Lib.hid (HT1.out.trans (by unfold wroteP; simp [q3]))
            go_wp2
            exact ⟨⟨j + 1, by omega, by go_num, HN.out, HB.out⟩, by simp [intOf]; omega⟩
        · have HB : Hid (wroteB t k ((ops.zip l).take (j + 1)) = false) := Lib.hid (HT1.out.trans (by unfold wroteP; simp [q2]))
          go_wp2
          exact ⟨⟨j + 1, by omega, by go_num, HN.out, HB.out⟩, by simp [intOf]; omega⟩
      · have HB : Hid (wroteB t k ((ops.zip l).take (j + 1)) = false) := Lib.hid (HT1.out.trans (by unfold wroteP; simp [q1]))
        go_wp2
        exact ⟨⟨j + 1, by omega, by go_num, HN.out, HB.out⟩, by simp [intOf]; omega⟩
    · obtain rfl : j = ops.length := by omega
      rw [List.take_of_length_le (by rw [List.length_zip]; omega)] at hno
      have HN := Lib.hid hN; have HNO := Lib.hid hno
      clear hN hno
      go_wp2
      go_ret
      exact ⟨by rw [HNO.out]; rfl, HN.out⟩
end
end Go.Proofs.Yteaeflmglppcdaa
