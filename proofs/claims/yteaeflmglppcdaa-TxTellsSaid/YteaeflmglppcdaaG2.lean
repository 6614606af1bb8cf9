/- The contract of Same: are two lists of answers the same? -/
import Derived.Test.YteaeflmglppcdaaG1
import Derived.Laws.StructEq
namespace Go.Proofs.Yteaeflmglppcdaa
open Go.RowKit Tx

/-- A list of answers lies in memory. -/
structure AnsAt (w : World) (a : Option Addr) (b off : Nat) (xs : List Ans) : Prop where
  len : xs.length ≤ maxLen
  ptr : xs ≠ [] → a = some ⟨b, off, none⟩
  cell : ∀ (i : Nat) (x : Ans), xs[i]? = some x → w.cell? ⟨b, off + i * 2, none⟩ = some (.int .i64 x.e) ∧ w.cell? ⟨b, off + i * 2 + 1, none⟩ = some (.int .i64 x.n)
theorem take_more' {α : Type} {xs ys : List α} {i : Nat} {x y : α} (hx : xs[i]? = some x) (hy : ys[i]? = some y) (h : xs.take i = ys.take i) : x = y ↔ xs.take (i + 1) = ys.take (i + 1) := by
  obtain ⟨h1, e1⟩ := (List.getElem?_eq_some_iff.1 hx)
  obtain ⟨h2, e2⟩ := (List.getElem?_eq_some_iff.1 hy)
  rw [List.take_succ_eq_append_getElem h1, List.take_succ_eq_append_getElem h2, h, e1, e2]
  simp
theorem fields49 : (Try.prog.fieldsOf 49).toList = [(Try.prog.fieldsOf 49)[0]!, (Try.prog.fieldsOf 49)[1]!] := by kernel_rfl
theorem part49_0 (a b : Int) (w : World) : (part ((Try.prog.fieldsOf 49)[0]!).type #[.int .i64 a, .int .i64 b] ((Try.prog.fieldsOf 49)[0]!).offset).run Try.prog w = .ok (.int .i64 a) w := by kernel_rfl
theorem part49_1 (a b : Int) (w : World) : (part ((Try.prog.fieldsOf 49)[1]!).type #[.int .i64 a, .int .i64 b] ((Try.prog.fieldsOf 49)[1]!).offset).run Try.prog w = .ok (.int .i64 b) w := by kernel_rfl
theorem name49_0 : (((Try.prog.fieldsOf 49)[0]!).name == "_") = false := by kernel_rfl
theorem name49_1 : (((Try.prog.fieldsOf 49)[1]!).name == "_") = false := by kernel_rfl
theorem und49_0 : Try.prog.underlying ((Try.prog.fieldsOf 49)[0]!).type = some (.int .i64) := by kernel_rfl
theorem und49_1 : Try.prog.underlying ((Try.prog.fieldsOf 49)[1]!).type = some (.int .i64) := by kernel_rfl
theorem neq49 (x y : Ans) (w : World) : (binOp .neq 49 (.agg #[.int .i64 x.e, .int .i64 x.n]) (.agg #[.int .i64 y.e, .int .i64 y.n])).run Try.prog w = .ok (.bool (!(x.e == y.e && x.n == y.n))) w := by
  rw [run_neq_struct]
  rw [run_equalIn_agg w 9999 49 _ _ (by kernel_rfl) (by kernel_rfl), fields49]
  have n0 : ((Try.prog.fieldsOf 49)[0]!).name ≠ "_" := by simpa using name49_0
  have n1 : ((Try.prog.fieldsOf 49)[1]!).name ≠ "_" := by simpa using name49_1
  have q0 := run_equalIn_int (P := Try.prog) w 9998 _ .i64 .i64 x.e y.e und49_0
  have q1 := run_equalIn_int (P := Try.prog) w 9998 _ .i64 .i64 x.n y.n und49_1
  simp only [Op.eqFields, if_pos n0, if_pos n1, Sem.run_bind, part49_0, part49_1, q0, q1, Result.andThen_ok]
  cases h : (x.e == y.e)
  · simp
  · simp only [Bool.not_true, Bool.false_eq_true, if_false, Sem.run_bind, if_pos n1, part49_1, q1, Result.andThen_ok, Bool.true_and]
    cases h2 : (x.n == y.n) <;> simp
theorem ans_beq (x y : Ans) : (x.e == y.e && x.n == y.n) = decide (x = y) := by
  obtain ⟨a, b⟩ := x
  obtain ⟨c, d⟩ := y
  by_cases h1 : a = c <;> by_cases h2 : b = d <;> simp [h1, h2]
section
variable {w : World}
set_option maxRecDepth 100000 in
set_option maxHeartbeats 1000000 in
theorem same_any (a a' : Option Addr) (b b' off off' c c' : Nat) (xs ys : List Ans) (hx : AnsAt w a b off xs) (hy : AnsAt w a' b' off' ys) :
    Calls Try.prog 22 #[.slice a xs.length c, .slice a' ys.length c'] w fun e w' => e = .returned (.bool (decide (xs = ys))) ∧ ∃ q, w' = w.drewN q := by
  have hl := hx.len
  have hl2 := hy.len
  unfold maxLen at hl hl2
  have hl63 : (xs.length : Int) ≤ 9223372036854775807 := by omega
  have hl64 : (ys.length : Int) ≤ 9223372036854775807 := by omega
  by_cases hle : xs.length = ys.length
  · have hle2 : (xs.length : Int) = (ys.length : Int) := by omega
    go_enter Try.func22, Try.ntmps22
    go_wp2
    go_loopw [5] (fun v wr => ∃ i : Nat, v = .int .i64 i ∧ i ≤ xs.length ∧ (∃ q, wr = w.drewN q) ∧ xs.take i = ys.take i) (fun v _ => xs.length - (intOf v).toNat)
    case atStart => exact ⟨0, rfl, by omega, ⟨0, rfl⟩, by simp⟩
    case round =>
      obtain ⟨i, rfl, hile, ⟨q, rfl⟩, hte⟩ := hrel
      by_cases hlt : i < xs.length
      · obtain ⟨x, hxi⟩ : ∃ x, xs[i]? = some x := ⟨_, List.getElem?_eq_getElem hlt⟩
        obtain ⟨y, hyi⟩ : ∃ y, ys[i]? = some y := ⟨_, List.getElem?_eq_getElem (by omega)⟩
        have hnx : xs ≠ [] := fun e => by rw [e] at hlt; simp at hlt
        have hny : ys ≠ [] := fun e => by rw [e] at hyi; simp at hyi
        obtain rfl := hx.ptr hnx
        obtain rfl := hy.ptr hny
        obtain ⟨c0, c0'⟩ := hx.cell i x hxi
        obtain ⟨c1, c1'⟩ := hy.cell i y hyi
        have i3 : (0 : Int) ≤ (i : Int) := by omega
        have i4 : (i : Int) < (xs.length : Int) := by omega
        have i5 : (i : Int) < (ys.length : Int) := by omega
        have HT := Lib.hid (take_more' hxi hyi hte)
        clear hte hxi hyi
        have hnq := neq49 x y
        go_wp2
        go_quiet (fail)
        have hbq : ((!x.e == y.e) || !x.n == y.n) = !decide (x = y) := by rw [← ans_beq]; simp
        rw [hbq]
        by_cases hxy : x = y
        · have hd : (!decide (x = y)) = false := by simp [hxy]
          rw [hd]
          go_wp2
          refine ⟨⟨i + 1, by go_num, by omega, ⟨_, rfl⟩, HT.out.1 hxy⟩, by simp [intOf]; omega⟩
        · have hd : (!decide (x = y)) = true := by simp [hxy]
          rw [hd]
          have HNE : Hid (xs ≠ ys) := fun e => hxy (HT.out.2 (by rw [e]))
          go_wp2
          go_ret
          exact ⟨by simp [HNE.out], q + nq, World.drewN_drewN _ _ _⟩
      · have hii : i = xs.length := by omega
        subst hii
        have he : xs = ys := by
          rw [List.take_length, hle, List.take_length] at hte
          exact hte
        have HE := Lib.hid he
        clear hte hle he hlt hile hle2
        go_wp2
        go_ret
        exact ⟨by simp [HE.out], _, rfl⟩
  · have hle2 : ¬ (xs.length : Int) = (ys.length : Int) := by omega
    have hne : xs ≠ ys := fun e => hle (by rw [e])
    have HNE := Lib.hid hne
    clear hne hle
    go_enter Try.func22, Try.ntmps22
    go_wp2
    go_ret
    exact ⟨by simp [HNE.out], 0, rfl⟩
end
end Go.Proofs.Yteaeflmglppcdaa
