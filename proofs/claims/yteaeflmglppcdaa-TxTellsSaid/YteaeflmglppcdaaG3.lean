/- The contract of SameOps: are two scripts the same? -/
import Derived.Test.YteaeflmglppcdaaG2
import Derived.Laws.StructEq
namespace Go.Proofs.Yteaeflmglppcdaa
open Go.RowKit Tx

theorem fields47 : (Try.prog.fieldsOf 47).toList = [(Try.prog.fieldsOf 47)[0]!, (Try.prog.fieldsOf 47)[1]!, (Try.prog.fieldsOf 47)[2]!, (Try.prog.fieldsOf 47)[3]!] := by kernel_rfl
theorem part47_0 (a b c d : Int) (w : World) : (part ((Try.prog.fieldsOf 47)[0]!).type #[.int .i64 a, .int .i64 b, .int .i64 c, .int .i64 d] ((Try.prog.fieldsOf 47)[0]!).offset).run Try.prog w = .ok (.int .i64 a) w := by kernel_rfl
theorem name47_0 : ((Try.prog.fieldsOf 47)[0]!).name ≠ "_" := by
  have : (((Try.prog.fieldsOf 47)[0]!).name == "_") = false := by kernel_rfl
  simpa using this
theorem und47_0 : Try.prog.underlying ((Try.prog.fieldsOf 47)[0]!).type = some (.int .i64) := by kernel_rfl
theorem part47_1 (a b c d : Int) (w : World) : (part ((Try.prog.fieldsOf 47)[1]!).type #[.int .i64 a, .int .i64 b, .int .i64 c, .int .i64 d] ((Try.prog.fieldsOf 47)[1]!).offset).run Try.prog w = .ok (.int .i64 b) w := by kernel_rfl
theorem name47_1 : ((Try.prog.fieldsOf 47)[1]!).name ≠ "_" := by
  have : (((Try.prog.fieldsOf 47)[1]!).name == "_") = false := by kernel_rfl
  simpa using this
theorem und47_1 : Try.prog.underlying ((Try.prog.fieldsOf 47)[1]!).type = some (.int .i64) := by kernel_rfl
theorem part47_2 (a b c d : Int) (w : World) : (part ((Try.prog.fieldsOf 47)[2]!).type #[.int .i64 a, .int .i64 b, .int .i64 c, .int .i64 d] ((Try.prog.fieldsOf 47)[2]!).offset).run Try.prog w = .ok (.int .i64 c) w := by kernel_rfl
theorem name47_2 : ((Try.prog.fieldsOf 47)[2]!).name ≠ "_" := by
  have : (((Try.prog.fieldsOf 47)[2]!).name == "_") = false := by kernel_rfl
  simpa using this
theorem und47_2 : Try.prog.underlying ((Try.prog.fieldsOf 47)[2]!).type = some (.int .i64) := by kernel_rfl
theorem part47_3 (a b c d : Int) (w : World) : (part ((Try.prog.fieldsOf 47)[3]!).type #[.int .i64 a, .int .i64 b, .int .i64 c, .int .i64 d] ((Try.prog.fieldsOf 47)[3]!).offset).run Try.prog w = .ok (.int .i64 d) w := by kernel_rfl
theorem name47_3 : ((Try.prog.fieldsOf 47)[3]!).name ≠ "_" := by
  have : (((Try.prog.fieldsOf 47)[3]!).name == "_") = false := by kernel_rfl
  simpa using this
theorem und47_3 : Try.prog.underlying ((Try.prog.fieldsOf 47)[3]!).type = some (.int .i64) := by kernel_rfl
theorem neq47 (x y : Tx.Op) (w : World) : (binOp .neq 47 (.agg #[.int .i64 x.d, .int .i64 x.t, .int .i64 x.k, .int .i64 x.n]) (.agg #[.int .i64 y.d, .int .i64 y.t, .int .i64 y.k, .int .i64 y.n])).run Try.prog w = .ok (.bool (!(x.d == y.d && (x.t == y.t && (x.k == y.k && x.n == y.n))))) w := by
  rw [run_neq_struct]
  rw [run_equalIn_agg w 9999 47 _ _ (by kernel_rfl) (by kernel_rfl), fields47]
  have q0 := run_equalIn_int (P := Try.prog) w 9998 _ .i64 .i64 x.d y.d und47_0
  have q1 := run_equalIn_int (P := Try.prog) w 9998 _ .i64 .i64 x.t y.t und47_1
  have q2 := run_equalIn_int (P := Try.prog) w 9998 _ .i64 .i64 x.k y.k und47_2
  have q3 := run_equalIn_int (P := Try.prog) w 9998 _ .i64 .i64 x.n y.n und47_3
  simp only [Op.eqFields, if_pos name47_0, if_pos name47_1, if_pos name47_2, if_pos name47_3, Sem.run_bind, part47_0, part47_1, part47_2, part47_3, q0, q1, q2, q3, Result.andThen_ok, Bool.not_true, Bool.not_false, Bool.false_eq_true, if_false, if_true, Bool.true_and, Sem.run_pure]
  cases h0 : (x.d == y.d)
  · simp
  · simp only [Op.eqFields, if_pos name47_0, if_pos name47_1, if_pos name47_2, if_pos name47_3, Sem.run_bind, part47_0, part47_1, part47_2, part47_3, q0, q1, q2, q3, Result.andThen_ok, Bool.not_true, Bool.not_false, Bool.false_eq_true, if_false, if_true, Bool.true_and, Sem.run_pure]
    cases h1 : (x.t == y.t)
    · simp
    · simp only [Op.eqFields, if_pos name47_0, if_pos name47_1, if_pos name47_2, if_pos name47_3, Sem.run_bind, part47_0, part47_1, part47_2, part47_3, q0, q1, q2, q3, Result.andThen_ok, Bool.not_true, Bool.not_false, Bool.false_eq_true, if_false, if_true, Bool.true_and, Sem.run_pure]
      cases h2 : (x.k == y.k)
      · simp
      · simp only [Op.eqFields, if_pos name47_0, if_pos name47_1, if_pos name47_2, if_pos name47_3, Sem.run_bind, part47_0, part47_1, part47_2, part47_3, q0, q1, q2, q3, Result.andThen_ok, Bool.not_true, Bool.not_false, Bool.false_eq_true, if_false, if_true, Bool.true_and, Sem.run_pure]
        cases h3 : (x.n == y.n) <;> simp
theorem op_beq (x y : Tx.Op) : (x.d == y.d && (x.t == y.t && (x.k == y.k && x.n == y.n))) = decide (x = y) := by
  obtain ⟨a, b, c, d⟩ := x
  obtain ⟨a', b', c', d'⟩ := y
  by_cases h1 : a = a' <;> by_cases h2 : b = b' <;> by_cases h3 : c = c' <;> by_cases h4 : d = d' <;> simp [h1, h2, h3, h4]
section
variable {w : World}
set_option maxRecDepth 100000 in
set_option maxHeartbeats 1000000 in
theorem sameOps_any (a a' : Option Addr) (b b' off off' c c' : Nat) (xs ys : List Tx.Op) (hx : OpsAt w a b off xs) (hy : OpsAt w a' b' off' ys) :
    Calls Try.prog 24 #[.slice a xs.length c, .slice a' ys.length c'] w fun e w' => e = .returned (.bool (decide (xs = ys))) ∧ ∃ q, w' = w.drewN q := by
  have hl := hx.len
  have hl2 := hy.len
  unfold maxLen at hl hl2
  have hl63 : (xs.length : Int) ≤ 9223372036854775807 := by omega
  have hl64 : (ys.length : Int) ≤ 9223372036854775807 := by omega
  by_cases hle : xs.length = ys.length
  · have hle2 : (xs.length : Int) = (ys.length : Int) := by omega
    go_enter Try.func24, Try.ntmps24
    go_wp2
    go_loopw [5] (fun v wr => ∃ i : Nat, v = .int .i64 i ∧ i ≤ xs.length ∧ (∃ q, wr = w.drewN q) ∧ xs.take i = ys.take i) (fun v _ => xs.length - (intOf v).toNat)
    case atStart => exact ⟨0, rfl, by omega, ⟨0, rfl⟩, by simp⟩
    case round =>
      obtain ⟨i, rfl, hile, ⟨q, rfl⟩, hte⟩ := hrel
      by_cases hlt : i < xs.length
      · obtain ⟨x, hxi⟩ : ∃ x, xs[i]? = some x := ⟨_, List.getElem?_eq_getElem hlt⟩
        obtain ⟨y, hyi⟩ : ∃ y, ys[i]? = some y := ⟨_, List.getElem?_eq_getElem (by omega)⟩
        have hnx : xs ≠ [] := fun e => by rw [e] at hlt; simp at hlt
        have hny : ys ≠ [] := fun e => by rw [e] at hyi; simp at hyi
        obtain rfl := hx.ptr hnx
        obtain rfl := hy.ptr hny
        have c0 : w.cell? ⟨b, off + i * 4, none⟩ = some (.int .i64 x.d) := hx.cell i x hxi 0 (by omega)
        have e0 : w.cell? ⟨b', off' + i * 4, none⟩ = some (.int .i64 y.d) := hy.cell i y hyi 0 (by omega)
        have c1 : w.cell? ⟨b, off + i * 4 + 1, none⟩ = some (.int .i64 x.t) := hx.cell i x hxi 1 (by omega)
        have e1 : w.cell? ⟨b', off' + i * 4 + 1, none⟩ = some (.int .i64 y.t) := hy.cell i y hyi 1 (by omega)
        have c2 : w.cell? ⟨b, off + i * 4 + 2, none⟩ = some (.int .i64 x.k) := hx.cell i x hxi 2 (by omega)
        have e2 : w.cell? ⟨b', off' + i * 4 + 2, none⟩ = some (.int .i64 y.k) := hy.cell i y hyi 2 (by omega)
        have c3 : w.cell? ⟨b, off + i * 4 + 3, none⟩ = some (.int .i64 x.n) := hx.cell i x hxi 3 (by omega)
        have e3 : w.cell? ⟨b', off' + i * 4 + 3, none⟩ = some (.int .i64 y.n) := hy.cell i y hyi 3 (by omega)
        have i3 : (0 : Int) ≤ (i : Int) := by omega
        have i4 : (i : Int) < (xs.length : Int) := by omega
        have i5 : (i : Int) < (ys.length : Int) := by omega
        have HT := Lib.hid (take_more' hxi hyi hte)
        clear hte hxi hyi
        have hnq := neq47 x y
        go_wp2
        go_quiet (fail)
        have hbq : ((!x.d == y.d) || ((!x.t == y.t) || ((!x.k == y.k) || !x.n == y.n))) = !decide (x = y) := by rw [← op_beq]; simp
        rw [hbq]
        by_cases hxy : x = y
        · have hd : (!decide (x = y)) = false := by simp [hxy]
          rw [hd]
          go_wp2
          refine ⟨⟨i + 1, by go_num, by omega, ⟨_, rfl⟩, HT.out.1 hxy⟩, by simp [intOf]; omega⟩
        · have hd : (!decide (x = y)) = true := by simp [hxy]
          rw [hd]
          have HNE : Hid (xs ≠ ys) := fun e => hxy (HT.out.2 (by rw [e]))
          go_wp2
          go_ret
          exact ⟨by simp [HNE.out], q + nq, World.drewN_drewN _ _ _⟩
      · have hii : i = xs.length := by omega
        subst hii
        have he : xs = ys := by
          rw [List.take_length, hle, List.take_length] at hte
          exact hte
        have HE := Lib.hid he
        clear hte hle he hlt hile hle2
        go_wp2
        go_ret
        exact ⟨by simp [HE.out], _, rfl⟩
  · have hle2 : ¬ (xs.length : Int) = (ys.length : Int) := by omega
    have hne : xs ≠ ys := fun e => hle (by rw [e])
    have HNE := Lib.hid hne
    clear hne hle
    go_enter Try.func24, Try.ntmps24
    go_wp2
    go_ret
    exact ⟨by simp [HNE.out], 0, rfl⟩
end
end Go.Proofs.Yteaeflmglppcdaa
