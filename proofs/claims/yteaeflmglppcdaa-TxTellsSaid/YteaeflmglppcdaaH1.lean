/- The contracts of slices.Concat at two scripts, of joined, and of (*store).of. -/
import Derived.Test.YteaeflmglppcdaaH0
import Derived.Laws.OwnMore
import Derived.LoopN
namespace Go.Proofs.Yteaeflmglppcdaa
open Go.RowKit Tx

theorem row_shape {w : World} {B : Nat} {T : TypeId} {sz : Nat} {v : Value} {n : Nat} {xs : List Value} (h : w.ownsRow B T sz v n xs) : ∃ a c, v = .slice a n c := by
  rcases h.2 with ⟨rfl, rfl⟩ | ⟨g, cap, cur, rfl, _⟩
  · exact ⟨_, _, rfl⟩
  · exact ⟨_, _, rfl⟩
/-- A script of the call's own, put behind another. -/
theorem run_append_row (w : World) (ty : TypeId) {v v2 : Value} {n m : Nat} {xs news : List Value} (h : w.ownsRow 0 47 4 v n xs) (h2 : w.ownsRow 0 47 4 v2 m news) (h1 : ∀ u ∈ news, u.oneCell' = true) (hb : n + m ≤ 1000000) :
    ∃ v' w', (Builtin.append_ #[22, 22] ty #[v, v2]).run Try.prog w = .ok v' w' ∧ w'.ownsRow 0 47 4 v' (n + m) (xs ++ news) ∧ w.grownBy w' v.ownBlock ∧ (v'.ownBlock = v.ownBlock ∨ v'.ownBlock = some w.heap.size) := by
  obtain ⟨i0, hi0, hz0, hz1, hz2⟩ := info_parts Try.info47
  rcases h2.2 with ⟨rfl, rfl⟩ | ⟨g, cap, cur, rfl, _, hg, hnc, hcm, hcs, ht⟩
  · have hnl : news = [] := List.eq_nil_of_length_eq_zero (by simpa using h2.1)
    subst hnl
    exact ⟨v, w, run_append_owned_none w 0 22 ty 47 i0 4 Try.underlying22 hi0 v n xs h, by simpa using h, World.grownBy.refl _ _, .inl rfl⟩
  · obtain ⟨v', w', hr, ho, hgr, _, hat⟩ := run_append_own_at (P := Try.prog) w 0 22 ty 47 i0 zero47 4 32 Try.underlying22 hi0 hz0 hz1 hz2 rfl (by decide) v n xs h ⟨g, 0, none⟩ m cap news h2.1 (fun j u hu => by
      have ha0 : (⟨g, 0, none⟩ : Addr).add j = ⟨g, j, none⟩ := by
        cases j with
        | zero => rfl
        | succ k => simp [Addr.add]
      rw [ha0, cell_of_row w g j cur 47 _ hg]
      rw [← ht, List.getElem?_take] at hu
      split at hu
      · simpa using hu
      · cases hu) h1 (by unfold maxLen; omega) (by omega) (Nat.zero_le _)
    exact ⟨v', w', hr, ho, hgr, hat⟩
theorem wpList_append_row {w : World} {ops : Array Oper} {rest : List Oper} {o : Oper} {a : Act} {Q : Exit → Act → World → Prop} (hgd : o.guard = none) (s x : Operand)
    (ho : o.op = .call { callee := .builtin .append, args := #[s, x], argTypes := #[22, 22] }) {v v2 : Value} {n m : Nat} {xs news : List Value} (hs : a.eval s = v) (hx : a.eval x = v2)
    (h : w.ownsRow 0 47 4 v n xs) (h2 : w.ownsRow 0 47 4 v2 m news) (h1 : ∀ u ∈ news, u.oneCell' = true) (hb : n + m ≤ 1000000)
    (hK : ∀ v' w', w'.ownsRow 0 47 4 v' (n + m) (xs ++ news) → w.grownBy w' v.ownBlock → (v'.ownBlock = v.ownBlock ∨ v'.ownBlock = some w.heap.size) → wpList Try.prog ops Q rest (a.put o.dst v') w') : wpList Try.prog ops Q (o :: rest) a w :=
  wpList_plain hgd fun _ hK' => by
    obtain ⟨v', w', hr, h3, h4, h5⟩ := run_append_row w o.type h h2 h1 hb
    unfold Oper.wp execOp
    simp only [ho, resolve, invoke, builtin, Sem.run_bind, Sem.run_pure, Result.andThen_ok, List.map_toArray, List.map_cons, List.map_nil, hs, hx, hr]
    exact hK' _ _ (hK v' w' h3 h4 h5)

theorem grow_any (n : Nat) (h2 : n ≤ 100000) (w : World) : Calls Try.prog 60 #[.slice none 0 0, .int .i64 n] w fun e w' =>
    ∃ v, e = .returned v ∧ New w w' ∧ w'.ownsRow 0 47 4 v 0 [] ∧ ∀ g, v.ownBlock = some g → w.heap.size ≤ g := by
  rcases Nat.eq_zero_or_pos n with rfl | hn
  · refine (grow_none w).mono ?_
    rintro e w' ⟨rfl, rfl⟩
    exact ⟨_, rfl, Chg.refl _ _, World.ownsRow_nil _ _ _ _, fun g hg => by simp [Value.ownBlock] at hg⟩
  · refine (grow_some n hn h2 w).mono ?_
    rintro e w' ⟨cap, rfl, hN, ho⟩
    exact ⟨_, rfl, hN, ho, fun g hg => by simp [Value.ownBlock] at hg; omega⟩
section
variable {w : World}
set_option maxRecDepth 100000 in
set_option maxHeartbeats 1000000 in
theorem concat_two {b c : Nat} {v1 v2 : Value} {n1 n2 : Nat} {L1 L2 : List Value} (h0 : w.cell? ⟨b, 0, none⟩ = some v1) (h1 : w.cell? ⟨b, 1, none⟩ = some v2) (r1 : w.ownsRow 0 47 4 v1 n1 L1) (r2 : w.ownsRow 0 47 4 v2 n2 L2)
    (o1 : ∀ u ∈ L1, u.oneCell' = true) (o2 : ∀ u ∈ L2, u.oneCell' = true) (hn : n1 + n2 ≤ 90000) :
    Calls Try.prog 53 #[.slice (some ⟨b, 0, none⟩) 2 c] w fun e w' => ∃ v, e = .returned v ∧ New w w' ∧ w'.ownsRow 0 47 4 v (n1 + n2) (L1 ++ L2) ∧ ∀ g, v.ownBlock = some g → w.heap.size ≤ g := by
  obtain ⟨a1, c1, rfl⟩ := row_shape r1
  obtain ⟨a2, c2, rfl⟩ := row_shape r2
  have hb : b < w.heap.size := World.block_lt_of_cell? w _ h0
  have HG : Hid (∀ w', Calls Try.prog 60 #[.slice none 0 0, .int .i64 ((n1 : Int) + (n2 : Int))] w' fun e w2 =>
    ∃ v, e = .returned v ∧ New w' w2 ∧ w2.ownsRow 0 47 4 v 0 [] ∧ ∀ g, v.ownBlock = some g → w'.heap.size ≤ g) := fun w' => by
      have := grow_any (n1 + n2) (by omega) w'
      simpa using this
  have R1 := Lib.hid r1; have R2 := Lib.hid r2; have O1 := Lib.hid o1; have O2 := Lib.hid o2
  clear r1 r2 o1 o2
  have k1 : (n1 : Int) + (n2 : Int) ≤ 90000 := by omega
  have k2 : (0 : Int) ≤ (n1 : Int) := by omega
  have k3 : (0 : Int) ≤ (n2 : Int) := by omega
  have k4 : (0 : Int) ≤ (n1 : Int) + (n2 : Int) := by omega
  go_enter Try.func53, Try.ntmps53
  go_wp2
  refine wp_loop_rounds 3 ?_
  rw [rounds_succ]; go_wp2
  rw [rounds_succ]; go_wp2
  rw [rounds_succ]
  go_wp2_with ((refine (HG.out _).mono ?_); rintro e w6 ⟨v6, rfl, hN6, hown6, hge6⟩; have h06 : w6.cell? ⟨b, 0, none⟩ = some (.slice a1 n1 c1) := (hN6.cell (a := ⟨b, 0, none⟩) hb (fun x => x)).trans h0; have h16 : w6.cell? ⟨b, 1, none⟩ = some (.slice a2 n2 c2) := (hN6.cell (a := ⟨b, 1, none⟩) hb (fun x => x)).trans h1; have HO6 := Lib.hid hown6; have HR16 := Lib.hid (hN6.ownsRow R1.out (fun _ _ x => x)); clear hown6)
  refine wp_loop_rounds 3 ?_
  rw [rounds_succ]
  go_wp2_with (refine wpList_append_row (v := v6) (v2 := .slice a1 n1 c1) rfl _ _ rfl rfl rfl HO6.out HR16.out O1.out (by omega) ?_; intro v7 w7 hown7 hg7 hat7; have hN7 := hN6.grown hg7 (fun k hk hlt => absurd (hge6 k hk) (by omega)); have h17 : w7.cell? ⟨b, 1, none⟩ = some (.slice a2 n2 c2) := (hN7.cell (a := ⟨b, 1, none⟩) hb (fun x => x)).trans h1; have HO7 := Lib.hid hown7; have HR27 := Lib.hid (hN7.ownsRow R2.out (fun _ _ x => x)); clear hown7)
  have hge7 : ∀ g, v7.ownBlock = some g → w.heap.size ≤ g := fun g hg => by
    rcases hat7 with h | h
    · exact hge6 g (by rw [← h]; exact hg)
    · rw [h] at hg; cases hg; exact hN6.size
  rw [rounds_succ]
  go_wp2_with (refine wpList_append_row (v := v7) (v2 := .slice a2 n2 c2) rfl _ _ rfl rfl rfl HO7.out HR27.out O2.out (by omega) ?_; intro v8 w8 hown8 hg8 hat8; have hN8 := hN7.grown hg8 (fun k hk hlt => absurd (hge7 k hk) (by omega)); have HO8 := Lib.hid hown8; clear hown8)
  have hge8 : ∀ g, v8.ownBlock = some g → w.heap.size ≤ g := fun g hg => by
    rcases hat8 with h | h
    · exact hge7 g (by rw [← h]; exact hg)
    · rw [h] at hg; cases hg; exact hN7.size
  rw [rounds_succ]
  go_wp2
  go_ret
  have := HO8.out
  rw [List.nil_append, Nat.zero_add] at this
  exact ⟨_, rfl, hN8, this, hge8⟩
theorem joined_two {b c : Nat} {v1 v2 : Value} {n1 n2 : Nat} {L1 L2 : List Value} (h0 : w.cell? ⟨b, 0, none⟩ = some v1) (h1 : w.cell? ⟨b, 1, none⟩ = some v2) (r1 : w.ownsRow 0 47 4 v1 n1 L1) (r2 : w.ownsRow 0 47 4 v2 n2 L2)
    (o1 : ∀ u ∈ L1, u.oneCell' = true) (o2 : ∀ u ∈ L2, u.oneCell' = true) (hn : n1 + n2 ≤ 90000) :
    Calls Try.prog 47 #[.slice (some ⟨b, 0, none⟩) 2 c] w fun e w' => ∃ v, e = .returned v ∧ New w w' ∧ w'.ownsRow 0 47 4 v (n1 + n2) (L1 ++ L2) ∧ ∀ g, v.ownBlock = some g → w.heap.size ≤ g := by
  have HC := Lib.hid (concat_two (c := c) h0 h1 r1 r2 o1 o2 hn)
  clear h0 h1 r1 r2 o1 o2
  go_enter Try.func47, Try.ntmps47
  go_wp2_with ((refine HC.out.mono ?_); rintro e w ⟨v, rfl, hN, ho, hge⟩)
  go_ret
  exact ⟨_, rfl, hN, ho, hge⟩
/-- What of hands back: the iterator, over the boxes of its two arguments. -/
theorem of_any (s : Nat) (t : Int) : Calls Try.prog 46 #[.pointer (some ⟨s, 0, none⟩), .int .i64 t] w fun e w' =>
    e = .returned (.func (.func 52) #[] #[.pointer (some ⟨w.heap.size, 0, none⟩), .pointer (some ⟨w.heap.size + 1, 0, none⟩)]) ∧ w' = (w.alloc (.cells #[.pointer (some ⟨s, 0, none⟩)] 73)).alloc (.cells #[.int .i64 t] 3) := by
  have hmf : ∀ (fn : Fn) (first cap : Array Value) (w : World), (Instr.makeFunc fn first cap).run Try.prog w = .ok (.func fn first cap) w := fun _ _ _ _ => rfl
  go_enter Try.func46, Try.ntmps46
  go_wp2
  go_ret
  refine ⟨?_, rfl⟩
  simp
end
end Go.Proofs.Yteaeflmglppcdaa
