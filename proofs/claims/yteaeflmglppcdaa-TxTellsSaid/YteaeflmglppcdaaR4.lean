/- The contracts of behind and of its closure, which calls itself. -/
import Derived.Test.YteaeflmglppcdaaR3
import Derived.Laws.EntriesVeiled
namespace Go.Proofs.Yteaeflmglppcdaa
open Go.RowKit Tx

section
variable {w : World} {s m : Nat} {vi vr va vo : Value} {st : St} {F : Nat → Prop}

/-- Was a key written behind the instant n, at i or ahead? -/
def lookB (st : St) (k n : Nat) : Nat → Bool
  | 0 => false
  | i + 1 => decide (n < i + 1) && ((st.inst (i + 1)).wrote k || lookB st k n i)

theorem lookB_eq (st : St) (k n : Nat) : ∀ i, lookB st k n i = (List.range (i + 1)).any fun j => decide (n < j) && (st.inst j).wrote k := by
  intro i
  induction i with
  | zero => simp [lookB]
  | succ i ih =>
    rw [List.range_succ, List.any_append, ← ih]
    simp only [lookB, List.any_cons, List.any_nil, Bool.or_false]
    by_cases h : n < i + 1
    · simp [h, Bool.or_comm]
    · simp only [h, decide_false, Bool.false_and, Bool.or_false]
      symm
      rw [ih]
      rw [List.any_eq_false]
      intro j hj
      have : j < i + 1 := by simpa using hj
      have : ¬ n < j := by omega
      simp [this]

theorem drewN_more (w : World) (q a b : Nat) : ∃ n, (w.drewN (q + a)).drewN b = w.drewN (q + n) := ⟨a + b, by rw [World.drewN_drewN, Nat.add_assoc]⟩

/-- What the closure finds in the variables that it has captured. -/
structure Caught (w : World) (s k n bn bs bk bl : Nat) : Prop where
  hn : w.cell? ⟨bn, 0, none⟩ = some (.int .i64 n)
  hs : w.cell? ⟨bs, 0, none⟩ = some (.pointer (some ⟨s, 0, none⟩))
  hk : w.cell? ⟨bk, 0, none⟩ = some (.int .i64 k)
  hl : w.cell? ⟨bl, 0, none⟩ = some (.func (.func 76) #[] #[.pointer (some ⟨bn, 0, none⟩), .pointer (some ⟨bs, 0, none⟩), .pointer (some ⟨bk, 0, none⟩), .pointer (some ⟨bl, 0, none⟩)])

set_option maxRecDepth 100000 in
set_option maxHeartbeats 1000000 in
theorem behind_closure (hX : RepX w s vi m vr va vo st) (k n bn bs bk bl : Nat) (hk : k < 16) (hc : Caught w s k n bn bs bk bl) : ∀ (i : Nat), i < st.insts.length → ∀ (x : Int), x = i → ∀ q,
    Calls Try.prog 76 #[.int .i64 x, .pointer (some ⟨bn, 0, none⟩), .pointer (some ⟨bs, 0, none⟩), .pointer (some ⟨bk, 0, none⟩), .pointer (some ⟨bl, 0, none⟩)] (w.drewN q) fun e w' =>
      e = .returned (.bool (lookB st k n i)) ∧ ∃ q', w' = (w.drewN q).drewN q' := by
  have hX' := hX
  obtain ⟨g, cap, rfl, hm, hgs, hcell⟩ := hX.slice
  have v0 : w.cell? ⟨s, 0, none⟩ = some (.slice (some ⟨g, 0, none⟩) st.insts.length cap) := hX.blk.cell (by omega)
  obtain ⟨hn, hs, hk1, hl⟩ := hc
  have b3 : (0 : Int) ≤ (k : Int) := by omega
  have b4 : (k : Int) < 16 := by omega
  intro i
  induction i with
  | zero =>
    intro _ x hx q
    have hd : decide ((n : Int) < x) = false := by simp; omega
    clear hcell hX hX' hm hx
    go_enter Try.func76, Try.ntmps76
    go_wp2
    go_quiet (fail)
    go_wp2
    go_ret
    exact ⟨rfl, _, rfl⟩
  | succ i ih =>
    intro hi x hx q
    by_cases h : n < i + 1
    · have hd : decide ((n : Int) < x) = true := by simp; omega
      have w0 : w.cell? ⟨g, x.toNat * 33 + 16 + k, none⟩ = some (.bool ((st.inst (i + 1)).wrote k)) := by
        have hx2 : x.toNat = i + 1 := by omega
        rw [hx2, Nat.add_assoc, hcell (i + 1) (16 + k) hi (by omega)]
        have h1 : ¬ 16 + k < 16 := by omega
        have h2 : 16 + k < 32 := by omega
        simp only [instCell, h1, h2, if_false, if_true]
        rw [Nat.add_sub_cancel_left]
      have b1 : x < (st.insts.length : Int) := by omega
      have b2 : (0 : Int) ≤ x := by omega
      have b5 : x ≤ 9223372036854775807 := by unfold maxLen at hm; omega
      have hih := ih (by omega) (x - 1) (by omega)
      cases hw : (st.inst (i + 1)).wrote k
      · have hv : lookB st k n (i + 1) = lookB st k n i := by simp [lookB, h, hw]
        have HV := Lib.hid hv; have HIH := Lib.hid hih
        rw [hw] at w0
        clear hcell hX hX' hm hw hv ih hih hi hx
        go_enter Try.func76, Try.ntmps76
        go_wp2
        have hwr : IntKind.i64.wrap (x - 1) = x - 1 := IntWalk.i64_in _ (by omega)
        go_quiet ((go_at_call 76; refine (HIH.out _).mono ?_; rintro e w' ⟨rfl, q', rfl⟩; exact ⟨rfl, drewN_more _ _ _ _⟩))
        go_wp2
        go_ret
        rw [HV.out]
        exact ⟨rfl, _, rfl⟩
      · have hv : lookB st k n (i + 1) = true := by simp [lookB, h, hw]
        have HV := Lib.hid hv
        rw [hw] at w0
        clear hcell hX hX' hm hw hv ih hih hi hx
        go_enter Try.func76, Try.ntmps76
        go_wp2
        go_quiet (fail)
        go_wp2
        go_ret
        rw [HV.out]
        exact ⟨rfl, _, rfl⟩
    · have hd : decide ((n : Int) < x) = false := by simp; omega
      have hv : lookB st k n (i + 1) = false := by simp [lookB, h]
      have HV := Lib.hid hv
      clear hcell hX hX' hm ih hi hv hx
      go_enter Try.func76, Try.ntmps76
      go_wp2
      go_quiet (fail)
      go_wp2
      go_ret
      rw [HV.out]
      exact ⟨rfl, _, rfl⟩

set_option maxRecDepth 100000 in
set_option maxHeartbeats 1000000 in
theorem behind_any (hX : RepX w s vi m vr va vo st) (k n : Nat) (hk : k < 16) :
    Calls Try.prog 75 #[.pointer (some ⟨s, 0, none⟩), .int .i64 k, .int .i64 n] w fun e w' => e = .returned (.bool (behind st k n)) ∧ New w w' := by
  have hmf : ∀ (fn : Fn) (first cap : Array Value) (w : World), (Instr.makeFunc fn first cap).run Try.prog w = .ok (.func fn first cap) w := fun _ _ _ _ => rfl
  have hs := hX.blk.lt
  go_enter Try.func75, Try.ntmps75
  go_wp2
  generalize hwa : (((w.alloc (.cells #[.pointer (some ⟨s, 0, none⟩)] 73)).alloc (.cells #[.int .i64 k] 3)).alloc (.cells #[.int .i64 n] 3)).alloc (.cells #[.func (.func 76) #[] #[.pointer (some ⟨w.heap.size + 1 + 1, 0, none⟩), .pointer (some ⟨w.heap.size, 0, none⟩), .pointer (some ⟨w.heap.size + 1, 0, none⟩), .pointer (some ⟨w.heap.size + 1 + 1 + 1, 0, none⟩)]] 125) = wa
  have hN : New w wa := by rw [← hwa]; exact ((((Chg.refl _ w).alloc _).alloc _).alloc _).alloc _
  have hC : Caught wa s k n (w.heap.size + 1 + 1) w.heap.size (w.heap.size + 1) (w.heap.size + 1 + 1 + 1) := by
    rw [← hwa]
    exact ⟨by simp [go_sem], by simp [go_sem], by simp [go_sem], by simp [go_sem]⟩
  have hXa := hX.new hN
  obtain ⟨c1, c2, c3, c4⟩ := id hC
  have hne := hX.ne
  have hcl : Hid (∀ q, Calls Try.prog 76 #[.int .i64 ((st.insts.length : Int) - 1), .pointer (some ⟨w.heap.size + 1 + 1, 0, none⟩), .pointer (some ⟨w.heap.size, 0, none⟩), .pointer (some ⟨w.heap.size + 1, 0, none⟩), .pointer (some ⟨w.heap.size + 1 + 1 + 1, 0, none⟩)] (wa.drewN q) fun e w' =>
      e = .returned (.bool (lookB st k n (st.insts.length - 1))) ∧ ∃ q', w' = (wa.drewN q).drewN q') := behind_closure hXa k n _ _ _ _ hk hC (st.insts.length - 1) (by omega) _ (by omega)
  have hla : Hid (∀ q, Calls Try.prog 39 #[.pointer (some ⟨s, 0, none⟩)] (wa.drewN q) fun e w' => e = .returned (.int .i64 ((st.insts.length : Int) - 1)) ∧ w' = wa.drewN q) := fun q => last_rep (hXa.new ((Chg.refl _ _).drewN q))
  have hfin : Hid (lookB st k n (st.insts.length - 1) = behind st k n) := by
    show _ = _
    rw [lookB_eq, show st.insts.length - 1 + 1 = st.insts.length from by omega]
    rfl
  clear hwa hC hXa hX
  go_quiet ((first | (go_at_call 39; exact Calls.quiet_of_same (hla.out _)) | (go_at_call 76; exact Calls.quiet_of (hcl.out _))))
  go_wp2
  go_ret
  rw [hfin.out]
  exact ⟨rfl, hN.drewN _⟩
end
end Go.Proofs.Yteaeflmglppcdaa
