/- The contract of ran: a new store behind all operations. -/
import Derived.Test.YteaeflmglppcdaaE0
namespace Go.Proofs.Yteaeflmglppcdaa
open Go.RowKit Tx

def instLit : Array Value := #[.int .i64 0, .int .i64 0, .int .i64 0, .int .i64 0, .int .i64 0, .int .i64 0, .int .i64 0, .int .i64 0, .int .i64 0, .int .i64 0, .int .i64 0, .int .i64 0, .int .i64 0, .int .i64 0, .int .i64 0, .int .i64 0,
  .bool false, .bool false, .bool false, .bool false, .bool false, .bool false, .bool false, .bool false, .bool false, .bool false, .bool false, .bool false, .bool false, .bool false, .bool false, .bool false, .int .i64 (-1)]
theorem instLit_eq : instLit = (instCells Inst.zero).toArray := by kernel_rfl
theorem zero72 : Try.zeroCells72 = ((List.range 341).map (storeCell (.slice none 0 0) (.map none) (.slice none 0 0) (.slice none 0 0) (.slice none 0 0) (fun _ => Txn.zero))).toArray := by kernel_rfl
noncomputable def storeZ (a m o : Value) : Array Value := ((Try.zeroCells72.setIfInBounds 0 a).setIfInBounds 337 m).setIfInBounds 340 o
theorem size_storeZ (a m o : Value) : (storeZ a m o).size = 341 := by
  unfold storeZ
  simp only [Array.size_setIfInBounds]
  rw [zero72]; simp
theorem storeZ_at (a m o : Value) (i : Nat) (hi : i < 341) : (storeZ a m o)[i]? = some (storeCell a m (.slice none 0 0) (.slice none 0 0) o (fun _ => Txn.zero) i) := by
  have hs : Try.zeroCells72.size = 341 := by rw [zero72]; simp
  have hz : Try.zeroCells72[i]? = some (storeCell (.slice none 0 0) (.map none) (.slice none 0 0) (.slice none 0 0) (.slice none 0 0) (fun _ => Txn.zero) i) := by
    rw [zero72]; simp [hi]
  unfold storeZ
  simp only [Array.getElem?_setIfInBounds, Array.size_setIfInBounds, hs, hz]
  unfold storeCell
  by_cases h1 : i = 340
  · subst h1; simp
  · by_cases h2 : i = 337
    · subst h2; simp
    · by_cases h3 : i = 0
      · subst h3; simp
      · have h4 : ¬ 340 = i := fun e => h1 e.symm
        have h5 : ¬ 337 = i := fun e => h2 e.symm
        have h6 : ¬ 0 = i := fun e => h3 e.symm
        simp only [h4, h5, h6, if_false, h2, h3]
        by_cases h7 : i ≤ 336
        · simp [h7]
        · have h8 : i = 338 ∨ i = 339 := by omega
          rcases h8 with rfl | rfl <;> simp
/-- Where a new store is made. -/
noncomputable def storeW (w : World) (o : Value) : World :=
  ((w.alloc (.cells instLit 88)).alloc (.map #[] 0)).alloc (.cells (storeZ (.slice (some ⟨w.heap.size, 0, none⟩) 1 1) (.map (some (w.heap.size + 1))) o) 72)
theorem storeW_rep (w : World) (o : Value) : RepX (storeW w o) (w.heap.size + 1 + 1) (.slice (some ⟨w.heap.size, 0, none⟩) 1 1) (w.heap.size + 1) (.slice none 0 0) (.slice none 0 0) o St.zero := by
  have hn1 : New (w.alloc (.cells instLit 88)) (storeW w o) := ((Chg.refl _ _).alloc _).alloc _
  have hn2 : New ((w.alloc (.cells instLit 88)).alloc (.map #[] 0)) (storeW w o) := (Chg.refl _ _).alloc _
  refine { blk := ?_, insts := ?_, ne := by simp [St.zero], readers := World.ownsRow_nil _ _ _ _, map := ?_, sm := by omega, si := ?_, sr := by simp [Value.ownBlock], mi := ?_, mr := by simp [Value.ownBlock], ir := ?_ }
  · have := Blk.new ((w.alloc (.cells instLit 88)).alloc (.map #[] 0)) (storeZ (.slice (some ⟨w.heap.size, 0, none⟩) 1 1) (.map (some (w.heap.size + 1))) o) 72 _ (size_storeZ _ _ _) (storeZ_at _ _ _)
    have e : ((w.alloc (.cells instLit 88)).alloc (.map #[] 0)).heap.size = w.heap.size + 1 + 1 := by simp
    rw [e] at this
    exact this
  · refine hn1.ownsRow ?_ (fun _ _ x => x)
    refine ⟨by simp [St.zero, instCells], .inr ⟨w.heap.size, 1, instLit, rfl, Nat.zero_le _, heap_alloc_new w _, Nat.le_refl _, by decide, rfl, ?_⟩⟩
    rw [instLit_eq]
    simp [St.zero, instCells]
    rfl
  · have := MapIs.new (ek := ekCell) (ev := Value.int .i64) (w.alloc (.cells instLit 88))
    have e : (w.alloc (.cells instLit 88)).heap.size = w.heap.size + 1 := by simp
    rw [e] at this
    exact this.kept (hn2.block _ (by simp) (fun x => x))
  · simp [Value.ownBlock]; omega
  · simp [Value.ownBlock]
  · intro k _; simp [Value.ownBlock]
theorem storeW_new (w : World) (o : Value) : New w (storeW w o) := (((Chg.refl _ w).alloc _).alloc _).alloc _

theorem make_map (w : World) : (Instr.makeMap 70 none).run Try.prog w = .ok (.map (some w.heap.size)) (w.alloc (.map #[] 0)) := by kernel_rfl
section
variable {w : World}
theorem owns_slice {w : World} {base e size n : Nat} {v : Value} {xs : List Value} (h : w.ownsRow base e size v n xs) : ∃ a b c, v = .slice a b c := by
  rcases h.2 with ⟨rfl, _⟩ | ⟨g, cap, cur, rfl, _⟩
  · exact ⟨_, _, _, rfl⟩
  · exact ⟨_, _, _, rfl⟩
/-- The answers are kept. -/
theorem RepX.setAns {s m : Nat} {vi vr va vo : Value} {st : St} (h : RepX w s vi m vr va vo st) (v : Value) : RepX (w.setCell ⟨s, 339, none⟩ v) s vi m vr v vo st := by
  have hc : Chg (fun k => k = s) w (w.setCell ⟨s, 339, none⟩ v) := (Chg.refl (fun k => k = s) w).setCell (fun _ => rfl) _
  refine { blk := ?_, insts := ?_, ne := h.ne, readers := ?_, map := ?_, sm := h.sm, si := h.si, sr := h.sr, mi := h.mi, mr := h.mr, ir := h.ir }
  · refine (h.blk.set 339 _).congr fun i hi => ?_
    unfold upd storeCell
    by_cases e : i = 339
    · simp [e]
    · simp [e]
  · exact hc.ownsRow h.insts (fun k hk e => h.si (e ▸ hk))
  · exact hc.ownsRow h.readers (fun k hk e => h.sr (e ▸ hk))
  · exact h.map.kept (hc.block m h.map.lt (fun e => h.sm e.symm))
/-- What ran leaves. -/
def RanPost (w : World) (ops : List Tx.Op) (vo : Value) (e : Ending) (w' : World) : Prop :=
  ∃ s va F', e = .returned (.pointer (some ⟨s, 0, none⟩)) ∧ Rep w' s va vo (Tx.run St.zero ops).2 F' ∧ w'.ownsRow 0 49 2 va ops.length (ansRow (Tx.run St.zero ops).1) ∧ New w w' ∧
    (∀ k, F' k → w.heap.size ≤ k) ∧ (∀ g, va.ownBlock = some g → w.heap.size ≤ g ∧ ¬ F' g)
set_option maxRecDepth 100000 in
set_option maxHeartbeats 1000000 in
theorem ran_any (a : Option Addr) (b off c : Nat) (ops : List Tx.Op) (hO : OpsAt w a b off ops) (hl : ops.length ≤ 200) :
    Calls Try.prog 34 #[.slice a ops.length c] w (RanPost w ops (.slice a ops.length c)) := by
  have hmf : ∀ (fn : Fn) (first cap : Array Value) (w : World), (Instr.makeFunc fn first cap).run Try.prog w = .ok (.func fn first cap) w := fun _ _ _ _ => rfl
  have hmk := make_map
  have hl2 : (ops.length : Int) ≤ 200 := by omega
  have hX := storeW_rep w (.slice a ops.length c)
  have hN := storeW_new w (.slice a ops.length c)
  have hF : ∀ k, foot (w.heap.size + 1 + 1) (.slice (some ⟨w.heap.size, 0, none⟩) 1 1) (w.heap.size + 1) (.slice none 0 0) k → w.heap.size ≤ k := by
    rintro k (rfl | rfl | hk | hk)
    · omega
    · omega
    · simp [Value.ownBlock] at hk; omega
    · simp [Value.ownBlock] at hk
  have hF3 : ∀ k, foot (w.heap.size + 1 + 1) (.slice (some ⟨w.heap.size, 0, none⟩) 1 1) (w.heap.size + 1) (.slice none 0 0) k → k < w.heap.size + 3 := by
    rintro k (rfl | rfl | hk | hk)
    · omega
    · omega
    · simp [Value.ownBlock] at hk; omega
    · simp [Value.ownBlock] at hk
  have hL : Calls Try.prog 49 #[.slice a ops.length c, .func (.func 48) #[.pointer (some ⟨w.heap.size + 1 + 1, 0, none⟩)] #[]] (storeW w (.slice a ops.length c)) fun e w' =>
      ∃ v, e = .returned v ∧ ListPost (storeW w (.slice a ops.length c)) (foot (w.heap.size + 1 + 1) (.slice (some ⟨w.heap.size, 0, none⟩) 1 1) (w.heap.size + 1) (.slice none 0 0)) (w.heap.size + 1 + 1) (.slice none 0 0) (.slice a ops.length c) (Tx.run St.zero ops) v w' := by
    by_cases hne : ops = []
    · subst hne
      exact listed_any ⟨_, _, _, hX, fun k => Iff.rfl⟩ Good.zero a (w.heap.size + 5) off c [] ⟨by unfold maxLen; simp, fun h => absurd rfl h, fun i o hi => by simp at hi⟩ (fun h => by have := hF3 _ h; omega) (by simp)
    · have hb := hO.lt hne
      exact listed_any ⟨_, _, _, hX, fun k => Iff.rfl⟩ Good.zero a b off c ops (hO.kept hN (fun x => x)) (fun h => by have := hF _ h; omega) (by omega)
  have HL := Lib.hid hL
  have HN := Lib.hid hN
  have HF := Lib.hid hF
  clear hX hN hL hF hO hF3
  go_enter Try.func34, Try.ntmps34
  go_wp2_with (first | ((with_reducible refine (must_yes _ _).mono ?_); rintro e w ⟨rfl, rfl⟩) | ((refine HL.out.mono ?_); rintro e w4 ⟨v, rfl, hown, F4, ⟨vi, m, vr, hX4, hF4⟩, hC4, hFF4, hg4⟩; obtain ⟨va1, va2, va3, rfl⟩ := owns_slice hown; have e1 := hX4.blk.cell (i := 339) (by omega); have f1 := hX4.blk.free 339))
  have hX5 := hX4.setAns (.slice va1 va2 va3)
  have hC5 : Chg (fun k => k = w.heap.size + 1 + 1) w4 (w4.setCell ⟨w.heap.size + 1 + 1, 339, none⟩ (.slice va1 va2 va3)) := (Chg.refl (fun k => k = w.heap.size + 1 + 1) w4).setCell (fun _ => rfl) _
  have hN5 : New w (w4.setCell ⟨w.heap.size + 1 + 1, 339, none⟩ (.slice va1 va2 va3)) :=
    (HN.out.trans (Chg.refl _ _)).then (hC4.then hC5 (S' := fun k => k = w.heap.size + 1 + 1) (fun i _ e => .inl e)) (fun i hi h => by have := HF.out i h; omega)
  have hns : (Value.slice va1 va2 va3).ownBlock ≠ some (w.heap.size + 1 + 1) := fun h => (hg4 _ h).2 ((hF4 _).2 (.inl rfl))
  have hown5 := hC5.ownsRow hown (fun k hk e => hns (e ▸ hk))
  have hsz := HN.out.size
  have HR := Lib.hid (show RanPost w ops (.slice a ops.length c) (.returned (.pointer (some ⟨w.heap.size + 1 + 1, 0, none⟩))) (w4.setCell ⟨w.heap.size + 1 + 1, 339, none⟩ (.slice va1 va2 va3)) from
    ⟨_, _, F4, rfl, ⟨vi, m, vr, hX5, hF4⟩, by rw [length_run] at hown5; exact hown5, hN5, fun k hk => (hFF4 k hk).elim (HF.out k) (fun h => Nat.le_trans hsz h), fun g hg => ⟨Nat.le_trans hsz (hg4 g hg).1, (hg4 g hg).2⟩⟩)
  clear hX5 hC5 hN5 hns hown5 hX4 hF4 hC4 hFF4 hg4 hown
  go_wp2
  go_ret
  exact HR.out
theorem ran_no (a : Option Addr) (n c : Nat) (hl : 200 < n) (h63 : n ≤ maxLen) :
    Calls Try.prog 34 #[.slice a n c] w fun e w' => e = .panicked (stopV 3) ∧ w' = w := by
  have hl2 : ¬ (n : Int) ≤ 200 := by omega
  go_enter Try.func34, Try.ntmps34
  go_wp2_with ((with_reducible refine (must_no _ _).mono ?_); rintro e w' ⟨rfl, rfl⟩)
  exact ⟨rfl, rfl, rfl⟩
end
end Go.Proofs.Yteaeflmglppcdaa
