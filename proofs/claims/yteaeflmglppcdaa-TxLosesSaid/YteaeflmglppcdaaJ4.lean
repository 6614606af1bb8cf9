/- The walk of TxSees. -/
import Derived.Test.YteaeflmglppcdaaJ3
namespace Go.Proofs.Yteaeflmglppcdaa
open Go.RowKit Tx

/-- The value of a note: a list of sixteen words. -/
def evS (p : Nat × Nat) : Value := .slice (some ⟨p.1, 0, none⟩) 16 p.2
structure WordsAt (w : World) (g : Nat) (ws : List Int) : Prop where
  len : ws.length = 16
  cell : ∀ (k : Nat) (x : Int), ws[k]? = some x → w.cell? ⟨g, k, none⟩ = some (.int .i64 x)
  free : ∀ k, w.frozen? ⟨g, k, none⟩ = false
theorem WordsAt.lt {w : World} {g : Nat} {ws : List Int} (h : WordsAt w g ws) : g < w.heap.size := by
  have h0 : 0 < ws.length := by rw [h.len]; decide
  exact World.block_lt_of_cell? w _ (h.cell 0 ws[0] (List.getElem?_eq_getElem h0))
theorem WordsAt.kept {w w' : World} {g : Nat} {ws : List Int} {S : Nat → Prop} (h : WordsAt w g ws) (hc : Chg S w w') (hS : ¬ S g) : WordsAt w' g ws :=
  ⟨h.len, fun k x hk => (hc.cell (a := ⟨g, k, none⟩) h.lt hS).trans (h.cell k x hk), fun k => (hc.frozen (a := ⟨g, k, none⟩) h.lt hS).trans (h.free k)⟩
theorem WordsAt.set {w : World} {g : Nat} {ws : List Int} (h : WordsAt w g ws) (k : Nat) (x : Int) : WordsAt (w.setCell ⟨g, k, none⟩ (.int .i64 x)) g (ws.set k x) := by
  refine ⟨by rw [List.length_set]; exact h.len, fun q y hq => ?_, fun q => by rw [World.frozen?_setCell]; exact h.free q⟩
  rw [List.getElem?_set] at hq
  by_cases e : k = q
  · subst e
    rw [if_pos rfl] at hq
    split at hq
    · rename_i hlt
      cases hq
      rw [World.cell?_setCell_same _ _ _ (by rw [h.cell k ws[k] (List.getElem?_eq_getElem hlt)])]
    · cases hq
  · rw [if_neg e] at hq
    rw [World.cell?_setCell_other _ _ _ _ (fun e' => e (by have := congrArg Addr.off e'; simpa using this))]
    exact h.cell q y hq
/-- The notes of TxSees lie in memory. -/
structure SeesAt (w : World) (m : Nat) (M : List (Int × (Nat × Nat))) (f : Int → Option (List Int)) : Prop where
  map : MapIs ekInt evS w m M
  row : ∀ t g c, mget t M = some (g, c) → ∃ ws, f t = some ws ∧ WordsAt w g ws ∧ m < g
  lack : ∀ t, mget t M = none → f t = none
  apart : ∀ t t' g c c', mget t M = some (g, c) → mget t' M = some (g, c') → t = t'
theorem SeesAt.kept {w w' : World} {m : Nat} {M : List (Int × (Nat × Nat))} {f : Int → Option (List Int)} (h : SeesAt w m M f) (hN : New w w') : SeesAt w' m M f :=
  ⟨h.map.kept (hN.block m h.map.lt (fun x => x)), fun t g c ht => by obtain ⟨ws, h1, h2, h3⟩ := h.row t g c ht; exact ⟨ws, h1, h2.kept hN (fun x => x), h3⟩, h.lack, h.apart⟩
theorem SeesAt.get {w : World} {m : Nat} {M : List (Int × (Nat × Nat))} {f : Int → Option (List Int)} (h : SeesAt w m M f) {t : Int} {ws : List Int} (hf : f t = some ws) : ∃ g c, mget t M = some (g, c) ∧ WordsAt w g ws ∧ m < g := by
  cases hm : mget t M with
  | none => rw [h.lack t hm] at hf; cases hf
  | some p =>
    obtain ⟨g, c⟩ := p
    obtain ⟨ws', h1, h2, h3⟩ := h.row t g c hm
    rw [hf] at h1
    cases h1
    exact ⟨g, c, rfl, h2, h3⟩
/-- A word of a note is written. -/
theorem SeesAt.write {w : World} {m : Nat} {M : List (Int × (Nat × Nat))} {f : Int → Option (List Int)} (h : SeesAt w m M f) {t : Int} {ws : List Int} {g c : Nat} (hf : f t = some ws) (hm : mget t M = some (g, c)) (k : Nat) (x : Int) :
    SeesAt (w.setCell ⟨g, k, none⟩ (.int .i64 x)) m M (updf f t (ws.set k x)) := by
  obtain ⟨ws', h1, h2, h3⟩ := h.row t g c hm
  rw [hf] at h1
  cases h1
  have hC : Chg (fun b => b = g) w (w.setCell ⟨g, k, none⟩ (.int .i64 x)) := (Chg.refl (fun b => b = g) w).setCell (fun _ => rfl) _
  refine ⟨h.map.kept (hC.block m h.map.lt (fun e => by omega)), fun t' g' c' ht => ?_, fun t' ht => ?_, h.apart⟩
  · obtain ⟨ws', e1, e2, e3⟩ := h.row t' g' c' ht
    unfold updf
    by_cases e : t' = t
    · subst e
      rw [hm] at ht
      cases ht
      rw [if_pos rfl]
      exact ⟨_, rfl, h2.set k x, h3⟩
    · rw [if_neg e]
      exact ⟨ws', e1, e2.kept hC (fun eg => e (h.apart t' t g c' c (eg ▸ ht) hm)), e3⟩
  · unfold updf
    rw [if_neg (fun e => by subst e; rw [hm] at ht; cases ht)]
    exact h.lack t' ht
/-- A new note is laid. -/
theorem SeesAt.lay {w w' : World} {m : Nat} {M : List (Int × (Nat × Nat))} {f : Int → Option (List Int)} (h : SeesAt w m M f) {t : Int} {ws : List Int} {g c : Nat} (hw : WordsAt w g ws) (hg : m < g)
    (hnew : ∀ t' c', mget t' M ≠ some (g, c')) (hM : MapIs ekInt evS w' m (mput t (g, c) M)) (hC : Chg (fun b => b = m) w w') : SeesAt w' m (mput t (g, c) M) (updf f t ws) := by
  refine ⟨hM, fun t' g' c' ht => ?_, fun t' ht => ?_, fun t1 t2 g' c1 c2 h1 h2 => ?_⟩
  · rw [mget_mput] at ht
    unfold updf
    by_cases e : t = t'
    · subst e
      rw [if_pos rfl] at ht
      cases ht
      rw [if_pos rfl]
      exact ⟨ws, rfl, hw.kept hC (fun e => by omega), hg⟩
    · rw [if_neg e] at ht
      rw [if_neg (fun e' => e e'.symm)]
      obtain ⟨ws', e1, e2, e3⟩ := h.row t' g' c' ht
      exact ⟨ws', e1, e2.kept hC (fun e => by omega), e3⟩
  · rw [mget_mput] at ht
    unfold updf
    split at ht
    · cases ht
    · rename_i e
      rw [if_neg (fun e' => e e'.symm)]
      exact h.lack t' ht
  · rw [mget_mput] at h1 h2
    split at h1
    · cases h1
      split at h2
      · rename_i e1 e2; rw [← e1, ← e2]
      · exact absurd h2 (hnew t2 c2)
    · split at h2
      · cases h2
        exact absurd h1 (hnew t1 c1)
      · exact h.apart t1 t2 g' c1 c2 h1 h2
theorem make_map51 (w : World) : (Instr.makeMap 51 none).run Try.prog w = .ok (.map (some w.heap.size)) (w.alloc (.map #[] 0)) := by kernel_rfl
theorem zero28 (w : World) : (zeroValue 28).run Try.prog w = .ok (.slice none 0 0) w := by kernel_rfl
theorem at_words {w : World} {a : Option Addr} {g c : Nat} {ops : List Tx.Op} (hO : OpsAt w a g 0 ops) (hl : ops.length ≤ 200) (i : Nat) (hi : i < (Tx.run St.zero ops).2.insts.length) :
    Calls Try.prog 14 #[.slice a ops.length c, .int .i64 i] w fun e w' => ∃ b c, e = .returned (.tuple #[.slice (some ⟨b, 0, none⟩) 16 c, .int .i64 0]) ∧ New w w' ∧ w.heap.size ≤ b ∧ WordsAt w' b (wordsI ((Tx.run St.zero ops).2.inst i)) := by
  refine (at_any a g 0 c ops i hO hl hi).mono ?_
  rintro e w' ⟨v, rfl, hN', hown, hge⟩
  obtain ⟨a, c, rfl⟩ := row_shape hown
  rw [wordsL_intRow] at hown
  obtain ⟨g, hA, ha⟩ := ints_row hown (by simp [wordsI])
  obtain rfl := ha (by decide)
  exact ⟨g, c, rfl, hN', hge g rfl, by simp [wordsI], fun k x hk => by have := hA.cell k x hk; rwa [Nat.zero_add] at this, row_free hown g rfl⟩
end Go.Proofs.Yteaeflmglppcdaa
