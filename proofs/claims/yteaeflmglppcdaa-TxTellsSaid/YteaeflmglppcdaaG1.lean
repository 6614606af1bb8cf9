/- The contract of Equal: are two lists of integers the same? -/
import Derived.Test.YteaeflmglppcdaaG0
namespace Go.Proofs.Yteaeflmglppcdaa
open Go.RowKit Tx

/-- A list of integers lies in memory. -/
structure IntsAt (w : World) (a : Option Addr) (b off : Nat) (xs : List Int) : Prop where
  len : xs.length ≤ maxLen
  ptr : xs ≠ [] → a = some ⟨b, off, none⟩
  cell : ∀ (i : Nat) (x : Int), xs[i]? = some x → w.cell? ⟨b, off + i, none⟩ = some (.int .i64 x)
theorem take_more {xs ys : List Int} {i : Nat} {x y : Int} (hx : xs[i]? = some x) (hy : ys[i]? = some y) (h : xs.take i = ys.take i) : x = y ↔ xs.take (i + 1) = ys.take (i + 1) := by
  have h1 := (List.getElem?_eq_some_iff.1 hx)
  have h2 := (List.getElem?_eq_some_iff.1 hy)
  obtain ⟨h1, e1⟩ := h1
  obtain ⟨h2, e2⟩ := h2
  rw [List.take_succ_eq_append_getElem h1, List.take_succ_eq_append_getElem h2, h, e1, e2]
  simp
section
variable {w : World}
set_option maxRecDepth 100000 in
set_option maxHeartbeats 1000000 in
theorem equal_any (a a' : Option Addr) (b b' off off' c c' : Nat) (xs ys : List Int) (hx : IntsAt w a b off xs) (hy : IntsAt w a' b' off' ys) :
    Calls Try.prog 23 #[.slice a xs.length c, .slice a' ys.length c'] w fun e w' => e = .returned (.bool (decide (xs = ys))) ∧ ∃ q, w' = w.drewN q := by
  have hl := hx.len
  have hl2 := hy.len
  unfold maxLen at hl hl2
  have hl63 : (xs.length : Int) ≤ 9223372036854775807 := by omega
  have hl64 : (ys.length : Int) ≤ 9223372036854775807 := by omega
  go_enter Try.func23, Try.ntmps23
  go_wp2
  go_loopw [5, 6] (fun v5 v wr => ∃ i : Nat, ∃ B : Bool, v = .int .i64 i ∧ v5 = .bool B ∧ i ≤ xs.length ∧ (∃ q, wr = w.drewN q) ∧ (B = true → xs.length = ys.length ∧ xs.take i = ys.take i) ∧ (B = false → xs ≠ ys)) (fun _ v _ => xs.length - (intOf v).toNat)
  case atStart =>
    refine ⟨0, decide (xs.length = ys.length), rfl, ?_, by omega, ⟨0, rfl⟩, fun h => ⟨by simpa using h, by simp⟩, fun h e => by simp [e] at h⟩
    have : ((xs.length : Int) == (ys.length : Int)) = decide (xs.length = ys.length) := by
      by_cases h : xs.length = ys.length
      · simp [h]
      · have h2 : ¬ (xs.length : Int) = (ys.length : Int) := by omega
        simp [h, h2]
    simp [this]
  case round =>
    obtain ⟨i, B, rfl, rfl, hile, ⟨q, rfl⟩, hBt, hBf⟩ := hrel
    cases B
    · have hne := hBf rfl
      have HNE := Lib.hid hne
      clear hne hBt hBf
      go_wp2
      go_ret
      exact ⟨by simp [HNE.out], _, rfl⟩
    · obtain ⟨hle, hte⟩ := hBt rfl
      clear hBt hBf
      by_cases hlt : i < xs.length
      · obtain ⟨x, hxi⟩ : ∃ x, xs[i]? = some x := ⟨_, List.getElem?_eq_getElem hlt⟩
        obtain ⟨y, hyi⟩ : ∃ y, ys[i]? = some y := ⟨_, List.getElem?_eq_getElem (by omega)⟩
        have hnx : xs ≠ [] := fun e => by rw [e] at hlt; simp at hlt
        have hny : ys ≠ [] := fun e => by rw [e] at hyi; simp at hyi
        obtain rfl := hx.ptr hnx
        obtain rfl := hy.ptr hny
        have c0 := hx.cell i x hxi
        have c1 := hy.cell i y hyi
        have i3 : (0 : Int) ≤ (i : Int) := by omega
        have i4 : (i : Int) < (xs.length : Int) := by omega
        have i5 : (i : Int) < (ys.length : Int) := by omega
        have HT := Lib.hid (take_more hxi hyi hte)
        have HLE := Lib.hid hle
        clear hte hle hxi hyi
        go_wp2
        go_quiet (fail)
        go_wp2
        refine ⟨⟨i + 1, x == y, by go_num, rfl, by omega, ⟨_, rfl⟩, fun h => ⟨HLE.out, HT.out.1 (by simpa using h)⟩, fun h e => ?_⟩, by simp [intOf]; omega⟩
        have hxy : x = y := HT.out.2 (by rw [e])
        simp [hxy] at h
      · have hii : i = xs.length := by omega
        subst hii
        have he : xs = ys := by
          rw [List.take_length, hle, List.take_length] at hte
          exact hte
        have HE := Lib.hid he
        clear hte hle he hlt hile
        go_wp2
        go_ret
        exact ⟨by simp [HE.out], _, rfl⟩
end
end Go.Proofs.Yteaeflmglppcdaa
