/- A look into a map and a store into it, by the map's list; keys that are compared as Lean compares them. -/
import Derived.Test.YteaeflmglppcdaaB0
import Derived.Laws.StructEq
import Derived.MapKept
import Derived.ChangeMaps4
namespace Go.Proofs.Yteaeflmglppcdaa
open Go.RowKit Go.Instr

def mfind {K V : Type} [DecidableEq K] (k : K) : List (K × V) → Nat → Option (Nat × V)
  | [], _ => none
  | p :: r, i => if p.1 = k then some (i, p.2) else mfind k r (i + 1)

/-- Keys of a type, told by ek. -/
structure KeyT {K : Type} [DecidableEq K] (kt : TypeId) (ek : K → Value) : Prop where
  check : ∀ k w e, (checkKey e 10000 kt (ek k)).run Try.prog w = .ok () w
  eq : ∀ a b w, (Op.equal kt (ek a) (ek b)).run Try.prog w = .ok (decide (a = b)) w
  now : ∃ d, Try.prog.underlying kt = some d ∧ ((∀ a b, sameNow d (ek a) (ek b) = none) ∨ (∀ a b, sameNow d (ek a) (ek b) = some (decide (a = b))))
  bits : ∀ k, sameBits 10000 (ek k) (ek k) = true

section
variable {K V : Type} [DecidableEq K] {kt : TypeId} {ek : K → Value} {ev : V → Value}

theorem run_findAsking (hk : KeyT kt ek) (k : K) (w : World) : ∀ (es : List MapEntry) (l : List (K × V)) (i : Nat),
    es.map (fun e => (e.key, e.val)) = l.map (fun p => (ek p.1, ev p.2)) →
    (findAsking kt (ek k) es i).run Try.prog w = .ok ((mfind k l i).map fun x => (x.1, ev x.2)) w := by
  intro es
  induction es with
  | nil =>
    intro l i h
    cases l with
    | nil => simp [findAsking, mfind]
    | cons p r => simp at h
  | cons e es ih =>
    intro l i h
    cases l with
    | nil => simp at h
    | cons p r =>
      simp only [List.map_cons, List.cons.injEq, Prod.mk.injEq] at h
      obtain ⟨⟨h1, h2⟩, h3⟩ := h
      simp only [findAsking, Sem.run_bind, h1, hk.eq, Result.andThen_ok, h2, mfind]
      by_cases e : k = p.1
      · simp [e]
      · have e' : ¬ p.1 = k := fun x => e x.symm
        simp only [e, e', decide_false, Bool.false_eq_true, if_false]
        exact ih r (i + 1) h3

omit [DecidableEq K] in
theorem findNow_none {d : TypeDesc} {ek : K → Value} (hn : ∀ a b, sameNow d (ek a) (ek b) = none) (k : K) : ∀ (es : List MapEntry) (l : List (K × V)) (i : Nat),
    es.map (fun e => (e.key, e.val)) = l.map (fun p => (ek p.1, ev p.2)) → findNow d (ek k) es i = if es = [] then some none else none := by
  intro es l i h
  cases es with
  | nil => simp [findNow]
  | cons e es =>
    cases l with
    | nil => simp at h
    | cons p r =>
      simp only [List.map_cons, List.cons.injEq, Prod.mk.injEq] at h
      simp [findNow, h.1.1, hn]

theorem findNow_some {d : TypeDesc} {ek : K → Value} (hn : ∀ a b, sameNow d (ek a) (ek b) = some (decide (a = b))) (k : K) : ∀ (es : List MapEntry) (l : List (K × V)) (i : Nat),
    es.map (fun e => (e.key, e.val)) = l.map (fun p => (ek p.1, ev p.2)) → findNow d (ek k) es i = some ((mfind k l i).map fun x => (x.1, ev x.2)) := by
  intro es
  induction es with
  | nil =>
    intro l i h
    cases l with
    | nil => simp [findNow, mfind]
    | cons p r => simp at h
  | cons e es ih =>
    intro l i h
    cases l with
    | nil => simp at h
    | cons p r =>
      simp only [List.map_cons, List.cons.injEq, Prod.mk.injEq] at h
      obtain ⟨⟨h1, h2⟩, h3⟩ := h
      simp only [findNow, h1, hn, h2, mfind]
      by_cases e : k = p.1
      · simp [e]
      · have e' : ¬ p.1 = k := fun x => e x.symm
        simp only [e, e', decide_false, if_false]
        exact ih r (i + 1) h3

theorem run_findKey' (hk : KeyT kt ek) (k : K) (w : World) (es : List MapEntry) (l : List (K × V))
    (h : es.map (fun e => (e.key, e.val)) = l.map (fun p => (ek p.1, ev p.2))) :
    (findKey kt (ek k) es).run Try.prog w = .ok ((mfind k l 0).map fun x => (x.1, ev x.2)) w := by
  obtain ⟨d, hd, hn | hn⟩ := hk.now
  · simp only [findKey, Sem.run_bind, run_underlying hd, Result.andThen_ok, findNow_none hn k es l 0 h]
    by_cases he : es = []
    · subst he
      have : l = [] := by cases l with
        | nil => rfl
        | cons p r => simp at h
      subst this
      simp [mfind]
    · simp only [he, if_false]
      exact run_findAsking hk k w es l 0 h
  · simp only [findKey, Sem.run_bind, run_underlying hd, Result.andThen_ok, findNow_some hn k es l 0 h, Sem.run_pure]

theorem mfind_mget (k : K) : ∀ (l : List (K × V)) (i : Nat), (mfind k l i).map (·.2) = mget k l := by
  intro l
  induction l with
  | nil => intro i; rfl
  | cons p r ih =>
    intro i
    simp only [mfind, mget]
    split
    · rfl
    · exact ih (i + 1)

theorem run_lookup_map {mt et : TypeId} {z : Value} (hk : KeyT kt ek) (hm : Try.prog.underlying mt = some (.map kt et)) {w : World} {m : Nat} {l : List (K × V)} (h : MapIs ek ev w m l)
    (hz : (zeroValue et).run Try.prog w = .ok z w) (k : K) (c : Bool) :
    (Instr.lookup mt (.map (some m)) (ek k) c).run Try.prog w = .ok (if c then .tuple #[((mget k l).map ev).getD z, .bool (mget k l).isSome] else ((mget k l).map ev).getD z) w := by
  obtain ⟨es, clock, hb, hl⟩ := h
  have hf := run_findKey' (ev := ev) hk k w es.toList l hl
  rw [← mfind_mget k l 0]
  cases hx : mfind k l 0 with
  | none =>
    rw [hx] at hf
    simp [Instr.lookup, run_underlying hm, MapKept.run_getObj_map hb, hk.check, hf, hz, Result.andThen]
  | some x =>
    rw [hx] at hf
    simp [Instr.lookup, run_underlying hm, MapKept.run_getObj_map hb, hk.check, hf, Result.andThen]

/-- A look into a nil map. -/
theorem run_lookup_nil {mt et : TypeId} {z : Value} (hk : KeyT kt ek) (hm : Try.prog.underlying mt = some (.map kt et)) {w : World}
    (hz : (zeroValue et).run Try.prog w = .ok z w) (k : K) (c : Bool) :
    (Instr.lookup mt (.map none) (ek k) c).run Try.prog w = .ok (if c then .tuple #[z, .bool false] else z) w := by
  have hf := run_findKey' (V := Unit) (ev := fun _ => .nilIface) hk k w [] [] rfl
  simp only [mfind] at hf
  simp [Instr.lookup, run_underlying hm, hk.check, hf, hz, Result.andThen]

theorem map_mput (k : K) (v : V) : ∀ (l : List (K × V)) (i : Nat), (mfind k l i = none → mput k v l = l ++ [(k, v)]) ∧
    (∀ j u, mfind k l i = some (j, u) → i ≤ j ∧ j - i < l.length ∧ (l[j - i]?).map (·.1) = some k ∧ mput k v l = l.modify (j - i) fun _ => (k, v)) := by
  intro l
  induction l with
  | nil => intro i; simp [mfind, mput]
  | cons p r ih =>
    intro i
    by_cases hp : p.1 = k
    · refine ⟨by simp [mfind, hp], ?_⟩
      intro j u h
      simp only [mfind, hp, if_true, Option.some.injEq, Prod.mk.injEq] at h
      obtain ⟨rfl, rfl⟩ := h
      simp [mput, hp]
    · obtain ⟨h1, h2⟩ := ih (i + 1)
      refine ⟨fun h => ?_, fun j u h => ?_⟩
      · simp only [mfind, hp, if_false] at h
        simp [mput, hp, h1 h]
      · simp only [mfind, hp, if_false] at h
        obtain ⟨g1, g2, g3, g4⟩ := h2 j u h
        have e : j - i = (j - (i + 1)) + 1 := by omega
        refine ⟨by omega, by simp; omega, ?_, ?_⟩
        · rw [e]; simpa using g3
        · rw [e]; simp [mput, hp, g4]

/-- A store into a map. -/
theorem run_mapUpdate_map {mt et : TypeId} (hk : KeyT kt ek) (hm : Try.prog.underlying mt = some (.map kt et)) {w : World} {m : Nat} {l : List (K × V)} (h : MapIs ek ev w m l)
    (k : K) (v : V) :
    ∃ w', (Instr.mapUpdate mt (.map (some m)) (ek k) (ev v)).run Try.prog w = .ok () w' ∧ MapIs ek ev w' m (mput k v l) ∧ Chg (fun b => b = m) w w' := by
  obtain ⟨es, clock, hb, hl⟩ := h
  have hm' : m < w.heap.size := (Array.getElem?_eq_some_iff.1 hb).1
  have hf := run_findKey' (ev := ev) hk k w es.toList l hl
  have hlen : es.toList.length = l.length := by have := congrArg List.length hl; simpa using this
  have chg : ∀ o, Chg (fun b => b = m) w { w with heap := w.heap.setIfInBounds m o } := fun o =>
    ⟨rfl, rfl, rfl, by simp, fun b _ hne => by
      show (w.heap.setIfInBounds m o)[b]? = _
      rw [Array.getElem?_setIfInBounds, if_neg (fun e => hne e.symm)]⟩
  cases hx : mfind k l 0 with
  | none =>
    rw [hx] at hf
    refine ⟨{ w with heap := w.heap.setIfInBounds m (.map (es.push { key := ek k, val := ev v, born := clock }) (clock + 1)) }, ?_, ⟨es.push { key := ek k, val := ev v, born := clock }, clock + 1, ?_, ?_⟩, chg _⟩
    · simp [Instr.mapUpdate, run_underlying hm, MapKept.run_getObj_map hb, hk.check, hf, MapKept.run_setObj_map _ hb, Result.andThen]
    · simp [Array.getElem?_setIfInBounds, hm']
    · rw [((map_mput k v l 0).1 hx)]
      simp [hl]
  | some x =>
    obtain ⟨j, u⟩ := x
    obtain ⟨_, g2, g3, g4⟩ := (map_mput k v l 0).2 j u hx
    simp only [Nat.sub_zero] at g2 g3 g4
    rw [hx] at hf
    have hj : j < es.size := by have : es.toList.length = es.size := by simp
                                omega
    have hkey : es[j].key = ek k := by
      have h1 : (es.toList.map (fun e => (e.key, e.val)))[j]? = (l.map (fun p => (ek p.1, ev p.2)))[j]? := by rw [hl]
      simp only [List.getElem?_map, Array.getElem?_toList, Array.getElem?_eq_getElem hj, Option.map_some] at h1
      cases hlj : l[j]? with
      | none => rw [hlj] at g3; simp at g3
      | some p =>
        rw [hlj] at g3 h1
        simp at g3 h1
        rw [h1.1, g3]
    refine ⟨{ w with heap := w.heap.setIfInBounds m (.map (es.modify j fun e => { e with key := ek k, val := ev v }) clock) }, ?_, ⟨es.modify j fun e => { e with key := ek k, val := ev v }, clock, ?_, ?_⟩, chg _⟩
    · simp [Instr.mapUpdate, run_underlying hm, MapKept.run_getObj_map hb, hk.check, hf, MapKept.run_setObj_map _ hb, Result.andThen, Array.getElem?_eq_getElem hj, hkey, keyThatStays, hk.bits]
    · simp [Array.getElem?_setIfInBounds, hm']
    · rw [g4]
      apply List.ext_getElem?
      intro i
      have h1 : (es.toList.map (fun e => (e.key, e.val)))[i]? = (l.map (fun p => (ek p.1, ev p.2)))[i]? := by rw [hl]
      simp only [List.getElem?_map, Array.getElem?_toList, Array.getElem?_modify, List.getElem?_modify] at h1 ⊢
      by_cases e : j = i
      · subst e
        rw [if_pos rfl, Array.getElem?_eq_getElem hj]
        rw [Array.getElem?_eq_getElem hj] at h1
        cases hlj : l[j]? with
        | none => rw [hlj] at g3; simp at g3
        | some p => simp
      · rw [if_neg e]
        rw [h1]
        cases l[i]? with
        | none => rfl
        | some p => simp [e]
end

/-! ### The three kinds of keys -/
def ekCell (p : Int × Int) : Value := .agg #[.int .i64 p.1, .int .i64 p.2]
def ekInt (n : Int) : Value := .int .i64 n



theorem checkInt (d : Nat) (n : Int) (w : World) (e : Bool) : (checkKey e (d + 1) 3 (.int .i64 n)).run Try.prog w = .ok () w := by
  simp [checkKey, run_underlying Try.underlying3]
theorem equalInt (d : Nat) (a b : Int) (w : World) : (Op.equalIn (d + 1) 3 (.int .i64 a) (.int .i64 b)).run Try.prog w = .ok (a == b) w :=
  run_equalIn_int w d 3 .i64 .i64 a b Try.underlying3
theorem equalCell (d : Nat) (a b c e : Int) (w : World) : (Op.equalIn (d + 2) 134 (.agg #[.int .i64 a, .int .i64 b]) (.agg #[.int .i64 c, .int .i64 e])).run Try.prog w = .ok (a == c && b == e) w := by
  rw [run_equalIn_struct w (d + 1) 134 _ _ (by simp [Program.fieldsOf, Try.underlying134]) (by kernel_rfl)]
  by_cases h : a = c
  · by_cases h2 : b = e
    · simp [Program.fieldsOf, Try.underlying134, Op.eqFields, go_sem, equalInt, h, h2]
    · simp [Program.fieldsOf, Try.underlying134, Op.eqFields, go_sem, equalInt, h, h2]
  · simp [Program.fieldsOf, Try.underlying134, Op.eqFields, go_sem, equalInt, h]
theorem checkCell (d : Nat) (a b : Int) (w : World) (e : Bool) : (checkKey e (d + 2) 134 (.agg #[.int .i64 a, .int .i64 b])).run Try.prog w = .ok () w := by
  simp [checkKey, run_underlying Try.underlying134, go_sem, checkInt, run_underlying Try.underlying3]

theorem key_int : KeyT 3 ekInt where
  check := fun k w e => checkInt 9999 k w e
  eq := fun a b w => (equalInt 9999 a b w).trans (by rfl)
  now := ⟨_, Try.underlying3, .inr fun a b => by simp [sameNow, ekInt]; rfl⟩
  bits := fun k => by
    have : ∀ d, sameBits (d + 1) (ekInt k) (ekInt k) = true := fun d => by simp [sameBits, ekInt]
    exact this 9999

theorem key_cell : KeyT 134 ekCell where
  check := fun k w e => checkCell 9998 k.1 k.2 w e
  eq := fun a b w => (equalCell 9998 a.1 a.2 b.1 b.2 w).trans (by
    congr 1
    obtain ⟨a1, a2⟩ := a; obtain ⟨b1, b2⟩ := b
    simp only [Prod.mk.injEq]
    by_cases h : a1 = b1 <;> by_cases h2 : a2 = b2 <;> simp [h, h2])
  now := ⟨_, Try.underlying134, .inl fun a b => by rfl⟩
  bits := fun k => by
    have : ∀ d, sameBits (d + 2) (ekCell k) (ekCell k) = true := fun d => by simp [sameBits, ekCell]
    exact this 9998
end Go.Proofs.Yteaeflmglppcdaa
