/- Words for memory: a whole block told by a function, what a call may change, a map told by a list. No Go function stands here. -/
import Derived.Test.YteaeflmglppcdaaRows
import Derived.WalkKit
import Derived.WalkSpells
import Derived.WalkLawsBesides
import Derived.IntWalk
namespace Go.Proofs.Yteaeflmglppcdaa
open Go.RowKit

/-- Block b has n cells of the type T, cell i is f i; none is frozen. -/
def Blk (w : World) (b : Nat) (T : TypeId) (n : Nat) (f : Nat → Value) : Prop :=
  ∃ cs : Array Value, w.heap[b]? = some (.cells cs T (0, 0)) ∧ cs.size = n ∧ ∀ i, i < n → cs[i]? = some (f i)

def upd (f : Nat → Value) (i : Nat) (v : Value) : Nat → Value := fun j => if j = i then v else f j
theorem upd_same (f : Nat → Value) (i : Nat) (v : Value) : upd f i v i = v := by simp [upd]
theorem upd_other (f : Nat → Value) {i j : Nat} (v : Value) (h : j ≠ i) : upd f i v j = f j := by simp [upd, h]

section
variable {w w' : World} {b : Nat} {T : TypeId} {n : Nat} {f g : Nat → Value}
theorem Blk.cell (h : Blk w b T n f) {i : Nat} (hi : i < n) : w.cell? ⟨b, i, none⟩ = some (f i) := by
  obtain ⟨cs, hb, hs, hc⟩ := h
  simp [World.cell?, hb, hc i hi]
theorem Blk.free (h : Blk w b T n f) (i : Nat) : w.frozen? ⟨b, i, none⟩ = false := by
  obtain ⟨cs, hb, hs, hc⟩ := h
  simp [World.frozen?, hb]
theorem Blk.lt (h : Blk w b T n f) : b < w.heap.size := by
  obtain ⟨cs, hb, hs, hc⟩ := h
  exact (Array.getElem?_eq_some_iff.1 hb).1
theorem Blk.kept (h : Blk w b T n f) (hk : w'.heap[b]? = w.heap[b]?) : Blk w' b T n f := by
  obtain ⟨cs, hb, hs, hc⟩ := h
  exact ⟨cs, hk.trans hb, hs, hc⟩
theorem Blk.congr (h : Blk w b T n f) (hfg : ∀ i, i < n → f i = g i) : Blk w b T n g := by
  obtain ⟨cs, hb, hs, hc⟩ := h
  exact ⟨cs, hb, hs, fun i hi => by rw [hc i hi, hfg i hi]⟩
theorem Blk.set (h : Blk w b T n f) (i : Nat) (v : Value) : Blk (w.setCell ⟨b, i, none⟩ v) b T n (upd f i v) := by
  obtain ⟨cs, hb, hs, hc⟩ := h
  refine ⟨cs.setIfInBounds i v, ?_, by simp [hs], fun j hj => ?_⟩
  · simp [World.setCell, Array.getElem?_modify, hb]
  · rw [Array.getElem?_setIfInBounds]
    by_cases e : i = j
    · subst e; simp [upd, hs, hj]
    · rw [if_neg e, hc j hj, upd_other _ _ (fun h => e h.symm)]
theorem Blk.set_other (h : Blk w b T n f) {a : Addr} (ha : b ≠ a.block) (v : Value) : Blk (w.setCell a v) b T n f :=
  h.kept (Below.heap_setCell w a v b ha)
theorem Blk.alloc (h : Blk w b T n f) (o : Obj) : Blk (w.alloc o) b T n f := h.kept (Below.heap_alloc w o b h.lt)
theorem Blk.drew (h : Blk w b T n f) : Blk w.drew b T n f := h
theorem Blk.drewN (h : Blk w b T n f) (k : Nat) : Blk (w.drewN k) b T n f := h
theorem Blk.new (w : World) (cs : Array Value) (T : TypeId) (f : Nat → Value) (hn : cs.size = n) (hf : ∀ i, i < n → cs[i]? = some (f i)) :
    Blk (w.alloc (.cells cs T)) w.heap.size T n f :=
  ⟨cs, heap_alloc_new w _, hn, hf⟩
end

theorem cell_set_other {w : World} {a p : Addr} (h : p.block ≠ a.block) (v : Value) : (w.setCell a v).cell? p = w.cell? p :=
  World.cell?_of_block (Below.heap_setCell w a v p.block h)

/-- What stood at blocks outside of S stands there still. -/
structure Chg (S : Nat → Prop) (w w' : World) : Prop where
  os : w'.os = w.os
  tape : w'.tape = w.tape
  output : w'.output = w.output
  size : w.heap.size ≤ w'.heap.size
  block : ∀ k, k < w.heap.size → ¬ S k → w'.heap[k]? = w.heap[k]?

/-- Nothing that stood there has changed. -/
abbrev New (w w' : World) : Prop := Chg (fun _ => False) w w'

section
variable {S S' : Nat → Prop} {w w1 w2 : World}
theorem Chg.refl (S : Nat → Prop) (w : World) : Chg S w w := ⟨rfl, rfl, rfl, Nat.le_refl _, fun _ _ _ => rfl⟩
theorem Chg.trans (h : Chg S w w1) (k : Chg S w1 w2) : Chg S w w2 :=
  ⟨k.os.trans h.os, k.tape.trans h.tape, k.output.trans h.output, Nat.le_trans h.size k.size,
   fun i hi hs => (k.block i (Nat.lt_of_lt_of_le hi h.size) hs).trans (h.block i hi hs)⟩
theorem Chg.mono (h : Chg S w w1) (hS : ∀ k, k < w.heap.size → S k → S' k) : Chg S' w w1 :=
  ⟨h.os, h.tape, h.output, h.size, fun k hk hs => h.block k hk (fun x => hs (hS k hk x))⟩
/-- A step that changes what S' says, new blocks too, behind one that changes what S says. -/
theorem Chg.then (h : Chg S w w1) (k : Chg S' w1 w2) (hS : ∀ i, i < w.heap.size → S' i → S i) : Chg S w w2 :=
  ⟨k.os.trans h.os, k.tape.trans h.tape, k.output.trans h.output, Nat.le_trans h.size k.size,
   fun i hi hs => (k.block i (Nat.lt_of_lt_of_le hi h.size) (fun x => hs (hS i hi x))).trans (h.block i hi hs)⟩
theorem Chg.alloc (h : Chg S w w1) (o : Obj) : Chg S w (w1.alloc o) :=
  h.trans ⟨rfl, rfl, rfl, by simp, fun k hk _ => Below.heap_alloc _ _ _ hk⟩
theorem Chg.drew (h : Chg S w w1) : Chg S w w1.drew := ⟨h.os, h.tape, h.output, h.size, h.block⟩
theorem Chg.drewN (h : Chg S w w1) (n : Nat) : Chg S w (w1.drewN n) := ⟨h.os, h.tape, h.output, h.size, h.block⟩
theorem Chg.setCell (h : Chg S w w1) {a : Addr} (ha : a.block < w.heap.size → S a.block) (v : Value) : Chg S w (w1.setCell a v) := by
  refine h.then (S' := fun k => k = a.block) ⟨rfl, rfl, rfl, by simp, fun k hk hs => Below.heap_setCell _ _ _ _ hs⟩ ?_
  rintro i hi rfl; exact ha hi
theorem Chg.grown {row : Option Nat} (h : Chg S w w1) (hg : w1.grownBy w2 row) (hr : ∀ k, row = some k → k < w.heap.size → S k) : Chg S w w2 :=
  h.then (S' := fun k => some k = row) ⟨hg.os, hg.tape, hg.output, hg.size, fun k hk hs => hg.block k hk hs⟩ (fun i hi e => hr i e.symm hi)
theorem Chg.cell (h : Chg S w w1) {a : Addr} (ha : a.block < w.heap.size) (hs : ¬ S a.block) : w1.cell? a = w.cell? a :=
  World.cell?_of_block (h.block _ ha hs)
theorem Chg.frozen (h : Chg S w w1) {a : Addr} (ha : a.block < w.heap.size) (hs : ¬ S a.block) : w1.frozen? a = w.frozen? a :=
  World.frozen?_of_block (h.block _ ha hs)
theorem Chg.blk (h : Chg S w w1) {b : Nat} {T : TypeId} {n : Nat} {f : Nat → Value} (hb : Blk w b T n f) (hs : ¬ S b) : Blk w1 b T n f :=
  hb.kept (h.block b hb.lt hs)
theorem Chg.below (h : Chg S w w1) {B : Nat} (hB : ∀ k, S k → B ≤ k) (hsz : B ≤ w.heap.size) : Below B w w1 :=
  ⟨h.os, h.tape, h.output, h.size, fun k hk => h.block k (by omega) (fun s => by have := hB k s; omega)⟩
theorem New.below (h : New w w1) : Below w.heap.size w w1 := ⟨h.os, h.tape, h.output, h.size, fun k hk => h.block k hk (fun x => x)⟩
theorem New.of_below (h : Below w.heap.size w w1) : New w w1 := ⟨h.os, h.tape, h.output, h.size, fun k hk _ => h.block k hk⟩
theorem Chg.of_new (h : New w w1) : Chg S w w1 := h.mono (fun _ _ x => x.elim)
theorem Chg.ownsRow (h : Chg S w w1) {base e size n : Nat} {v : Value} {xs : List Value} (hr : w.ownsRow base e size v n xs)
    (hs : ∀ k, v.ownBlock = some k → ¬ S k) : w1.ownsRow base e size v n xs := by
  obtain ⟨h1, h2⟩ := hr
  refine ⟨h1, ?_⟩
  rcases h2 with h2 | ⟨g, cap, cur, rfl, hb, hg, rest⟩
  · exact .inl h2
  · refine .inr ⟨g, cap, cur, rfl, hb, ?_, rest⟩
    rw [h.block g (Array.getElem?_eq_some_iff.1 hg).1 (hs g rfl)]; exact hg
end

/-- A map whose keys and words are told by a list: the first entry of a key counts. -/
def MapIs {K V : Type} (ek : K → Value) (ev : V → Value) (w : World) (m : Nat) (l : List (K × V)) : Prop :=
  ∃ es clock, w.heap[m]? = some (.map es clock) ∧ es.toList.map (fun e => (e.key, e.val)) = l.map (fun p => (ek p.1, ev p.2))

section
variable {K V : Type} {ek : K → Value} {ev : V → Value} {w w' : World} {m : Nat} {l : List (K × V)}
theorem MapIs.lt (h : MapIs ek ev w m l) : m < w.heap.size := by
  obtain ⟨es, c, hb, _⟩ := h
  exact (Array.getElem?_eq_some_iff.1 hb).1
theorem MapIs.kept (h : MapIs ek ev w m l) (hk : w'.heap[m]? = w.heap[m]?) : MapIs ek ev w' m l := by
  obtain ⟨es, c, hb, r⟩ := h
  exact ⟨es, c, hk.trans hb, r⟩
theorem MapIs.new (w : World) : MapIs ek ev (w.alloc (.map #[] 0)) w.heap.size [] := ⟨#[], 0, heap_alloc_new w _, rfl⟩
end

/-- The list of a map with a word stored at a key. -/
def mput {K V : Type} [DecidableEq K] (k : K) (v : V) : List (K × V) → List (K × V)
  | [] => [(k, v)]
  | p :: r => if p.1 = k then (k, v) :: r else p :: mput k v r

/-- What a map's list has at a key. -/
def mget {K V : Type} [DecidableEq K] (k : K) : List (K × V) → Option V
  | [] => none
  | p :: r => if p.1 = k then some p.2 else mget k r

theorem mget_mput {K V : Type} [DecidableEq K] (k k' : K) (v : V) (l : List (K × V)) : mget k' (mput k v l) = if k = k' then some v else mget k' l := by
  induction l with
  | nil => simp [mput, mget]
  | cons p r ih =>
    by_cases hp : p.1 = k
    · by_cases h : k = k'
      · simp [mput, hp, mget, h]
      · have : ¬ p.1 = k' := by rw [hp]; exact h
        simp [mput, hp, mget, h]
    · by_cases h : p.1 = k'
      · have h1 : ¬ k = k' := fun e => hp (h.trans e.symm)
        have h2 : ¬ k' = k := fun e => h1 e.symm
        simp [mput, mget, h, h1, h2]
      · simp [mput, hp, mget, h, ih]

end Go.Proofs.Yteaeflmglppcdaa
