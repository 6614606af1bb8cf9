/- How a store lies in memory; the contracts of must, within, last and live. -/
import Derived.Test.YteaeflmglppcdaaM0
import Derived.Deep.QuietTactic
import Derived.BigQuiet
namespace Go.Proofs.Yteaeflmglppcdaa
open Go.RowKit Tx

def txCell (x : Txn) (j : Nat) : Value :=
  if j = 0 then .int .i64 x.inst else if j ≤ 16 then .bool (x.read (j - 1)) else if j = 17 then .bool x.begun else if j = 18 then .bool x.over
  else if j = 19 then .bool x.comm else .bool x.writes
def storeCell (vi vm vr va vo : Value) (txs : Nat → Txn) (i : Nat) : Value :=
  if i = 0 then vi else if i ≤ 336 then txCell (txs ((i - 1) / 21)) ((i - 1) % 21) else if i = 337 then vm else if i = 338 then vr else if i = 339 then va else vo
def instCell (x : Inst) (j : Nat) : Value := if j < 16 then .int .i64 (x.words j) else if j < 32 then .bool (x.wrote (j - 16)) else .int .i64 x.by_
def instCells (x : Inst) : List Value := (List.range 33).map (instCell x)

theorem storeCell_tx (vi vm vr va vo : Value) (txs : Nat → Txn) (t j : Nat) (ht : t < 16) (hj : j < 21) :
    storeCell vi vm vr va vo txs (1 + t * 21 + j) = txCell (txs t) j := by
  have h1 : (1 + t * 21 + j - 1) / 21 = t := by omega
  have h2 : (1 + t * 21 + j - 1) % 21 = j := by omega
  simp only [storeCell, h1, h2]
  rw [if_neg (by omega), if_pos (by omega)]

/-- The store at block s is in the state st; vi, m, vr: its instants, its map, its readers. -/
structure RepX (w : World) (s : Nat) (vi : Value) (m : Nat) (vr va vo : Value) (st : St) : Prop where
  blk : Blk w s 72 341 (storeCell vi (.map (some m)) vr va vo st.txs)
  insts : w.ownsRow 0 88 33 vi st.insts.length (st.insts.flatMap instCells)
  ne : 0 < st.insts.length
  readers : w.ownsRow 0 3 1 vr st.readers.length (st.readers.map (Value.int .i64))
  map : MapIs ekCell (Value.int .i64) w m st.wr
  sm : s ≠ m
  si : vi.ownBlock ≠ some s
  sr : vr.ownBlock ≠ some s
  mi : vi.ownBlock ≠ some m
  mr : vr.ownBlock ≠ some m
  ir : ∀ k, vi.ownBlock = some k → vr.ownBlock ≠ some k

/-- The blocks of a store. -/
def foot (s : Nat) (vi : Value) (m : Nat) (vr : Value) (k : Nat) : Prop := k = s ∨ k = m ∨ vi.ownBlock = some k ∨ vr.ownBlock = some k

/-- The store at s is in the state st, and lies in the blocks F. -/
def Rep (w : World) (s : Nat) (va vo : Value) (st : St) (F : Nat → Prop) : Prop :=
  ∃ vi m vr, RepX w s vi m vr va vo st ∧ ∀ k, F k ↔ foot s vi m vr k

section
variable {w w' : World} {s m : Nat} {vi vr va vo : Value} {st : St} {F S : Nat → Prop}
theorem RepX.footLt (h : RepX w s vi m vr va vo st) : ∀ k, foot s vi m vr k → k < w.heap.size := by
  rintro k (rfl | rfl | hk | hk)
  · exact h.blk.lt
  · exact h.map.lt
  · exact (h.insts.lt k hk).2
  · exact (h.readers.lt k hk).2
theorem RepX.kept (h : RepX w s vi m vr va vo st) (hc : Chg S w w') (hS : ∀ k, foot s vi m vr k → ¬ S k) : RepX w' s vi m vr va vo st :=
  { blk := hc.blk h.blk (hS s (.inl rfl))
    insts := hc.ownsRow h.insts fun k hk => hS k (.inr (.inr (.inl hk)))
    ne := h.ne
    readers := hc.ownsRow h.readers fun k hk => hS k (.inr (.inr (.inr hk)))
    map := h.map.kept (hc.block m h.map.lt (hS m (.inr (.inl rfl))))
    sm := h.sm, si := h.si, sr := h.sr, mi := h.mi, mr := h.mr, ir := h.ir }
theorem Rep.kept (h : Rep w s va vo st F) (hc : Chg S w w') (hS : ∀ k, F k → ¬ S k) : Rep w' s va vo st F := by
  obtain ⟨vi, m, vr, hx, hF⟩ := h
  exact ⟨vi, m, vr, hx.kept hc (fun k hk => hS k ((hF k).2 hk)), hF⟩
theorem Rep.new (h : Rep w s va vo st F) (hc : New w w') : Rep w' s va vo st F := h.kept hc (fun _ _ x => x)
theorem Rep.lt (h : Rep w s va vo st F) : ∀ k, F k → k < w.heap.size := by
  obtain ⟨vi, m, vr, hx, hF⟩ := h
  exact fun k hk => hx.footLt k ((hF k).1 hk)
/-- Cells of a transaction. -/
theorem RepX.tx (h : RepX w s vi m vr va vo st) {t : Nat} (ht : t < 16) {j : Nat} (hj : j < 21) : w.cell? ⟨s, 1 + t * 21 + j, none⟩ = some (txCell (st.txs t) j) := by
  rw [h.blk.cell (by omega), storeCell_tx _ _ _ _ _ _ _ _ ht hj]
/-- A cell of a transaction is written. -/
theorem RepX.setTx (h : RepX w s vi m vr va vo st) {t j : Nat} (ht : t < 16) (hj : j < 21) {v : Value} {x : Txn} (hx : ∀ i, i < 21 → txCell x i = if i = j then v else txCell (st.txs t) i) :
    RepX (w.setCell ⟨s, 1 + t * 21 + j, none⟩ v) s vi m vr va vo (st.setTx t x) := by
  have hc : Chg (fun k => k = s) w (w.setCell ⟨s, 1 + t * 21 + j, none⟩ v) := (Chg.refl (fun k => k = s) w).setCell (fun _ => rfl) v
  refine { blk := ?_, insts := ?_, ne := h.ne, readers := ?_, map := ?_, sm := h.sm, si := h.si, sr := h.sr, mi := h.mi, mr := h.mr, ir := h.ir }
  · refine (h.blk.set (1 + t * 21 + j) v).congr fun i hi => ?_
    unfold upd
    by_cases e : i = 1 + t * 21 + j
    · rw [if_pos e, e, storeCell_tx _ _ _ _ _ _ _ _ ht hj]
      show v = txCell (if t = t then x else st.txs t) j
      rw [if_pos rfl, hx j hj, if_pos rfl]
    · rw [if_neg e]
      by_cases h1 : i = 0
      · subst h1; rfl
      · by_cases h2 : i ≤ 336
        · have e1 : storeCell vi (.map (some m)) vr va vo st.txs i = txCell (st.txs ((i - 1) / 21)) ((i - 1) % 21) := by
            unfold storeCell; rw [if_neg h1, if_pos h2]
          have e2 : storeCell vi (.map (some m)) vr va vo (st.setTx t x).txs i = txCell ((st.setTx t x).txs ((i - 1) / 21)) ((i - 1) % 21) := by
            unfold storeCell; rw [if_neg h1, if_pos h2]
          rw [e1, e2]
          show _ = txCell (if (i - 1) / 21 = t then x else st.txs ((i - 1) / 21)) ((i - 1) % 21)
          by_cases h3 : (i - 1) / 21 = t
          · rw [if_pos h3, h3, hx _ (by omega), if_neg (by omega)]
          · rw [if_neg h3]
        · unfold storeCell
          rw [if_neg h1, if_neg h2, if_neg h1, if_neg h2]
  · exact hc.ownsRow h.insts fun k hk e => h.si (e ▸ hk)
  · exact hc.ownsRow h.readers fun k hk e => h.sr (e ▸ hk)
  · exact h.map.kept (hc.block m h.map.lt (fun e => h.sm e.symm))
theorem flatMap_at {α : Type} (f : α → List Value) (n : Nat) (hf : ∀ x, (f x).length = n) : ∀ (l : List α) (i j : Nat) (d : α), i < l.length → j < n → (l.flatMap f)[i * n + j]? = (f (l.getD i d))[j]? := by
  intro l
  induction l with
  | nil => intro i j d h; simp at h
  | cons x r ih =>
    intro i j d hi hj
    rw [List.flatMap_cons]
    cases i with
    | zero =>
      rw [List.getElem?_append_left (by rw [hf]; omega)]
      simp
    | succ i =>
      rw [List.getElem?_append_right (by rw [hf, Nat.succ_mul]; omega), hf]
      have : (i + 1) * n + j - n = i * n + j := by rw [Nat.succ_mul]; omega
      rw [this, ih i j d (by simpa using hi) hj]
      simp
theorem length_instCells (x : Inst) : (instCells x).length = 33 := by simp [instCells]
theorem instCells_at (x : Inst) (j : Nat) (hj : j < 33) : (instCells x)[j]? = some (instCell x j) := by
  simp [instCells, hj]
/-- Where the instants lie, and their cells. -/
theorem RepX.slice (h : RepX w s vi m vr va vo st) : ∃ g cap, vi = .slice (some ⟨g, 0, none⟩) st.insts.length cap ∧ st.insts.length ≤ maxLen ∧ g ≠ s ∧
    ∀ i j, i < st.insts.length → j < 33 → w.cell? ⟨g, i * 33 + j, none⟩ = some (instCell (st.inst i) j) := by
  rcases h.insts.2 with ⟨_, h0⟩ | ⟨g, cap, cur, rfl, hb, hg, hnc, hcm, hcs, htake⟩
  · have := h.ne; omega
  · refine ⟨g, cap, rfl, by omega, fun e => h.si (by simp [Value.ownBlock, e]), fun i j hi hj => ?_⟩
    rw [World.ownsRow.cellAt (h := h.insts) (i * 33 + j) (by omega), flatMap_at instCells 33 length_instCells _ _ _ Inst.zero hi hj, instCells_at _ _ hj]
    rfl
end

/-! ### The smallest contracts -/
def stopV (e : Int) : List PanicEntry := [{ v := .iface 101 (.agg #[.int .i64 e]), recovered := false }]

theorem must_yes (e : Int) (w : World) :
    Calls Try.prog 37 #[.bool true, .int .i64 e] w fun r w' => r = .returned (.tuple #[]) ∧ w' = w := by
  go_enter Try.func37, Try.ntmps37
  go_wp2
  go_end0
  exact ⟨rfl, rfl⟩
theorem must_no (e : Int) (w : World) :
    Calls Try.prog 37 #[.bool false, .int .i64 e] w fun r w' => r = .panicked (stopV e) ∧ w' = w := by
  go_enter Try.func37, Try.ntmps37
  go_wp2
  exact ⟨rfl, rfl, rfl⟩

theorem within_any (n lo hi : Int) (w : World) :
    Calls Try.prog 38 #[.int .i64 n, .int .i64 lo, .int .i64 hi] w fun e w' => e = .returned (.bool (within n lo hi)) ∧ w' = w := by
  unfold within
  by_cases h : lo ≤ n
  · by_cases h2 : n ≤ hi
    · go_enter Try.func38, Try.ntmps38
      go_wp2
      go_ret
      exact ⟨by simp [h, h2], rfl⟩
    · go_enter Try.func38, Try.ntmps38
      go_wp2
      go_ret
      exact ⟨by simp [h]; omega, rfl⟩
  · go_enter Try.func38, Try.ntmps38
    go_wp2
    go_ret
    exact ⟨by simp; omega, rfl⟩

theorem last_any (b off : Nat) (a : Option Addr) (n c : Nat) (w : World) (h : w.cell? ⟨b, off, none⟩ = some (.slice a n c)) (hn : n ≤ maxLen) :
    Calls Try.prog 39 #[.pointer (some ⟨b, off, none⟩)] w fun e w' => e = .returned (.int .i64 ((n : Int) - 1)) ∧ w' = w := by
  unfold maxLen at hn
  go_enter Try.func39, Try.ntmps39
  go_wp2
  go_ret
  exact ⟨rfl, rfl⟩

section
variable {w : World} {s m : Nat} {vi vr va vo : Value} {st : St}
set_option maxHeartbeats 400000 in
theorem live_yes (hR : RepX w s vi m vr va vo st) (d t k n : Int) (h0 : 0 ≤ t) (h1 : t < 16) (hl : (st.txs t.toNat).live = true) :
    Calls Try.prog 74 #[.pointer (some ⟨s, 0, none⟩), .agg #[.int .i64 d, .int .i64 t, .int .i64 k, .int .i64 n]] w fun r w' => r = .returned (.pointer (some ⟨s, 1 + t.toNat * 21, none⟩)) ∧ New w w' := by
  have hs := hR.blk.lt
  have hb : w.cell? ⟨s, 1 + t.toNat * 21 + 17, none⟩ = some (.bool true) := by
    rw [hR.tx (by omega) (by omega)]; simp [txCell]; simp [Txn.live] at hl; exact hl.1
  have ho : w.cell? ⟨s, 1 + t.toNat * 21 + 18, none⟩ = some (.bool false) := by
    rw [hR.tx (by omega) (by omega)]; simp [txCell]; simp [Txn.live] at hl; exact hl.2
  clear hR hl
  go_enter Try.func74, Try.ntmps74
  go_wp2
  go_quiet (fail)
  go_wp2_with ((with_reducible refine (must_yes _ _).mono ?_); rintro e w' ⟨rfl, rfl⟩)
  go_ret
  exact ⟨rfl, ((Chg.refl _ w).alloc _).drewN _⟩

set_option maxHeartbeats 400000 in
theorem live_no (hR : RepX w s vi m vr va vo st) (d t k n : Int) (h0 : 0 ≤ t) (h1 : t < 16) (hl : (st.txs t.toNat).live = false) :
    Calls Try.prog 74 #[.pointer (some ⟨s, 0, none⟩), .agg #[.int .i64 d, .int .i64 t, .int .i64 k, .int .i64 n]] w fun r w' => r = .panicked (stopV 6) ∧ New w w' := by
  have hs := hR.blk.lt
  have hb : w.cell? ⟨s, 1 + t.toNat * 21 + 17, none⟩ = some (.bool (st.txs t.toNat).begun) := by
    rw [hR.tx (by omega) (by omega)]; simp [txCell]
  have ho : w.cell? ⟨s, 1 + t.toNat * 21 + 18, none⟩ = some (.bool (st.txs t.toNat).over) := by
    rw [hR.tx (by omega) (by omega)]; simp [txCell]
  unfold Txn.live at hl
  clear hR
  generalize (st.txs t.toNat).begun = x at *
  generalize (st.txs t.toNat).over = y at *
  cases x
  · clear ho hl
    go_enter Try.func74, Try.ntmps74
    go_wp2
    go_quiet (fail)
    go_wp2_with ((with_reducible refine (must_no _ _).mono ?_); rintro e w' ⟨rfl, rfl⟩)
    exact ⟨rfl, rfl, ((Chg.refl _ w).alloc _).drewN _⟩
  · obtain rfl : y = true := by simpa using hl
    clear hl
    go_enter Try.func74, Try.ntmps74
    go_wp2
    go_quiet (fail)
    go_wp2_with ((with_reducible refine (must_no _ _).mono ?_); rintro e w' ⟨rfl, rfl⟩)
    exact ⟨rfl, rfl, ((Chg.refl _ w).alloc _).drewN _⟩
end
end Go.Proofs.Yteaeflmglppcdaa
