/- The reference's state in memory, for the plain model of the store. The reference: writes into its state; which operation is refused. -/
import Derived.Test.YteaeflmglppcdaaT1
import Derived.Test.YteaeflmglppcdaaS0
import Derived.Deep.MidRow
namespace Go.Proofs.Yteaeflmglppcdaa
open Go.RowKit Tx

/-- Where it lies. -/
structure RP where
  ga : Nat
  ca : Nat
  gW : Nat
  cW : Nat
  gC : Nat
  cC : Nat
  rd : Nat → Nat
  wb : Nat → Nat
  vb : Nat → Nat
  gi : List (Nat × Nat)
  gc : List (Nat × Nat)
  lab : Nat → Nat
def stCell (P : RP) (X : XS) (t j : Nat) : Value :=
  if j = 0 then .bool (X.st.txs t).begun else if j = 1 then .bool (X.st.txs t).over else if j = 2 then .bool (X.st.txs t).comm else if j = 3 then .int .i64 (X.st.txs t).inst
  else if j = 4 then .slice (some ⟨P.rd t, 0, none⟩) 16 16 else if j = 5 then .slice (some ⟨P.wb t, 0, none⟩) 16 16 else if j = 6 then .slice (some ⟨P.vb t, 0, none⟩) 16 16
  else if j = 7 then .int .i64 (X.made t) else .int .i64 (X.turn t)
def rowOf (l : List (Nat × Nat)) : List Value := l.map fun p => .slice (some ⟨p.1, 0, none⟩) 16 p.2
def runV (P : RP) (X : XS) : Value :=
  .agg #[.slice (some ⟨P.ga, 0, none⟩) 16 P.ca, .slice (some ⟨P.gW, 0, none⟩) X.st.insts.length P.cW, .slice (some ⟨P.gC, 0, none⟩) X.st.insts.length P.cC, .int .i64 X.commits]
/-- The reference's state lies in memory. The labels tell its blocks apart. -/
structure RRep (w : World) (P : RP) (X : XS) : Prop where
  la : P.lab P.ga = 1
  lW : P.lab P.gW = 2
  lC : P.lab P.gC = 3
  lr : ∀ t, t < 16 → P.lab (P.rd t) = 10 + 3 * t
  lw : ∀ t, t < 16 → P.lab (P.wb t) = 11 + 3 * t
  lv : ∀ t, t < 16 → P.lab (P.vb t) = 12 + 3 * t
  li : ∀ (i g c : Nat), P.gi[i]? = some (g, c) → P.lab g = 4
  lc : ∀ (i g c : Nat), P.gc[i]? = some (g, c) → P.lab g = 5 ∨ ∃ t, t < 16 ∧ P.lab g = 11 + 3 * t ∧ (X.st.txs t).over = true
  hi : ∀ b, w.heap.size ≤ b → P.lab b = 0
  all : ∀ t j, t < 16 → j < 9 → w.cell? ⟨P.ga, t * 9 + j, none⟩ = some (stCell P X t j)
  allF : ∀ i, w.frozen? ⟨P.ga, i, none⟩ = false
  rdC : ∀ t k, t < 16 → k < 16 → w.cell? ⟨P.rd t, k, none⟩ = some (.bool ((X.st.txs t).read k))
  rdF : ∀ t k, t < 16 → w.frozen? ⟨P.rd t, k, none⟩ = false
  wbC : ∀ t k, t < 16 → k < 16 → w.cell? ⟨P.wb t, k, none⟩ = some (.bool (mget ((t : Int), (k : Int)) X.st.wr).isSome)
  wbF : ∀ t k, t < 16 → w.frozen? ⟨P.wb t, k, none⟩ = false
  vbC : ∀ t k, t < 16 → k < 16 → w.cell? ⟨P.vb t, k, none⟩ = some (.int .i64 ((mget ((t : Int), (k : Int)) X.st.wr).getD 0))
  vbF : ∀ t k, t < 16 → w.frozen? ⟨P.vb t, k, none⟩ = false
  rowW : w.ownsRow 0 28 1 (.slice (some ⟨P.gW, 0, none⟩) X.st.insts.length P.cW) X.st.insts.length (rowOf P.gi)
  rowC : w.ownsRow 0 91 1 (.slice (some ⟨P.gC, 0, none⟩) X.st.insts.length P.cC) X.st.insts.length (rowOf P.gc)
  giL : P.gi.length = X.st.insts.length
  gcL : P.gc.length = X.st.insts.length
  words : ∀ (i g c : Nat), P.gi[i]? = some (g, c) → ∀ k, k < 16 → w.cell? ⟨g, k, none⟩ = some (.int .i64 ((X.st.inst i).words k))
  chgd : ∀ (i g c : Nat), P.gc[i]? = some (g, c) → ∀ k, k < 16 → w.cell? ⟨g, k, none⟩ = some (.bool ((X.st.inst i).wrote k))
section
variable {w w' : World} {P : RP} {X : XS}
theorem RRep.lt (h : RRep w P X) {b : Nat} (hb : P.lab b ≠ 0) : b < w.heap.size := by
  rcases Nat.lt_or_ge b w.heap.size with hl | hl
  · exact hl
  · exact absurd (h.hi b hl) hb
theorem RRep.kept {S : Nat → Prop} (h : RRep w P X) (hC : Chg S w w') (hS : ∀ b, P.lab b ≠ 0 → ¬ S b) : RRep w' P X := by
  have cell : ∀ b k v, P.lab b ≠ 0 → w.cell? ⟨b, k, none⟩ = some v → w'.cell? ⟨b, k, none⟩ = some v := fun b k v hb hc => (hC.cell (a := ⟨b, k, none⟩) (h.lt hb) (hS b hb)).trans hc
  have fr : ∀ b k, P.lab b ≠ 0 → w.frozen? ⟨b, k, none⟩ = false → w'.frozen? ⟨b, k, none⟩ = false := fun b k hb hc => (hC.frozen (a := ⟨b, k, none⟩) (h.lt hb) (hS b hb)).trans hc
  have l1 : P.lab P.ga ≠ 0 := by rw [h.la]; decide
  refine ⟨h.la, h.lW, h.lC, h.lr, h.lw, h.lv, h.li, h.lc, fun b hb => h.hi b (Nat.le_trans hC.size hb), fun t j ht hj => cell _ _ _ l1 (h.all t j ht hj), fun i => fr _ _ l1 (h.allF i),
    fun t k ht hk => cell _ _ _ (by rw [h.lr t ht]; omega) (h.rdC t k ht hk), fun t k ht => fr _ _ (by rw [h.lr t ht]; omega) (h.rdF t k ht),
    fun t k ht hk => cell _ _ _ (by rw [h.lw t ht]; omega) (h.wbC t k ht hk), fun t k ht => fr _ _ (by rw [h.lw t ht]; omega) (h.wbF t k ht),
    fun t k ht hk => cell _ _ _ (by rw [h.lv t ht]; omega) (h.vbC t k ht hk), fun t k ht => fr _ _ (by rw [h.lv t ht]; omega) (h.vbF t k ht),
    hC.ownsRow h.rowW (fun k hk hs => ?_), hC.ownsRow h.rowC (fun k hk hs => ?_), h.giL, h.gcL,
    fun i g c hg k hk => cell _ _ _ (by rw [h.li i g c hg]; decide) (h.words i g c hg k hk), fun i g c hg k hk => cell _ _ _ ?_ (h.chgd i g c hg k hk)⟩
  · simp [Value.ownBlock] at hk; subst hk; exact hS _ (by rw [h.lW]; decide) hs
  · simp [Value.ownBlock] at hk; subst hk; exact hS _ (by rw [h.lC]; decide) hs
  · rcases h.lc i g c hg with e | ⟨t, ht, e, _⟩ <;> rw [e] <;> omega
theorem RRep.new (h : RRep w P X) (hN : New w w') : RRep w' P X := h.kept hN (fun _ _ x => x)
/-- What the plain state says is all that counts. -/
theorem RRep.congr {X' : XS} (h : RRep w P X) (e1 : X'.st.insts = X.st.insts) (e2 : ∀ (t k : Nat), t < 16 → k < 16 → mget ((t : Int), (k : Int)) X'.st.wr = mget ((t : Int), (k : Int)) X.st.wr)
    (e3 : ∀ t k, t < 16 → k < 16 → (X'.st.txs t).read k = (X.st.txs t).read k) (e4 : ∀ t j, t < 16 → j < 9 → stCell P X' t j = stCell P X t j) (e5 : ∀ t, t < 16 → (X.st.txs t).over = true → (X'.st.txs t).over = true) : RRep w P X' := by
  have ei : ∀ i, X'.st.inst i = X.st.inst i := fun i => by unfold St.inst; rw [e1]
  refine ⟨h.la, h.lW, h.lC, h.lr, h.lw, h.lv, h.li, fun i g c hg => ?_, h.hi, fun t j ht hj => by rw [e4 t j ht hj]; exact h.all t j ht hj, h.allF, fun t k ht hk => by rw [e3 t k ht hk]; exact h.rdC t k ht hk, h.rdF,
    fun t k ht hk => by rw [e2 t k ht hk]; exact h.wbC t k ht hk, h.wbF, fun t k ht hk => by rw [e2 t k ht hk]; exact h.vbC t k ht hk, h.vbF, by rw [e1]; exact h.rowW, by rw [e1]; exact h.rowC, by rw [e1]; exact h.giL, by rw [e1]; exact h.gcL,
    fun i g c hg k hk => by rw [ei]; exact h.words i g c hg k hk, fun i g c hg k hk => by rw [ei]; exact h.chgd i g c hg k hk⟩
  rcases h.lc i g c hg with e | ⟨t, ht, e, ho⟩
  · exact .inl e
  · exact .inr ⟨t, ht, e, e5 t ht ho⟩
/-- A store of a transaction's state. -/
theorem RRep.setSt {X' : XS} {t : Nat} (h : RRep w P X) (ht : t < 16) (hC : Chg (fun b => b = P.ga) w w')
    (hcell : ∀ j, j < 9 → w'.cell? ⟨P.ga, t * 9 + j, none⟩ = some (stCell P X' t j)) (hother : ∀ i, i < t * 9 ∨ t * 9 + 9 ≤ i → w'.cell? ⟨P.ga, i, none⟩ = w.cell? ⟨P.ga, i, none⟩) (hfr : ∀ i, w'.frozen? ⟨P.ga, i, none⟩ = w.frozen? ⟨P.ga, i, none⟩)
    (e1 : X'.st.insts = X.st.insts) (e2 : X'.st.wr = X.st.wr) (e3 : ∀ i k, i < 16 → k < 16 → (X'.st.txs i).read k = (X.st.txs i).read k)
    (e4 : ∀ i, i ≠ t → X'.st.txs i = X.st.txs i ∧ X'.made i = X.made i ∧ X'.turn i = X.turn i) (e5 : (X.st.txs t).over = true → (X'.st.txs t).over = true) : RRep w' P X' := by
  have ei : ∀ i, X'.st.inst i = X.st.inst i := fun i => by unfold St.inst; rw [e1]
  have ne : ∀ b, P.lab b ≠ 1 → b ≠ P.ga := fun b hb e => hb (by rw [e]; exact h.la)
  have cell : ∀ b k v, P.lab b ≠ 0 → P.lab b ≠ 1 → w.cell? ⟨b, k, none⟩ = some v → w'.cell? ⟨b, k, none⟩ = some v := fun b k v hb hb1 hc => (hC.cell (a := ⟨b, k, none⟩) (h.lt hb) (ne b hb1)).trans hc
  have hrW := hC.ownsRow h.rowW (fun k hk hs => by simp [Value.ownBlock] at hk; exact ne P.gW (by rw [h.lW]; decide) (hk.trans hs))
  have hrC := hC.ownsRow h.rowC (fun k hk hs => by simp [Value.ownBlock] at hk; exact ne P.gC (by rw [h.lC]; decide) (hk.trans hs))
  have fr : ∀ b k, P.lab b ≠ 0 → P.lab b ≠ 1 → w.frozen? ⟨b, k, none⟩ = false → w'.frozen? ⟨b, k, none⟩ = false := fun b k hb hb1 hc => (hC.frozen (a := ⟨b, k, none⟩) (h.lt hb) (ne b hb1)).trans hc
  refine ⟨h.la, h.lW, h.lC, h.lr, h.lw, h.lv, h.li, fun i g c hg => ?_, fun b hb => h.hi b (Nat.le_trans hC.size hb), fun i j hi hj => ?_, fun i => (hfr i).trans (h.allF i),
    fun i k ht hk => by rw [e3 i k ht hk]; exact cell _ _ _ (by rw [h.lr i ht]; omega) (by rw [h.lr i ht]; omega) (h.rdC i k ht hk), fun i k ht => fr _ _ (by rw [h.lr i ht]; omega) (by rw [h.lr i ht]; omega) (h.rdF i k ht),
    fun i k ht hk => by rw [e2]; exact cell _ _ _ (by rw [h.lw i ht]; omega) (by rw [h.lw i ht]; omega) (h.wbC i k ht hk), fun i k ht => fr _ _ (by rw [h.lw i ht]; omega) (by rw [h.lw i ht]; omega) (h.wbF i k ht),
    fun i k ht hk => by rw [e2]; exact cell _ _ _ (by rw [h.lv i ht]; omega) (by rw [h.lv i ht]; omega) (h.vbC i k ht hk), fun i k ht => fr _ _ (by rw [h.lv i ht]; omega) (by rw [h.lv i ht]; omega) (h.vbF i k ht),
    by rw [e1]; exact hrW, by rw [e1]; exact hrC, by rw [e1]; exact h.giL, by rw [e1]; exact h.gcL,
    fun i g c hg k hk => by rw [ei]; exact cell _ _ _ (by rw [h.li i g c hg]; decide) (by rw [h.li i g c hg]; decide) (h.words i g c hg k hk), fun i g c hg k hk => by
      rw [ei]
      refine cell _ _ _ ?_ ?_ (h.chgd i g c hg k hk)
      · rcases h.lc i g c hg with e | ⟨t, ht, e, _⟩ <;> rw [e] <;> omega
      · rcases h.lc i g c hg with e | ⟨t, ht, e, _⟩ <;> rw [e] <;> omega⟩
  · rcases h.lc i g c hg with e | ⟨i', ht', e, ho⟩
    · exact .inl e
    · refine .inr ⟨i', ht', e, ?_⟩
      by_cases e' : i' = t
      · subst e'; exact e5 ho
      · rw [(e4 i' e').1]; exact ho
  · by_cases e : i = t
    · subst e; exact hcell j hj
    · rw [hother _ (by omega)]
      have hs : stCell P X' i j = stCell P X i j := by
        obtain ⟨q1, q2, q3⟩ := e4 i e
        unfold stCell
        rw [q1, q2, q3]
      rw [hs]
      exact h.all i j hi hj
end
theorem Try.info93s : (Try.prog.info? 93).map (·.size) = some 9 := by kernel_rfl
/-- At a store of a transaction's state: what stands behind it. -/
theorem wpList_store93 {ops : Array Oper} {rest : List Oper} {o : Oper} {a : Act} {Q : Exit → Act → World → Prop} (w : World) (hg : o.guard = none) (p v : Operand) (hop : o.op = Op.store 93 p v)
    (b off : Nat) (vs : Array Value) (hp : a.eval p = .pointer (some ⟨b, off, none⟩)) (hv : a.eval v = .agg vs) (hs : vs.size = 9) (h1 : vs.all (·.oneCell') = true)
    (hc : ∀ j, j < 9 → (w.cell? ⟨b, off + j, none⟩).isSome = true) (hf : ∀ i, w.frozen? ⟨b, i, none⟩ = false)
    (hK : ∀ w', Chg (fun i => i = b) w w' → (∀ j u, vs[j]? = some u → w'.cell? ⟨b, off + j, none⟩ = some u) → (∀ i, i < off ∨ off + 9 ≤ i → w'.cell? ⟨b, i, none⟩ = w.cell? ⟨b, i, none⟩) → (∀ i, w'.frozen? ⟨b, i, none⟩ = w.frozen? ⟨b, i, none⟩) →
      wpList Try.prog ops Q rest (a.put o.dst undef) w') :
    wpList Try.prog ops Q (o :: rest) a w := by
  refine wpList_plain hg fun K' hK' => ?_
  have hrun := run_storeAt_mid (P := Try.prog) w b off 93 vs (fun j hj => ⟨hc j (by omega), hf _⟩) (by rw [hs]; exact Try.info93s) h1
  unfold Oper.wp
  simp [execOp, hop, hp, hv, hrun, Result.andThen]
  refine hK' _ _ (hK _ ?_ (fun j u hj => ?_) (fun i hi => ?_) (fun i => ?_))
  · have gen : ∀ (l : List Value) (o : Nat) (w0 w1 : World), Chg (fun i => i = b) w0 w1 → Chg (fun i => i = b) w0 (w1.setCells b o l) := by
      intro l
      induction l with
      | nil => intro o w0 w1 h; exact h
      | cons v r ih => intro o w0 w1 h; exact ih _ _ _ (h.setCell (fun _ => rfl) v)
    exact gen _ _ _ _ (Chg.refl _ w)
  · have hj9 : j < 9 := by rw [← hs]; exact (Array.getElem?_eq_some_iff.1 hj).1
    have hjl : j < vs.toList.length := by simp; omega
    rw [World.cell?_setCells_in b vs.toList off w (fun q hq => hc q (by simp at hq; omega)) j hjl]
    have := (Array.getElem?_eq_some_iff.1 hj).2
    simpa using this
  · rw [World.cell?_setCells_out]
    simp
    omega
  · rw [World.frozen?_setCells]
end Go.Proofs.Yteaeflmglppcdaa
namespace Go.Proofs.Yteaeflmglppcdaa
open Go.RowKit Tx

section
variable {w : World} {P : RP} {X : XS}
theorem RRep.lab_gc (h : RRep w P X) {i g c : Nat} (hg : P.gc[i]? = some (g, c)) : P.lab g ≠ 0 := by
  rcases h.lc i g c hg with e | ⟨t, ht, e, _⟩ <;> rw [e] <;> omega
/-- A key is read. -/
theorem RRep.setRd {t k : Nat} (h : RRep w P X) (ht : t < 16) (hk : k < 16) : RRep (w.setCell ⟨P.rd t, k, none⟩ (.bool true)) P { X with st := X.st.setTx t ((X.st.txs t).setRead k) } := by
  have hC : Chg (fun b => b = P.rd t) w (w.setCell ⟨P.rd t, k, none⟩ (.bool true)) := (Chg.refl (fun b => b = P.rd t) w).setCell (fun _ => rfl) _
  have hl := h.lr t ht
  have ne : ∀ b, P.lab b ≠ 10 + 3 * t → b ≠ P.rd t := fun b hb e => hb (by rw [e]; exact hl)
  have cell : ∀ b q v, P.lab b ≠ 0 → P.lab b ≠ 10 + 3 * t → w.cell? ⟨b, q, none⟩ = some v → (w.setCell ⟨P.rd t, k, none⟩ (.bool true)).cell? ⟨b, q, none⟩ = some v := fun b q v hb hb1 hc => (hC.cell (a := ⟨b, q, none⟩) (h.lt hb) (ne b hb1)).trans hc
  have fr : ∀ b q, w.frozen? ⟨b, q, none⟩ = false → (w.setCell ⟨P.rd t, k, none⟩ (.bool true)).frozen? ⟨b, q, none⟩ = false := fun b q hf => by rw [World.frozen?_setCell]; exact hf
  have tx : ∀ i, (X.st.setTx t ((X.st.txs t).setRead k)).txs i = if i = t then (X.st.txs t).setRead k else X.st.txs i := fun i => rfl
  have ov : ∀ i, ((X.st.setTx t ((X.st.txs t).setRead k)).txs i).over = (X.st.txs i).over := fun i => by rw [tx]; split <;> (first | rfl | (rename_i e; rw [e]; rfl))
  have sc : ∀ i j, stCell P { X with st := X.st.setTx t ((X.st.txs t).setRead k) } i j = stCell P X i j := fun i j => by
    unfold stCell
    dsimp only
    rw [tx]
    by_cases e : i = t
    · subst e; rw [if_pos rfl]; rfl
    · rw [if_neg e]
  have hrW := hC.ownsRow h.rowW (fun q hq hs => by simp [Value.ownBlock] at hq; exact ne P.gW (by rw [h.lW]; omega) (hq.trans hs))
  have hrC := hC.ownsRow h.rowC (fun q hq hs => by simp [Value.ownBlock] at hq; exact ne P.gC (by rw [h.lC]; omega) (hq.trans hs))
  refine ⟨h.la, h.lW, h.lC, h.lr, h.lw, h.lv, h.li, fun i g c hg => ?_, fun b hb => h.hi b (Nat.le_trans hC.size hb), fun i j hi hj => ?_, fun i => fr _ _ (h.allF i),
    fun i q hi hq => ?_, fun i q hi => fr _ _ (h.rdF i q hi), fun i q hi hq => cell _ _ _ (by rw [h.lw i hi]; omega) (by rw [h.lw i hi]; omega) (h.wbC i q hi hq), fun i q hi => fr _ _ (h.wbF i q hi),
    fun i q hi hq => cell _ _ _ (by rw [h.lv i hi]; omega) (by rw [h.lv i hi]; omega) (h.vbC i q hi hq), fun i q hi => fr _ _ (h.vbF i q hi), hrW, hrC, h.giL, h.gcL,
    fun i g c hg q hq => cell _ _ _ (by rw [h.li i g c hg]; decide) (by rw [h.li i g c hg]; omega) (h.words i g c hg q hq), fun i g c hg q hq => ?_⟩
  · rcases h.lc i g c hg with e | ⟨t', ht', e, ho⟩
    · exact .inl e
    · exact .inr ⟨t', ht', e, by rw [ov]; exact ho⟩
  · rw [sc]
    exact cell _ _ _ (by rw [h.la]; decide) (by rw [h.la]; omega) (h.all i j hi hj)
  · show _ = some (Value.bool (((X.st.setTx t ((X.st.txs t).setRead k)).txs i).read q))
    rw [tx]
    by_cases e : i = t
    · subst e
      rw [if_pos rfl]
      by_cases e2 : q = k
      · subst e2
        rw [World.cell?_setCell_same _ _ _ (h.rdC i q hi hq)]
        simp [Txn.setRead]
      · rw [World.cell?_setCell_other _ _ _ _ (fun e => by have := congrArg Addr.off e; simp at this; omega), h.rdC i q hi hq]
        simp [Txn.setRead, e2]
    · rw [if_neg e]
      exact cell _ _ _ (by rw [h.lr i hi]; omega) (by rw [h.lr i hi]; omega) (h.rdC i q hi hq)
  · refine cell _ _ _ (h.lab_gc hg) ?_ (h.chgd i g c hg q hq)
    rcases h.lc i g c hg with e | ⟨t', ht', e, _⟩ <;> rw [e] <;> omega
/-- A key is written. -/
theorem RRep.setWr {t k : Nat} (h : RRep w P X) (ht : t < 16) (hk : k < 16) (hov : (X.st.txs t).over = false) (n : Int) :
    RRep ((w.setCell ⟨P.wb t, k, none⟩ (.bool true)).setCell ⟨P.vb t, k, none⟩ (.int .i64 n)) P { X with st := put X.st t k n } := by
  have hC : Chg (fun b => b = P.wb t ∨ b = P.vb t) w ((w.setCell ⟨P.wb t, k, none⟩ (.bool true)).setCell ⟨P.vb t, k, none⟩ (.int .i64 n)) := ((Chg.refl (fun b => b = P.wb t ∨ b = P.vb t) w).setCell (fun _ => .inl rfl) _).setCell (fun _ => .inr rfl) _
  have hl := h.lw t ht
  have hl2 := h.lv t ht
  have ne : ∀ b, P.lab b ≠ 11 + 3 * t → P.lab b ≠ 12 + 3 * t → ¬ (b = P.wb t ∨ b = P.vb t) := fun b hb hb2 e => by
    rcases e with e | e
    · exact hb (by rw [e]; exact hl)
    · exact hb2 (by rw [e]; exact hl2)
  have cell : ∀ b q v, P.lab b ≠ 0 → P.lab b ≠ 11 + 3 * t → P.lab b ≠ 12 + 3 * t → w.cell? ⟨b, q, none⟩ = some v → ((w.setCell ⟨P.wb t, k, none⟩ (.bool true)).setCell ⟨P.vb t, k, none⟩ (.int .i64 n)).cell? ⟨b, q, none⟩ = some v :=
    fun b q v hb hb1 hb2 hc => (hC.cell (a := ⟨b, q, none⟩) (h.lt hb) (ne b hb1 hb2)).trans hc
  have fr : ∀ b q, w.frozen? ⟨b, q, none⟩ = false → ((w.setCell ⟨P.wb t, k, none⟩ (.bool true)).setCell ⟨P.vb t, k, none⟩ (.int .i64 n)).frozen? ⟨b, q, none⟩ = false := fun b q hf => by rw [World.frozen?_setCell, World.frozen?_setCell]; exact hf
  have tx : ∀ i, (put X.st t k n).txs i = if i = t then { X.st.txs t with writes := true } else X.st.txs i := fun i => rfl
  have ov : ∀ i, ((put X.st t k n).txs i).over = (X.st.txs i).over := fun i => by rw [tx]; split <;> (first | rfl | (rename_i e; rw [e]))
  have sc : ∀ i j, stCell P { X with st := put X.st t k n } i j = stCell P X i j := fun i j => by
    unfold stCell
    dsimp only
    rw [tx]
    by_cases e : i = t
    · subst e; rw [if_pos rfl]
    · rw [if_neg e]
  have wrq : ∀ (i q : Nat), mget ((i : Int), (q : Int)) (put X.st t k n).wr = if i = t ∧ q = k then some n else mget ((i : Int), (q : Int)) X.st.wr := fun i q => by
    unfold put
    simp only [mget_mput]
    by_cases e : i = t ∧ q = k
    · rw [if_pos e, if_pos (by rw [e.1, e.2])]
    · rw [if_neg e, if_neg (fun e' => e (by have h1 := congrArg Prod.fst e'; have h2 := congrArg Prod.snd e'; simp at h1 h2; omega))]
  have hwv : P.wb t ≠ P.vb t := fun e => by rw [e] at hl; omega
  have hrW := hC.ownsRow h.rowW (fun q hq hs => by simp [Value.ownBlock] at hq; exact ne P.gW (by rw [h.lW]; omega) (by rw [h.lW]; omega) (by rw [hq]; exact hs))
  have hrC := hC.ownsRow h.rowC (fun q hq hs => by simp [Value.ownBlock] at hq; exact ne P.gC (by rw [h.lC]; omega) (by rw [h.lC]; omega) (by rw [hq]; exact hs))
  refine ⟨h.la, h.lW, h.lC, h.lr, h.lw, h.lv, h.li, fun i g c hg => ?_, fun b hb => h.hi b (Nat.le_trans hC.size hb), fun i j hi hj => ?_, fun i => fr _ _ (h.allF i),
    fun i q hi hq => ?_, fun i q hi => fr _ _ (h.rdF i q hi), fun i q hi hq => ?_, fun i q hi => fr _ _ (h.wbF i q hi),
    fun i q hi hq => ?_, fun i q hi => fr _ _ (h.vbF i q hi), hrW, hrC, h.giL, h.gcL,
    fun i g c hg q hq => cell _ _ _ (by rw [h.li i g c hg]; decide) (by rw [h.li i g c hg]; omega) (by rw [h.li i g c hg]; omega) (h.words i g c hg q hq), fun i g c hg q hq => ?_⟩
  · rcases h.lc i g c hg with e | ⟨t', ht', e, ho⟩
    · exact .inl e
    · exact .inr ⟨t', ht', e, by rw [ov]; exact ho⟩
  · rw [sc]
    exact cell _ _ _ (by rw [h.la]; decide) (by rw [h.la]; omega) (by rw [h.la]; omega) (h.all i j hi hj)
  · have e : ((put X.st t k n).txs i).read q = (X.st.txs i).read q := by rw [tx]; split <;> (first | rfl | (rename_i e; rw [e]))
    show _ = some (Value.bool (((put X.st t k n).txs i).read q))
    rw [e]
    exact cell _ _ _ (by rw [h.lr i hi]; omega) (by rw [h.lr i hi]; omega) (by rw [h.lr i hi]; omega) (h.rdC i q hi hq)
  · show _ = some (Value.bool (mget _ (put X.st t k n).wr).isSome)
    rw [wrq]
    by_cases e : i = t
    · subst e
      rw [World.cell?_setCell_other _ _ _ _ (fun e => hwv (congrArg Addr.block e).symm)]
      by_cases e2 : q = k
      · subst e2
        rw [if_pos ⟨rfl, rfl⟩, World.cell?_setCell_same _ _ _ (h.wbC i q hi hq)]
        rfl
      · rw [if_neg (fun e => e2 e.2), World.cell?_setCell_other _ _ _ _ (fun e => by have := congrArg Addr.off e; simp at this; omega)]
        exact h.wbC i q hi hq
    · rw [if_neg (fun e' => e e'.1)]
      exact cell _ _ _ (by rw [h.lw i hi]; omega) (by rw [h.lw i hi]; omega) (by rw [h.lw i hi]; omega) (h.wbC i q hi hq)
  · show _ = some (Value.int .i64 ((mget _ (put X.st t k n).wr).getD 0))
    rw [wrq]
    have hv0 : (w.setCell ⟨P.wb t, k, none⟩ (.bool true)).cell? ⟨P.vb t, q, none⟩ = w.cell? ⟨P.vb t, q, none⟩ := World.cell?_setCell_other _ _ _ _ (fun e => hwv (congrArg Addr.block e))
    by_cases e : i = t
    · subst e
      by_cases e2 : q = k
      · subst e2
        rw [if_pos ⟨rfl, rfl⟩, World.cell?_setCell_same _ _ _ (hv0.trans (h.vbC i q hi hq))]
        rfl
      · rw [if_neg (fun e => e2 e.2), World.cell?_setCell_other _ _ _ _ (fun e => by have := congrArg Addr.off e; simp at this; omega), hv0]
        exact h.vbC i q hi hq
    · rw [if_neg (fun e' => e e'.1)]
      exact cell _ _ _ (by rw [h.lv i hi]; omega) (by rw [h.lv i hi]; omega) (by rw [h.lv i hi]; omega) (h.vbC i q hi hq)
  · have e : (put X.st t k n).inst i = X.st.inst i := rfl
    show _ = some (Value.bool (((put X.st t k n).inst i).wrote q))
    rw [e]
    refine cell _ _ _ (h.lab_gc hg) ?_ ?_ (h.chgd i g c hg q hq)
    · rcases h.lc i g c hg with e | ⟨t', ht', e, ho⟩
      · rw [e]; omega
      · rw [e]
        intro e2
        have : t' = t := by omega
        subst this
        rw [hov] at ho; cases ho
    · rcases h.lc i g c hg with e | ⟨t', ht', e, ho⟩ <;> rw [e] <;> omega
end
end Go.Proofs.Yteaeflmglppcdaa
