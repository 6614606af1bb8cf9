/- The reference: a transaction is committed. -/
import Derived.Test.YteaeflmglppcdaaT6
namespace Go.Proofs.Yteaeflmglppcdaa
open Go.RowKit Tx

/-- It ends, with this frame, in this world. -/
def Once (A : Act) (W : World) : Exit → Act → World → Prop
  | .normal, a, w => a = A ∧ w = W
  | _, _, _ => False
/-- A region whose every order comes to the same: shown once, gone on from once. -/
theorem wp_once {c : Code} {Q : Exit → Act → World → Prop} {a : Act} {w : World} {A : Act} {W : World} (h1 : c.wp Try.prog (Once A W) a w) (h2 : Q .normal A W) : c.wp Try.prog Q a w :=
  Code.wp_mono (fun e a' w' h => by
    cases e with
    | normal => obtain ⟨rfl, rfl⟩ := h; exact h2
    | _ => exact h.elim) h1
def nth (l : List Value) (j : Nat) : Value := l.getD j undef
theorem Blk.ofL (w : World) (l : List Value) (T : TypeId) : Blk (w.alloc (.cells l.toArray T)) w.heap.size T l.length (nth l) :=
  Blk.new w _ _ _ (by simp) (fun i hi => by simp [nth, hi])
theorem Blk.setL {w : World} {b : Nat} {T : TypeId} {n : Nat} {l : List Value} (h : Blk w b T n (nth l)) (i : Nat) (v : Value) (hi : i < l.length) : Blk (w.setCell ⟨b, i, none⟩ v) b T n (nth (l.set i v)) :=
  (h.set i v).congr (fun j _ => by
    unfold upd nth
    simp only [List.getD_eq_getElem?_getD]
    by_cases e : j = i
    · subst e; simp [hi]
    · rw [if_neg e, List.getElem?_set_ne (fun h => e h.symm)])
theorem Blk.chg {S : Nat → Prop} {w w' : World} {b : Nat} {T : TypeId} {n : Nat} {f : Nat → Value} (h : Blk w b T n f) (hC : Chg S w w') (hb : ¬ S b) : Blk w' b T n f := hC.blk h hb
/-- A transaction's state in memory. -/
def stv (P : RP) (t : Nat) (x : Txn) (m n : Nat) (j : Nat) : Value :=
  if j = 0 then .bool x.begun else if j = 1 then .bool x.over else if j = 2 then .bool x.comm else if j = 3 then .int .i64 x.inst
  else if j = 4 then .slice (some ⟨P.rd t, 0, none⟩) 16 16 else if j = 5 then .slice (some ⟨P.wb t, 0, none⟩) 16 16 else if j = 6 then .slice (some ⟨P.vb t, 0, none⟩) 16 16
  else if j = 7 then .int .i64 m else .int .i64 n
theorem stCell_of {P : RP} {X : XS} {t : Nat} {x : Txn} {m n : Nat} (h1 : X.st.txs t = x) (h2 : X.made t = m) (h3 : X.turn t = n) (j : Nat) : stCell P X t j = stv P t x m n j := by
  unfold stCell stv
  rw [h1, h2, h3]
section
variable {w w' : World} {P : RP} {X : XS}
/-- A store of a transaction's state, whose keys read and words written stay. -/
theorem RRep.setTxn {X' : XS} {t : Nat} {x : Txn} {m n : Nat} (h : RRep w P X) (ht : t < 16) (hC : Chg (fun b => b = P.ga) w w')
    (hcell : ∀ j, j < 9 → w'.cell? ⟨P.ga, t * 9 + j, none⟩ = some (stv P t x m n j)) (hother : ∀ i, i < t * 9 ∨ t * 9 + 9 ≤ i → w'.cell? ⟨P.ga, i, none⟩ = w.cell? ⟨P.ga, i, none⟩) (hfr : ∀ i, w'.frozen? ⟨P.ga, i, none⟩ = w.frozen? ⟨P.ga, i, none⟩)
    (e1 : X'.st.insts = X.st.insts) (e2 : X'.st.wr = X.st.wr) (e3 : ∀ i, X'.st.txs i = if i = t then x else X.st.txs i) (e4 : X'.made t = m) (e5 : X'.turn t = n) (e6 : ∀ i, i ≠ t → X'.made i = X.made i ∧ X'.turn i = X.turn i)
    (e7 : x.read = (X.st.txs t).read) (e8 : (X.st.txs t).over = true → x.over = true) : RRep w' P X' := by
  have et : X'.st.txs t = x := by rw [e3, if_pos rfl]
  refine h.setSt ht hC (fun j hj => (hcell j hj).trans (congrArg some (stCell_of et e4 e5 j).symm)) hother hfr e1 e2 (fun i k _ _ => ?_) (fun i hi => ⟨by rw [e3, if_neg hi], e6 i hi⟩) (fun ho => by rw [et]; exact e8 ho)
  rw [e3]
  by_cases e : i = t
  · rw [if_pos e, e7, e]
  · rw [if_neg e]
/-- Behind a commit that writes: the new instant's words lie at nb, the rows are longer. -/
def RP.more (P : RP) (t nb cb gW cW gC cC : Nat) : RP :=
  { P with gW := gW, cW := cW, gC := gC, cC := cC, gi := P.gi ++ [(nb, cb)], gc := P.gc ++ [(P.wb t, 16)], lab := fun b => if b = nb then 4 else if b = gW then 2 else if b = gC then 3 else P.lab b }
theorem RRep.more {X' : XS} {t nb cb gW cW gC cC : Nat} (h : RRep w P X) (ht : t < 16) (hC : Chg (fun b => b = P.gW ∨ b = P.gC ∨ b = P.ga) w w')
    (hnb : w.heap.size ≤ nb) (hnbl : nb < w'.heap.size) (hgW : gW = P.gW ∨ w.heap.size ≤ gW ∧ gW < w'.heap.size) (hgC : gC = P.gC ∨ w.heap.size ≤ gC ∧ gC < w'.heap.size)
    (n1 : gW ≠ nb) (n2 : gC ≠ nb) (n3 : gC ≠ gW)
    (hcell : ∀ j, j < 9 → w'.cell? ⟨P.ga, t * 9 + j, none⟩ = some (stCell P X' t j)) (hother : ∀ i, i < t * 9 ∨ t * 9 + 9 ≤ i → w'.cell? ⟨P.ga, i, none⟩ = w.cell? ⟨P.ga, i, none⟩) (hfr : ∀ i, w'.frozen? ⟨P.ga, i, none⟩ = w.frozen? ⟨P.ga, i, none⟩)
    (e1 : X'.st.insts = X.st.insts ++ [Tx.made X.st t]) (e2 : X'.st.wr = X.st.wr) (e3 : ∀ i k, i < 16 → k < 16 → (X'.st.txs i).read k = (X.st.txs i).read k)
    (e4 : ∀ i, i ≠ t → X'.st.txs i = X.st.txs i ∧ X'.made i = X.made i ∧ X'.turn i = X.turn i) (e5 : (X'.st.txs t).over = true)
    (hrW : w'.ownsRow 0 28 1 (.slice (some ⟨gW, 0, none⟩) (X.st.insts.length + 1) cW) (X.st.insts.length + 1) (rowOf P.gi ++ [.slice (some ⟨nb, 0, none⟩) 16 cb]))
    (hrC : w'.ownsRow 0 91 1 (.slice (some ⟨gC, 0, none⟩) (X.st.insts.length + 1) cC) (X.st.insts.length + 1) (rowOf P.gc ++ [.slice (some ⟨P.wb t, 0, none⟩) 16 16]))
    (hw : ∀ k, k < 16 → w'.cell? ⟨nb, k, none⟩ = some (.int .i64 ((Tx.made X.st t).words k))) : RRep w' (P.more t nb cb gW cW gC cC) X' := by
  have hlen : X'.st.insts.length = X.st.insts.length + 1 := by rw [e1]; simp
  have ei : ∀ i, i < X.st.insts.length → X'.st.inst i = X.st.inst i := fun i hi => by
    unfold St.inst
    rw [e1]
    simp only [List.getD_eq_getElem?_getD]
    rw [List.getElem?_append_left hi]
  have el : X'.st.inst X.st.insts.length = Tx.made X.st t := by
    unfold St.inst
    rw [e1]
    simp only [List.getD_eq_getElem?_getD]
    rw [List.getElem?_append_right (Nat.le_refl _)]
    simp
  have hL : ∀ b, P.lab b ≠ 0 → (P.more t nb cb gW cW gC cC).lab b = P.lab b := fun b hb => by
    have hlt := h.lt hb
    show (if b = nb then 4 else if b = gW then 2 else if b = gC then 3 else P.lab b) = P.lab b
    rw [if_neg (by omega)]
    by_cases e : b = gW
    · rw [if_pos e]
      rcases hgW with h1 | h1
      · rw [e, h1, h.lW]
      · omega
    · rw [if_neg e]
      by_cases e' : b = gC
      · rw [if_pos e']
        rcases hgC with h1 | h1
        · rw [e', h1, h.lC]
        · omega
      · rw [if_neg e']
  have nS : ∀ b, P.lab b ≠ 1 → P.lab b ≠ 2 → P.lab b ≠ 3 → ¬ (b = P.gW ∨ b = P.gC ∨ b = P.ga) := fun b h1 h2 h3 hs => by
    rcases hs with e | e | e
    · exact h2 (by rw [e]; exact h.lW)
    · exact h3 (by rw [e]; exact h.lC)
    · exact h1 (by rw [e]; exact h.la)
  have cell : ∀ b k v, 4 ≤ P.lab b → w.cell? ⟨b, k, none⟩ = some v → w'.cell? ⟨b, k, none⟩ = some v := fun b k v hb hc => (hC.cell (a := ⟨b, k, none⟩) (h.lt (b := b) (by omega)) (nS b (by omega) (by omega) (by omega))).trans hc
  have fr : ∀ b k, 4 ≤ P.lab b → w.frozen? ⟨b, k, none⟩ = false → w'.frozen? ⟨b, k, none⟩ = false := fun b k hb hc => (hC.frozen (a := ⟨b, k, none⟩) (h.lt (b := b) (by omega)) (nS b (by omega) (by omega) (by omega))).trans hc
  have lc4 : ∀ (i g c : Nat), P.gc[i]? = some (g, c) → 4 ≤ P.lab g := fun i g c hg => by
    rcases h.lc i g c hg with e | ⟨t', _, e, _⟩ <;> omega
  have gi0 : ∀ (i g c : Nat), (P.gi ++ [(nb, cb)])[i]? = some (g, c) → (i < X.st.insts.length ∧ P.gi[i]? = some (g, c)) ∨ (i = X.st.insts.length ∧ g = nb) := fun i g c hg => by
    rcases Nat.lt_or_ge i P.gi.length with hi | hi
    · rw [List.getElem?_append_left hi] at hg
      exact .inl ⟨by rw [← h.giL]; exact hi, hg⟩
    · rw [List.getElem?_append_right hi] at hg
      rcases Nat.eq_zero_or_pos (i - P.gi.length) with h0 | h0
      · rw [h0] at hg
        simp at hg
        exact .inr ⟨by have := h.giL; omega, hg.1.symm⟩
      · have := (List.getElem?_eq_some_iff.1 hg).1
        simp at this
        omega
  have gc0 : ∀ (i g c : Nat), (P.gc ++ [(P.wb t, 16)])[i]? = some (g, c) → (i < X.st.insts.length ∧ P.gc[i]? = some (g, c)) ∨ (i = X.st.insts.length ∧ g = P.wb t) := fun i g c hg => by
    rcases Nat.lt_or_ge i P.gc.length with hi | hi
    · rw [List.getElem?_append_left hi] at hg
      exact .inl ⟨by rw [← h.gcL]; exact hi, hg⟩
    · rw [List.getElem?_append_right hi] at hg
      rcases Nat.eq_zero_or_pos (i - P.gc.length) with h0 | h0
      · rw [h0] at hg
        simp at hg
        exact .inr ⟨by have := h.gcL; omega, hg.1.symm⟩
      · have := (List.getElem?_eq_some_iff.1 hg).1
        simp at this
        omega
  have ov : ∀ i, (X.st.txs i).over = true → (X'.st.txs i).over = true := fun i hi => by
    by_cases e : i = t
    · rw [e]; exact e5
    · rw [(e4 i e).1]; exact hi
  refine ⟨by rw [← h.la]; exact hL P.ga (by rw [h.la]; decide), ?_, ?_, fun i hi => (hL (P.rd i) (by rw [h.lr i hi]; omega)).trans (h.lr i hi), fun i hi => (hL (P.wb i) (by rw [h.lw i hi]; omega)).trans (h.lw i hi), fun i hi => (hL (P.vb i) (by rw [h.lv i hi]; omega)).trans (h.lv i hi),
    fun i g c hg => ?_, fun i g c hg => ?_, fun b hb => ?_, fun i j hi hj => ?_, fun i => (hfr i).trans (h.allF i),
    fun i k hi hk => by rw [e3 i k hi hk]; exact cell (P.rd i) _ _ (by rw [h.lr i hi]; omega) (h.rdC i k hi hk), fun i k hi => fr (P.rd i) _ (by rw [h.lr i hi]; omega) (h.rdF i k hi),
    fun i k hi hk => by rw [e2]; exact cell (P.wb i) _ _ (by rw [h.lw i hi]; omega) (h.wbC i k hi hk), fun i k hi => fr (P.wb i) _ (by rw [h.lw i hi]; omega) (h.wbF i k hi),
    fun i k hi hk => by rw [e2]; exact cell (P.vb i) _ _ (by rw [h.lv i hi]; omega) (h.vbC i k hi hk), fun i k hi => fr (P.vb i) _ (by rw [h.lv i hi]; omega) (h.vbF i k hi),
    ?_, ?_, ?_, ?_, fun i g c hg k hk => ?_, fun i g c hg k hk => ?_⟩
  · show (if gW = nb then 4 else if gW = gW then 2 else _) = 2
    rw [if_neg n1, if_pos rfl]
  · show (if gC = nb then 4 else if gC = gW then 2 else if gC = gC then 3 else _) = 3
    rw [if_neg n2, if_neg n3, if_pos rfl]
  · rcases gi0 i g c hg with ⟨_, h2⟩ | ⟨_, h2⟩
    · have := h.li i g c h2
      exact (hL g (by rw [this]; decide)).trans this
    · subst h2
      show (if g = g then 4 else _) = 4
      rw [if_pos rfl]
  · rcases gc0 i g c hg with ⟨_, h2⟩ | ⟨_, h2⟩
    · rw [hL g (by have := lc4 i g c h2; omega)]
      rcases h.lc i g c h2 with e | ⟨t', ht', e, ho⟩
      · exact .inl e
      · exact .inr ⟨t', ht', e, ov t' ho⟩
    · subst h2
      exact .inr ⟨t, ht, (hL _ (by rw [h.lw t ht]; omega)).trans (h.lw t ht), e5⟩
  · have hs := hC.size
    show (if b = nb then 4 else if b = gW then 2 else if b = gC then 3 else P.lab b) = 0
    have ltW : gW < w'.heap.size := by
      rcases hgW with e | e
      · have := h.lt (b := P.gW) (by rw [h.lW]; decide)
        omega
      · exact e.2
    have ltC : gC < w'.heap.size := by
      rcases hgC with e | e
      · have := h.lt (b := P.gC) (by rw [h.lC]; decide)
        omega
      · exact e.2
    rw [if_neg (by omega), if_neg (by omega), if_neg (by omega)]
    exact h.hi b (by omega)
  · show w'.cell? ⟨P.ga, i * 9 + j, none⟩ = some (stCell P X' i j)
    by_cases e : i = t
    · subst e; exact hcell j hj
    · rw [hother _ (by omega)]
      have hs : stCell P X' i j = stCell P X i j := by
        obtain ⟨q1, q2, q3⟩ := e4 i e
        unfold stCell
        rw [q1, q2, q3]
      rw [hs]
      exact h.all i j hi hj
  · rw [hlen]
    show w'.ownsRow 0 28 1 _ _ (rowOf (P.gi ++ [(nb, cb)]))
    unfold rowOf at hrW ⊢
    rw [List.map_append]
    exact hrW
  · rw [hlen]
    show w'.ownsRow 0 91 1 _ _ (rowOf (P.gc ++ [(P.wb t, 16)]))
    unfold rowOf at hrC ⊢
    rw [List.map_append]
    exact hrC
  · show (P.gi ++ [(nb, cb)]).length = _
    rw [hlen, ← h.giL]; simp
  · show (P.gc ++ [(P.wb t, 16)]).length = _
    rw [hlen, ← h.gcL]; simp
  · rcases gi0 i g c hg with ⟨h1, h2⟩ | ⟨h1, h2⟩
    · rw [ei i h1]
      exact cell _ _ _ (by rw [h.li i g c h2]; decide) (h.words i g c h2 k hk)
    · subst h1 h2
      rw [el]
      exact hw k hk
  · rcases gc0 i g c hg with ⟨h1, h2⟩ | ⟨h1, h2⟩
    · rw [ei i h1]
      exact cell _ _ _ (lc4 i g c h2) (h.chgd i g c h2 k hk)
    · subst h1 h2
      rw [el]
      exact cell _ _ _ (by rw [h.lw t ht]; omega) (h.wbC t k ht hk)
theorem RP.more_lab (P : RP) {t nb cb gW cW gC cC N : Nat} (hnb : N ≤ nb) (hgW : P.lab gW ≠ 0 ∨ N ≤ gW) (hgC : P.lab gC ≠ 0 ∨ N ≤ gC) (b : Nat) (h : (P.more t nb cb gW cW gC cC).lab b ≠ 0) : P.lab b ≠ 0 ∨ N ≤ b := by
  change (if b = nb then 4 else if b = gW then 2 else if b = gC then 3 else P.lab b) ≠ 0 at h
  by_cases e : b = nb
  · exact .inr (by omega)
  · rw [if_neg e] at h
    by_cases e2 : b = gW
    · rw [e2]; exact hgW
    · rw [if_neg e2] at h
      by_cases e3 : b = gC
      · rw [e3]; exact hgC
      · rw [if_neg e3] at h; exact .inl h
end
section
variable {w : World} {P : RP} {X : XS}
theorem commit_n (st : St) (t : Nat) (hw : (st.txs t).writes = wr16 st t) (hcl : (wr16 st t && Tx.clash st t) = false) : (Tx.commit st t).1.n = if wr16 st t then (st.insts.length : Int) else 0 := by
  unfold Tx.commit
  rw [hw]
  cases h : wr16 st t with
  | false => rfl
  | true =>
    rw [h] at hcl
    have : Tx.clash st t = false := by simpa using hcl
    simp [this]
theorem xcommit_no (X : XS) (t : Nat) (hw : (X.st.txs t).writes = wr16 X.st t) (hwr : wr16 X.st t = false) : xcommit X t = { st := { X.st.setTx t { X.st.txs t with over := true, comm := true } with readers := X.st.readers ++ [(t : Int)] }, made := X.made, turn := fun i => if i = t then X.commits else X.turn i, commits := X.commits + 1 } := by
  unfold xcommit Tx.commit
  rw [hwr] at hw
  simp only [hw, hwr, Bool.not_false, if_true]
  congr 1
  funext i
  rw [if_neg (fun h => by cases h.2)]
theorem xcommit_yes (X : XS) (t : Nat) (hw : (X.st.txs t).writes = wr16 X.st t) (hwr : wr16 X.st t = true) (hc : (wr16 X.st t && Tx.clash X.st t) = false) :
    xcommit X t = { st := { X.st.setTx t { X.st.txs t with over := true, comm := true } with insts := X.st.insts ++ [Tx.made X.st t] }, made := fun i => if i = t then X.st.insts.length else X.made i, turn := fun i => if i = t then X.commits else X.turn i, commits := X.commits + 1 } := by
  have hcl : Tx.clash X.st t = false := by rw [hwr] at hc; simpa using hc
  unfold xcommit Tx.commit
  rw [hwr] at hw
  simp only [hw, hwr, hcl, Bool.not_true, Bool.false_eq_true, if_false]
  congr 1
  funext i
  simp
theorem row_free {w : World} {B : Nat} {T : TypeId} {sz n c g : Nat} {xs : List Value} (h : w.ownsRow B T sz (.slice (some ⟨g, 0, none⟩) n c) n xs) (i : Nat) : w.frozen? ⟨g, i, none⟩ = false := by
  rcases h.2 with ⟨h1, _⟩ | ⟨g', cap, cur, h1, _, hg, _⟩
  · cases h1
  · simp only [Value.slice.injEq, Option.some.injEq, Addr.mk.injEq, and_true, true_and] at h1
    obtain ⟨rfl, rfl⟩ := h1
    simp [World.frozen?, hg]
theorem Try.info28z : (Try.prog.info? 28).map (fun i => (i.zero, i.size, i.bytes)) = some (some (.slice none 0 0), 1, 24) := by kernel_rfl
theorem Try.info91z : (Try.prog.info? 91).map (fun i => (i.zero, i.size, i.bytes)) = some (some (.slice none 0 0), 1, 24) := by kernel_rfl
set_option maxRecDepth 100000 in
set_option maxHeartbeats 4000000 in
theorem rcommit_any (hR : RRep w P X) (t : Nat) (ht : t < 16) (hm0 : X.made t = 0) (hne : 0 < X.st.insts.length) (hlen : X.st.insts.length ≤ 1000) (hcm : X.commits ≤ 1000) (hwc : (X.st.txs t).writes = wr16 X.st t) (hcl : (wr16 X.st t && Tx.clash X.st t) = false) :
    Calls Try.prog 59 #[runV P X, .int .i64 t] w fun e w' => ∃ P', e = .returned (.tuple #[.int .i64 (Tx.commit X.st t).1.n, runV P' (xcommit X t)]) ∧ RRep w' P' (xcommit X t) ∧ Chg (fun b => P.lab b ≠ 0) w w' ∧ ∀ b, P'.lab b ≠ 0 → P.lab b ≠ 0 ∨ w.heap.size ≤ b := by
  have ht1 : (t : Int) < 16 := by omega
  have ht0 : (0 : Int) ≤ (t : Int) := by omega
  have hcm2 : (X.commits : Int) ≤ 1000 := by omega
  have hlen2 : (X.st.insts.length : Int) ≤ 1000 := by omega
  have hne2 : (0 : Int) < (X.st.insts.length : Int) := by omega
  have HR := Lib.hid hR
  have HN := Lib.hid (commit_n X.st t hwc hcl)
  have HWC := Lib.hid hwc; have HCL := Lib.hid hcl; have HM0 := Lib.hid hm0
  clear hR hwc hcl hm0
  unfold runV
  go_enter Try.func59, Try.ntmps59
  go_upto_region 1 with fail
  have hRa := HR.out.new (((Chg.refl _ w).alloc (.cells #[.slice (some ⟨P.ga, 0, none⟩) 16 P.ca, .slice (some ⟨P.gW, 0, none⟩) X.st.insts.length P.cW, .slice (some ⟨P.gC, 0, none⟩) X.st.insts.length P.cC, .int .i64 X.commits] 79)).alloc (.cells #[.slice none 0 0, .slice none 0 0, .slice none 0 0, .int .i64 0] 79))
  have hNa : New w ((w.alloc (.cells #[.slice (some ⟨P.ga, 0, none⟩) 16 P.ca, .slice (some ⟨P.gW, 0, none⟩) X.st.insts.length P.cW, .slice (some ⟨P.gC, 0, none⟩) X.st.insts.length P.cC, .int .i64 X.commits] 79)).alloc (.cells #[.slice none 0 0, .slice none 0 0, .slice none 0 0, .int .i64 0] 79)) := ((Chg.refl _ w).alloc _).alloc _
  have hBR : Blk ((w.alloc (.cells #[.slice (some ⟨P.ga, 0, none⟩) 16 P.ca, .slice (some ⟨P.gW, 0, none⟩) X.st.insts.length P.cW, .slice (some ⟨P.gC, 0, none⟩) X.st.insts.length P.cC, .int .i64 X.commits] 79)).alloc (.cells #[.slice none 0 0, .slice none 0 0, .slice none 0 0, .int .i64 0] 79)) w.heap.size 79 4 (nth #[.slice (some ⟨P.ga, 0, none⟩) 16 P.ca, .slice (some ⟨P.gW, 0, none⟩) X.st.insts.length P.cW, .slice (some ⟨P.gC, 0, none⟩) X.st.insts.length P.cC, .int .i64 X.commits].toList) := (Blk.ofL w _ 79).alloc _
  have hBZ : Blk ((w.alloc (.cells #[.slice (some ⟨P.ga, 0, none⟩) 16 P.ca, .slice (some ⟨P.gW, 0, none⟩) X.st.insts.length P.cW, .slice (some ⟨P.gC, 0, none⟩) X.st.insts.length P.cC, .int .i64 X.commits] 79)).alloc (.cells #[.slice none 0 0, .slice none 0 0, .slice none 0 0, .int .i64 0] 79)) (w.heap.size + 1) 79 4 (nth [.slice none 0 0, .slice none 0 0, .slice none 0 0, .int .i64 0]) := by
    have := Blk.ofL (w.alloc (.cells #[.slice (some ⟨P.ga, 0, none⟩) 16 P.ca, .slice (some ⟨P.gW, 0, none⟩) X.st.insts.length P.cW, .slice (some ⟨P.gC, 0, none⟩) X.st.insts.length P.cC, .int .i64 X.commits] 79)) [.slice none 0 0, .slice none 0 0, .slice none 0 0, .int .i64 0] 79
    rwa [World.size_alloc] at this
  have hlr : P.lab w.heap.size = 0 := HR.out.hi _ (Nat.le_refl _)
  have hlz : P.lab (w.heap.size + 1) = 0 := HR.out.hi _ (by omega)
  have hnw : w.heap.size ≤ w.heap.size := Nat.le_refl _
  generalize (w.alloc _).alloc _ = w1 at *
  generalize hnr : w.heap.size = nr at *
  have r0 : w1.cell? ⟨nr, 0, none⟩ = some (.slice (some ⟨P.ga, 0, none⟩) 16 P.ca) := hBR.cell (by decide)
  obtain ⟨a0, a1, a2, a3, a4, a5, a6, a7, a8⟩ := hRa.st9 ht
  have HRb := Lib.hid (hRa.new ((Chg.refl _ w1).alloc (.cells #[.bool (X.st.txs t).begun, .bool (X.st.txs t).over, .bool (X.st.txs t).comm, .int .i64 (X.st.txs t).inst, .slice (some ⟨P.rd t, 0, none⟩) 16 16, .slice (some ⟨P.wb t, 0, none⟩) 16 16, .slice (some ⟨P.vb t, 0, none⟩) 16 16, .int .i64 (X.made t), .int .i64 (X.turn t)] 93)))
  have HBR := Lib.hid (hBR.alloc (.cells #[.bool (X.st.txs t).begun, .bool (X.st.txs t).over, .bool (X.st.txs t).comm, .int .i64 (X.st.txs t).inst, .slice (some ⟨P.rd t, 0, none⟩) 16 16, .slice (some ⟨P.wb t, 0, none⟩) 16 16, .slice (some ⟨P.vb t, 0, none⟩) 16 16, .int .i64 (X.made t), .int .i64 (X.turn t)] 93)); have HBZ := Lib.hid (hBZ.alloc (.cells #[.bool (X.st.txs t).begun, .bool (X.st.txs t).over, .bool (X.st.txs t).comm, .int .i64 (X.st.txs t).inst, .slice (some ⟨P.rd t, 0, none⟩) 16 16, .slice (some ⟨P.wb t, 0, none⟩) 16 16, .slice (some ⟨P.vb t, 0, none⟩) 16 16, .int .i64 (X.made t), .int .i64 (X.turn t)] 93))
  have HBL : Hid (Blk (w1.alloc (.cells #[.bool (X.st.txs t).begun, .bool (X.st.txs t).over, .bool (X.st.txs t).comm, .int .i64 (X.st.txs t).inst, .slice (some ⟨P.rd t, 0, none⟩) 16 16, .slice (some ⟨P.wb t, 0, none⟩) 16 16, .slice (some ⟨P.vb t, 0, none⟩) 16 16, .int .i64 (X.made t), .int .i64 (X.turn t)] 93)) w1.heap.size 93 9 (nth #[.bool (X.st.txs t).begun, .bool (X.st.txs t).over, .bool (X.st.txs t).comm, .int .i64 (X.st.txs t).inst, .slice (some ⟨P.rd t, 0, none⟩) 16 16, .slice (some ⟨P.wb t, 0, none⟩) 16 16, .slice (some ⟨P.vb t, 0, none⟩) 16 16, .int .i64 (X.made t), .int .i64 (X.turn t)].toList)) := Lib.hid (Blk.ofL w1 _ 93)
  have HNb := Lib.hid (hNa.alloc (.cells #[.bool (X.st.txs t).begun, .bool (X.st.txs t).over, .bool (X.st.txs t).comm, .int .i64 (X.st.txs t).inst, .slice (some ⟨P.rd t, 0, none⟩) 16 16, .slice (some ⟨P.wb t, 0, none⟩) 16 16, .slice (some ⟨P.vb t, 0, none⟩) 16 16, .int .i64 (X.made t), .int .i64 (X.turn t)] 93))
  have hll : P.lab w1.heap.size = 0 := hRa.hi _ (Nat.le_refl _)
  have hnl1 : nr + 1 < w1.heap.size := hBZ.lt
  clear hRa hBR hBZ hNa
  go_upto_region 2 with fail
  clear r0 a0 a1 a2 a3 a4 a5 a6 a7 a8
  generalize w1.alloc _ = w2 at *
  generalize w1.heap.size = nl at *
  have r3 : w2.cell? ⟨nr, 3, none⟩ = some (.int .i64 X.commits) := HBR.out.cell (by decide)
  have l1 : w2.cell? ⟨nl, 1, none⟩ = some (.bool (X.st.txs t).over) := HBL.out.cell (by decide)
  have l2 : w2.cell? ⟨nl, 2, none⟩ = some (.bool (X.st.txs t).comm) := HBL.out.cell (by decide)
  have l8 : w2.cell? ⟨nl, 8, none⟩ = some (.int .i64 (X.turn t)) := HBL.out.cell (by decide)
  have f1 : w2.frozen? ⟨nl, 1, none⟩ = false := HBL.out.free _
  have f2 : w2.frozen? ⟨nl, 2, none⟩ = false := HBL.out.free _
  have f8 : w2.frozen? ⟨nl, 8, none⟩ = false := HBL.out.free _
  have n21 : nl ≠ nr := by omega
  apply wp_once
  case h1 =>
    go_region_law (fail)
    all_goals exact ⟨rfl, rfl⟩
  have HBL3 := Lib.hid ((((HBL.out.setL 1 (.bool true) (by simp)).setL 2 (.bool true) (by simp)).setL 8 (.int .i64 X.commits) (by simp)).drew)
  have HC3 : Hid (Chg (fun b => b = nl) w2 (((w2.setCell ⟨nl, 1, none⟩ (.bool true)).setCell ⟨nl, 2, none⟩ (.bool true)).setCell ⟨nl, 8, none⟩ (.int .i64 X.commits)).drew) :=
    Lib.hid (((((Chg.refl (fun b => b = nl) w2).setCell (fun _ => rfl) _).setCell (fun _ => rfl) _).setCell (fun _ => rfl) _).drew)
  clear r3 l1 l2 l8 f1 f2 f8
  generalize World.drew _ = w3 at *
  have HBR3 := Lib.hid (HBR.out.chg HC3.out (by omega)); have HBZ3 := Lib.hid (HBZ.out.chg HC3.out (by omega))
  have HR3 := Lib.hid (HRb.out.kept HC3.out (fun b hb e => hb (by rw [e]; exact hll)))
  have HN3 : Hid (New w w3) := Lib.hid (HNb.out.then HC3.out (fun i hi e => by omega))
  clear HC3 HBL HBR HBZ HRb HNb
  have r3 : w3.cell? ⟨nr, 3, none⟩ = some (.int .i64 X.commits) := HBR3.out.cell (by decide)
  have f3 : w3.frozen? ⟨nr, 3, none⟩ = false := HBR3.out.free _
  go_upto_region 4 with fail
  have HBL4 : Hid (Blk (w3.setCell ⟨nr, 3, none⟩ (.int .i64 (X.commits + 1))) nl 93 9 (nth [.bool (X.st.txs t).begun, .bool true, .bool true, .int .i64 (X.st.txs t).inst, .slice (some ⟨P.rd t, 0, none⟩) 16 16, .slice (some ⟨P.wb t, 0, none⟩) 16 16, .slice (some ⟨P.vb t, 0, none⟩) 16 16, .int .i64 (X.made t), .int .i64 X.commits])) := Lib.hid (HBL3.out.set_other (by intro e; exact n21 e) _)
  have HBZ4 := Lib.hid (HBZ3.out.set_other (a := ⟨nr, 3, none⟩) (by intro e; simp at e) (.int .i64 (X.commits + 1)))
  have HBR4 : Hid (Blk (w3.setCell ⟨nr, 3, none⟩ (.int .i64 (X.commits + 1))) nr 79 4 (nth [.slice (some ⟨P.ga, 0, none⟩) 16 P.ca, .slice (some ⟨P.gW, 0, none⟩) X.st.insts.length P.cW, .slice (some ⟨P.gC, 0, none⟩) X.st.insts.length P.cC, .int .i64 (X.commits + 1)])) := Lib.hid (HBR3.out.setL 3 _ (by simp))
  have HC4 : Hid (Chg (fun b => b = nr) w3 (w3.setCell ⟨nr, 3, none⟩ (.int .i64 (X.commits + 1)))) := Lib.hid ((Chg.refl (fun b => b = nr) w3).setCell (fun _ => rfl) _)
  clear r3 f3
  generalize w3.setCell _ _ = w4 at *
  have HR4 := Lib.hid (HR3.out.kept HC4.out (fun b hb e => hb (by rw [e]; exact hlr)))
  have HN4 : Hid (New w w4) := Lib.hid (HN3.out.then HC4.out (fun i hi e => by omega))
  clear HC4 HBL3 HBR3 HBZ3 HR3 HN3
  obtain ⟨B, hB⟩ : ∃ B, wr16 X.st t = B := ⟨_, rfl⟩
  have HW : Hid (Calls Try.prog 73 #[.agg #[.bool (X.st.txs t).begun, .bool true, .bool true, .int .i64 (X.st.txs t).inst, .slice (some ⟨P.rd t, 0, none⟩) 16 16, .slice (some ⟨P.wb t, 0, none⟩) 16 16, .slice (some ⟨P.vb t, 0, none⟩) 16 16, .int .i64 (X.made t), .int .i64 X.commits]] w4 fun e w' => e = .returned (.bool B) ∧ New w4 w') := by
    rw [← hB]
    exact writes_any (w := w4) (X.st.txs t).begun true true (X.st.txs t).inst (X.made t) X.commits (.slice (some ⟨P.rd t, 0, none⟩) 16 16) (.slice (some ⟨P.vb t, 0, none⟩) 16 16) (P.wb t) 16 (fun k => (mget ((t : Int), (k : Int)) X.st.wr).isSome)
      (fun k hk => HR4.out.wbC t k ht hk) rfl rfl
  have HB := Lib.hid hB
  clear hB
  have l0 : w4.cell? ⟨nl, 0, none⟩ = some (.bool (X.st.txs t).begun) := HBL4.out.cell (by decide)
  have l1 : w4.cell? ⟨nl, 1, none⟩ = some (.bool true) := HBL4.out.cell (by decide)
  have l2 : w4.cell? ⟨nl, 2, none⟩ = some (.bool true) := HBL4.out.cell (by decide)
  have l3 : w4.cell? ⟨nl, 3, none⟩ = some (.int .i64 (X.st.txs t).inst) := HBL4.out.cell (by decide)
  have l4 : w4.cell? ⟨nl, 4, none⟩ = some (.slice (some ⟨P.rd t, 0, none⟩) 16 16) := HBL4.out.cell (by decide)
  have l5 : w4.cell? ⟨nl, 5, none⟩ = some (.slice (some ⟨P.wb t, 0, none⟩) 16 16) := HBL4.out.cell (by decide)
  have l6 : w4.cell? ⟨nl, 6, none⟩ = some (.slice (some ⟨P.vb t, 0, none⟩) 16 16) := HBL4.out.cell (by decide)
  have l7 : w4.cell? ⟨nl, 7, none⟩ = some (.int .i64 (X.made t)) := HBL4.out.cell (by decide)
  have l8 : w4.cell? ⟨nl, 8, none⟩ = some (.int .i64 X.commits) := HBL4.out.cell (by decide)
  cases B with
  | false =>
    go_upto_region 14 with ((with_reducible refine HW.out.mono ?_); rintro e w5 ⟨rfl, hN5⟩; have HN5 := Lib.hid hN5; clear hN5)
    clear l0 l1 l2 l3 l4 l5 l6 l7 l8
    have HBL5 := Lib.hid (HBL4.out.chg HN5.out (fun h => h)); have HBR5 := Lib.hid (HBR4.out.chg HN5.out (fun h => h)); have HBZ5 := Lib.hid (HBZ4.out.chg HN5.out (fun h => h))
    have HR5 := Lib.hid (HR4.out.new HN5.out)
    have HNw := Lib.hid (HN4.out.trans HN5.out)
    have hlga : P.lab P.ga = 1 := HR5.out.la
    have l0 : w5.cell? ⟨nl, 0, none⟩ = some (.bool (X.st.txs t).begun) := HBL5.out.cell (by decide)
    have l1 : w5.cell? ⟨nl, 1, none⟩ = some (.bool true) := HBL5.out.cell (by decide)
    have l2 : w5.cell? ⟨nl, 2, none⟩ = some (.bool true) := HBL5.out.cell (by decide)
    have l3 : w5.cell? ⟨nl, 3, none⟩ = some (.int .i64 (X.st.txs t).inst) := HBL5.out.cell (by decide)
    have l4 : w5.cell? ⟨nl, 4, none⟩ = some (.slice (some ⟨P.rd t, 0, none⟩) 16 16) := HBL5.out.cell (by decide)
    have l5 : w5.cell? ⟨nl, 5, none⟩ = some (.slice (some ⟨P.wb t, 0, none⟩) 16 16) := HBL5.out.cell (by decide)
    have l6 : w5.cell? ⟨nl, 6, none⟩ = some (.slice (some ⟨P.vb t, 0, none⟩) 16 16) := HBL5.out.cell (by decide)
    have l7 : w5.cell? ⟨nl, 7, none⟩ = some (.int .i64 (X.made t)) := HBL5.out.cell (by decide)
    have l8 : w5.cell? ⟨nl, 8, none⟩ = some (.int .i64 X.commits) := HBL5.out.cell (by decide)
    have r0 : w5.cell? ⟨nr, 0, none⟩ = some (.slice (some ⟨P.ga, 0, none⟩) 16 P.ca) := HBR5.out.cell (by decide)
    go_upto_region 15 with (refine wpList_storeN 93 9 Try.info93s _ rfl _ _ rfl P.ga (t * 9) _ rfl rfl rfl (by simp [Value.oneCell']) (fun j hj => by rw [HR5.out.all t j ht hj]; rfl) HR5.out.allF ?_; intro w6 hC6 hin6 hout6 hfr6; have HC6 := Lib.hid hC6; have HI6 := Lib.hid hin6; have HO6 := Lib.hid hout6; have HF6 := Lib.hid hfr6; clear hC6 hin6 hout6 hfr6)
    have HR6 : Hid (RRep w6 P (xcommit X t)) := by
      rw [xcommit_no X t HWC.out HB.out]
      exact Lib.hid (HR5.out.setTxn (x := { X.st.txs t with over := true, comm := true }) (m := X.made t) (n := X.commits) ht HC6.out (nine (HI6.out 0 _ rfl) (HI6.out 1 _ rfl) (HI6.out 2 _ rfl) (HI6.out 3 _ rfl) (HI6.out 4 _ rfl) (HI6.out 5 _ rfl) (HI6.out 6 _ rfl) (HI6.out 7 _ rfl) (HI6.out 8 _ rfl)) HO6.out HF6.out rfl rfl (fun _ => rfl) rfl
        (if_pos rfl) (fun i hi => ⟨rfl, if_neg hi⟩) rfl (fun _ => rfl))
    have n1 : nr ≠ P.ga := fun e => by rw [← e, hlr] at hlga; omega
    have n2 : nl ≠ P.ga := fun e => by rw [← e, hll] at hlga; omega
    have n3 : nr + 1 ≠ P.ga := fun e => by rw [← e, hlz] at hlga; omega
    have HBL6 := Lib.hid (HBL5.out.chg HC6.out n2); have HBR6 := Lib.hid (HBR5.out.chg HC6.out n1); have HBZ6 := Lib.hid (HBZ5.out.chg HC6.out n3)
    clear l0 l1 l2 l3 l4 l5 l6 l7 l8 r0
    have l7 : w6.cell? ⟨nl, 7, none⟩ = some (.int .i64 (X.made t)) := HBL6.out.cell (by decide)
    have r0 : w6.cell? ⟨nr, 0, none⟩ = some (.slice (some ⟨P.ga, 0, none⟩) 16 P.ca) := HBR6.out.cell (by decide)
    have r1 : w6.cell? ⟨nr, 1, none⟩ = some (.slice (some ⟨P.gW, 0, none⟩) X.st.insts.length P.cW) := HBR6.out.cell (by decide)
    have r2 : w6.cell? ⟨nr, 2, none⟩ = some (.slice (some ⟨P.gC, 0, none⟩) X.st.insts.length P.cC) := HBR6.out.cell (by decide)
    have r3 : w6.cell? ⟨nr, 3, none⟩ = some (.int .i64 (X.commits + 1)) := HBR6.out.cell (by decide)
    go_still_tail 4, (by kernel_rfl)
    change wpList _ _ _ _ _ w6.drew
    refine wpList_storeN 79 4 Try.info79s _ rfl _ _ rfl (nr + 1) 0 _ rfl rfl rfl (by simp [Value.oneCell']) (fun j hj => by rw [show w6.drew.cell? ⟨nr + 1, 0 + j, none⟩ = _ from HBZ6.out.drew.cell (by omega)]; rfl) (fun i => HBZ6.out.drew.free i) ?_
    intro w7 hC7 hin7 _ _
    have HC7 := Lib.hid hC7; have HI7 := Lib.hid hin7
    clear hC7 hin7
    go_wp2_with fail
    refine bodyPost_ret (results79 rfl rfl (HI7.out 0 _ rfl) (HI7.out 1 _ rfl) (HI7.out 2 _ rfl) (HI7.out 3 _ rfl)) rfl ?_
    refine ⟨P, ?_, ?_, ?_, fun b hb => .inl hb⟩
    · have e1 : (xcommit X t).st.insts = X.st.insts := by rw [xcommit_no X t HWC.out HB.out]; rfl
      rw [HN.out, HB.out, HM0.out, e1]
      rfl
    · exact HR6.out.kept ((Chg.refl (fun b => b = nr + 1) w6).drew.trans HC7.out) (fun b hb e => hb (by rw [e]; exact hlz))
    · exact ((HNw.out.mono (fun _ _ h => absurd h id)).then HC6.out (fun i _ e => by rw [e, hlga]; decide)).then ((Chg.refl (fun b => b = nr + 1) w6).drew.trans HC7.out) (fun i hi e => by omega)
  | true =>
    have hix : (X.st.insts.length : Int) - 1 = (last X.st : Int) := by unfold last; omega
    have hix0 : (0 : Int) ≤ (last X.st : Int) := by omega
    have hix1 : (last X.st : Int) < (X.st.insts.length : Int) := by omega
    have hll0 : last X.st < X.st.insts.length := by omega
    obtain ⟨⟨gg, gcp⟩, hg⟩ : ∃ q, P.gi[last X.st]? = some q := ⟨_, List.getElem?_eq_getElem (by rw [HR.out.giL]; exact hll0)⟩
    have HG := Lib.hid hg
    clear hg
    obtain ⟨i3, hi3, hz30, hz31, hz32⟩ := info_parts Try.info3
    have HI3 := Lib.hid hi3; have HZ30 := Lib.hid hz30; have HZ31 := Lib.hid hz31; have HZ32 := Lib.hid hz32
    clear hi3 hz30 hz31 hz32
    go_upto_region 5 with ((with_reducible refine HW.out.mono ?_); rintro e w5 ⟨rfl, hN5⟩; have HN5 := Lib.hid hN5; clear hN5)
    clear l0 l1 l2 l3 l4 l5 l6 l7 l8
    have HBL5 := Lib.hid (HBL4.out.chg HN5.out (fun h => h)); have HBR5 := Lib.hid (HBR4.out.chg HN5.out (fun h => h)); have HBZ5 := Lib.hid (HBZ4.out.chg HN5.out (fun h => h))
    have HR5 := Lib.hid (HR4.out.new HN5.out)
    have HNw := Lib.hid (HN4.out.trans HN5.out)
    clear HBL4 HBR4 HBZ4 HR4 HN4 HN5 HW
    have hlw5 : P.lab w5.heap.size = 0 := HR5.out.hi _ (Nat.le_refl _)
    have r1 : (w5.alloc (.cells #[] 3)).cell? ⟨nr, 1, none⟩ = some (.slice (some ⟨P.gW, 0, none⟩) X.st.insts.length P.cW) := (HBR5.out.alloc _).cell (by decide)
    have T0 : (w5.alloc (.cells #[] 3)).cell? ⟨P.gW, last X.st, none⟩ = some (.slice (some ⟨gg, 0, none⟩) 16 gcp) := (HR5.out.new ((Chg.refl _ w5).alloc (.cells #[] 3))).rowWc HG.out
    have HO0 : Hid ((w5.alloc (.cells #[] 3)).ownsRow 0 3 1 (.slice (some ⟨w5.heap.size, 0, none⟩) 0 0) 0 []) := Lib.hid (World.ownsRow_made w5 #[] 0 (Nat.zero_le _) (by decide) rfl)
    have HNW : Hid (∀ j u, (wordsL (X.st.inst (last X.st)))[j]? = some u → (w5.alloc (.cells #[] 3)).cell? ((⟨gg, 0, none⟩ : Addr).add j) = some u) := Lib.hid (fun j u hu => by
      have ha0 : (⟨gg, 0, none⟩ : Addr).add j = ⟨gg, j, none⟩ := by
        cases j with
        | zero => rfl
        | succ k => simp [Addr.add]
      have hj : j < 16 := by have := (List.getElem?_eq_some_iff.1 hu).1; rwa [length_wordsL] at this
      rw [ha0, (HR5.out.new ((Chg.refl _ w5).alloc (.cells #[] 3))).words _ _ _ HG.out j hj, ← hu]
      simp [wordsL, hj])
    have HOC : Hid (∀ u ∈ wordsL (X.st.inst (last X.st)), u.oneCell' = true) := Lib.hid (fun u hu => by
      simp only [wordsL, List.mem_map] at hu
      obtain ⟨_, _, rfl⟩ := hu
      rfl)
    go_upto_region 6 with (refine wpList_append_lies _ rfl _ _ 28 rfl 0 3 i3 (.int .i64 0) 1 8 Try.underlying28 HI3.out HZ30.out HZ31.out HZ32.out rfl (by decide) (.slice (some ⟨w5.heap.size, 0, none⟩) 0 0) 0 [] rfl HO0.out ⟨gg, 0, none⟩ 16 gcp (wordsL (X.st.inst (last X.st))) rfl rfl HNW.out HOC.out (by decide) (by decide) (by decide) (Nat.zero_le _) _ rfl ?_; intro g6 cap6 w6 hown6 hg6 hgb6 hlt6)
    clear r1 T0
    have HN56 : Hid (New w5 w6) := Lib.hid (((Chg.refl _ w5).alloc (.cells #[] 3)).grown hg6 (fun k hk hlt => by simp [Value.ownBlock] at hk; omega))
    have hg6ge : w5.heap.size ≤ g6 := by
      rcases hgb6 with h | h
      · simp [Value.ownBlock] at h; omega
      · simp at h; omega
    have hlg6 : P.lab g6 = 0 := HR5.out.hi _ hg6ge
    have HBL6 := Lib.hid (HBL5.out.chg HN56.out (fun h => h)); have HBR6 := Lib.hid (HBR5.out.chg HN56.out (fun h => h)); have HBZ6 := Lib.hid (HBZ5.out.chg HN56.out (fun h => h))
    have HR6 := Lib.hid (HR5.out.new HN56.out)
    have HNw6 := Lib.hid (HNw.out.trans HN56.out)
    have hww5 : w.heap.size ≤ w5.heap.size := HNw.out.size
    have hl5 : nl < w5.heap.size := HBL5.out.lt
    have W6 : Hid (∀ k, k < 16 → w6.cell? ⟨g6, k, none⟩ = some (.int .i64 ((X.st.inst (last X.st)).words k))) := Lib.hid (fun k hk => by
      rw [World.ownsRow.cellAt (h := hown6) k (by omega)]
      simp [wordsL, hk])
    have F6 : Hid (∀ k, w6.frozen? ⟨g6, k, none⟩ = false) := Lib.hid (row_free hown6)
    clear hown6 hg6 hgb6 HBL5 HBR5 HBZ5 HO0 HNW HOC hix hix0 hix1
    go_wp2_with fail
    go_loopw [8] (fun v wr => ∃ k : Nat, k ≤ 16 ∧ v = .int .i64 k ∧ Chg (fun b => b = g6) w6 wr ∧ (∀ j, j < 16 → wr.cell? ⟨g6, j, none⟩ = some (.int .i64 (if j < k then (Tx.made X.st t).words j else (X.st.inst (last X.st)).words j))) ∧ ∀ j, wr.frozen? ⟨g6, j, none⟩ = false) (fun v _ => 16 - (intOf v).toNat)
    case atStart => exact ⟨0, by omega, rfl, Chg.refl _ _, fun j hj => by rw [if_neg (by omega)]; exact W6.out j hj, F6.out⟩
    case round =>
      obtain ⟨k, hk, rfl, hC, hcl, hfr⟩ := hrel
      have HC := Lib.hid hC; have HCL2 := Lib.hid hcl; have HFR := Lib.hid hfr
      have HRr := Lib.hid (HR6.out.kept hC (fun b hb e => hb (by rw [e]; exact hlg6)))
      have nlg : nl ≠ g6 := by omega
      have nrg : nr ≠ g6 := by omega
      have nzg : nr + 1 ≠ g6 := by omega
      have HBLr := Lib.hid (HBL6.out.chg hC nlg)
      clear hC hcl hfr
      by_cases hk16 : k < 16
      · have l5 : wr.cell? ⟨nl, 5, none⟩ = some (.slice (some ⟨P.wb t, 0, none⟩) 16 16) := HBLr.out.cell (by decide)
        have l6 : wr.cell? ⟨nl, 6, none⟩ = some (.slice (some ⟨P.vb t, 0, none⟩) 16 16) := HBLr.out.cell (by decide)
        have x0 := HRr.out.wbC t k ht hk16
        have v0 := HRr.out.vbC t k ht hk16
        have c0 := HCL2.out k hk16
        rw [if_neg (Nat.lt_irrefl _)] at c0
        have f0 := HFR.out k
        have b3 : (0 : Int) ≤ (k : Int) := by omega
        have b4 : (k : Int) < 16 := by omega
        have hmw : (Tx.made X.st t).words k = (mget ((t : Int), (k : Int)) X.st.wr).getD ((X.st.inst (last X.st)).words k) := rfl
        cases hm : mget ((t : Int), (k : Int)) X.st.wr with
        | some u =>
          rw [hm] at x0 v0 hmw
          simp only [Option.isSome_some, Option.getD_some] at x0 v0 hmw
          have HMW := Lib.hid hmw
          clear hmw hm
          go_wp2_with fail
          refine ⟨⟨k + 1, by omega, by go_num, HC.out.setCell (fun _ => rfl) _, fun j hj => ?_, fun j => by rw [World.frozen?_setCell]; exact HFR.out j⟩, by simp [intOf]; omega⟩
          by_cases e : j = k
          · subst e
            rw [World.cell?_setCell_same _ _ _ c0, if_pos (by omega), HMW.out]
          · rw [World.cell?_setCell_other _ _ _ _ (fun e' => by have := congrArg Addr.off e'; simp at this; omega), HCL2.out j hj]
            by_cases h1 : j < k
            · rw [if_pos h1, if_pos (by omega)]
            · rw [if_neg h1, if_neg (by omega)]
        | none =>
          rw [hm] at x0 hmw
          simp only [Option.isSome_none, Option.getD_none] at x0 hmw
          have HMW := Lib.hid hmw
          clear hmw hm v0
          go_wp2_with fail
          refine ⟨⟨k + 1, by omega, by go_num, HC.out, fun j hj => ?_, HFR.out⟩, by simp [intOf]; omega⟩
          rw [HCL2.out j hj]
          by_cases h1 : j < k
          · rw [if_pos h1, if_pos (by omega)]
          · rw [if_neg h1]
            by_cases e : j = k
            · subst e; rw [if_pos (by omega), HMW.out]
            · rw [if_neg (by omega)]
      · obtain rfl : k = 16 := by omega
        have W16 : Hid (∀ j, j < 16 → wr.cell? ⟨g6, j, none⟩ = some (.int .i64 ((Tx.made X.st t).words j))) := Lib.hid (fun j hj => by
          have := HCL2.out j hj
          rwa [if_pos hj] at this)
        have HBRr := Lib.hid (HBR6.out.chg HC.out nrg); have HBZr := Lib.hid (HBZ6.out.chg HC.out nzg)
        have HNwr : Hid (New w wr) := Lib.hid (HNw6.out.then HC.out (fun i hi e => by omega))
        have hg6l : g6 < wr.heap.size := World.block_lt_of_cell? wr _ (W16.out 0 (by decide))
        clear HBL6 HBR6 HBZ6 HR6 HNw6 HCL2 HFR HC W6 F6 HN56
        have r1 : wr.cell? ⟨nr, 1, none⟩ = some (.slice (some ⟨P.gW, 0, none⟩) X.st.insts.length P.cW) := HBRr.out.cell (by decide)
        have l7 : wr.cell? ⟨nl, 7, none⟩ = some (.int .i64 (X.made t)) := HBLr.out.cell (by decide)
        have f7 : wr.frozen? ⟨nl, 7, none⟩ = false := HBLr.out.free _
        go_upto_region 12 with fail
        have HBL7 : Hid (Blk (wr.setCell ⟨nl, 7, none⟩ (.int .i64 X.st.insts.length)) nl 93 9 (nth [.bool (X.st.txs t).begun, .bool true, .bool true, .int .i64 (X.st.txs t).inst, .slice (some ⟨P.rd t, 0, none⟩) 16 16, .slice (some ⟨P.wb t, 0, none⟩) 16 16, .slice (some ⟨P.vb t, 0, none⟩) 16 16, .int .i64 X.st.insts.length, .int .i64 X.commits])) := Lib.hid (HBLr.out.setL 7 _ (by simp))
        have HC7 : Hid (Chg (fun b => b = nl) wr (wr.setCell ⟨nl, 7, none⟩ (.int .i64 X.st.insts.length))) := Lib.hid ((Chg.refl (fun b => b = nl) wr).setCell (fun _ => rfl) _)
        clear r1 l7 f7
        generalize wr.setCell _ _ = w7 at *
        have HBR7 := Lib.hid (HBRr.out.chg HC7.out (by omega)); have HBZ7 := Lib.hid (HBZr.out.chg HC7.out (by omega))
        have HR7 := Lib.hid (HRr.out.kept HC7.out (fun b hb e => hb (by rw [e]; exact hll)))
        have HN7 : Hid (New w w7) := Lib.hid (HNwr.out.then HC7.out (fun i hi e => by omega))
        have W7 : Hid (∀ j, j < 16 → w7.cell? ⟨g6, j, none⟩ = some (.int .i64 ((Tx.made X.st t).words j))) := Lib.hid (fun j hj => (HC7.out.cell (a := ⟨g6, j, none⟩) hg6l (fun e => nlg e.symm)).trans (W16.out j hj))
        have hg67 : g6 < w7.heap.size := Nat.lt_of_lt_of_le hg6l HC7.out.size
        have hnw7 : w.heap.size ≤ w7.heap.size := HN7.out.size
        have hn7 : nl < w7.heap.size := HBL7.out.lt
        have hlW := HR7.out.lW
        have hlC := HR7.out.lC
        have hlA := HR7.out.la
        have hWlt := HR7.out.lt (b := P.gW) (by rw [hlW]; decide)
        have hClt := HR7.out.lt (b := P.gC) (by rw [hlC]; decide)
        clear HC7 HBLr HBRr HBZr HRr HNwr W16 hg6l
        -- the words are put behind the row of the instants
        have hrow := HR7.out.rowW.alloc (.cells #[.slice (some ⟨g6, 0, none⟩) 16 cap6] 28)
        have hnews := news_alloc w7 #[.slice (some ⟨g6, 0, none⟩) 16 cap6] 28
        have hBRa := HBR7.out.alloc (.cells #[.slice (some ⟨g6, 0, none⟩) 16 cap6] 28)
        have hasz : (w7.alloc (.cells #[.slice (some ⟨g6, 0, none⟩) 16 cap6] 28)).heap.size = w7.heap.size + 1 := World.size_alloc _ _
        have hNa : New w7 (w7.alloc (.cells #[.slice (some ⟨g6, 0, none⟩) 16 cap6] 28)) := (Chg.refl _ w7).alloc _
        obtain ⟨i8, hi8, hz80, hz81, hz82⟩ := info_parts Try.info28z
        have r1 : w7.cell? ⟨nr, 1, none⟩ = some (.slice (some ⟨P.gW, 0, none⟩) X.st.insts.length P.cW) := HBR7.out.cell (by decide)
        have HI8 := Lib.hid hi8; have HZ80 := Lib.hid hz80; have HZ81 := Lib.hid hz81; have HZ82 := Lib.hid hz82
        have HROW := Lib.hid hrow; have HNEWS := Lib.hid hnews; have HASZ := Lib.hid hasz; have HNA := Lib.hid hNa; have HBRA := Lib.hid hBRa
        clear hi8 hz80 hz81 hz82 hrow hnews hasz hNa hBRa
        go_upto_region 13 with (refine wpList_append_lies _ rfl _ _ 76 rfl 0 28 i8 (.slice none 0 0) 1 24 Try.underlying76 HI8.out HZ80.out HZ81.out HZ82.out rfl (by decide) (.slice (some ⟨P.gW, 0, none⟩) X.st.insts.length P.cW) X.st.insts.length (rowOf P.gi) rfl HROW.out ⟨w7.heap.size, 0, none⟩ 1 1 [.slice (some ⟨g6, 0, none⟩) 16 cap6] rfl rfl HNEWS.out (by simp [Value.oneCell']) (by decide) (by unfold maxLen; omega) (by omega) (Nat.zero_le _) _ rfl ?_; intro gW cW w8 hown8 hg8 hgb8 hlt8; have HC8 := Lib.hid ((Chg.refl (fun b => b = P.gW) (w7.alloc (.cells #[.slice (some ⟨g6, 0, none⟩) 16 cap6] 28))).grown hg8 (fun k hk _ => by simp [Value.ownBlock] at hk; exact hk.symm)); have HBR8 := Lib.hid (HBRA.out.chg HC8.out (fun e => by rw [e, hlW] at hlr; cases hlr)); have r18 : w8.cell? ⟨nr, 1, none⟩ = some (.slice (some ⟨P.gW, 0, none⟩) X.st.insts.length P.cW) := HBR8.out.cell (by decide); have f18 : w8.frozen? ⟨nr, 1, none⟩ = false := HBR8.out.free _)
        have hgWc : gW = P.gW ∨ gW = w7.heap.size + 1 := by
          rcases hgb8 with h | h
          · simp [Value.ownBlock] at h; exact .inl h.symm
          · rw [HASZ.out] at h; exact .inr h
        have hnrgW : nr ≠ gW := fun e => by
          rcases hgWc with h | h
          · rw [← h, ← e, hlr] at hlW; cases hlW
          · omega
        have HROW9 : Hid ((w8.setCell ⟨nr, 1, none⟩ (.slice (some ⟨gW, 0, none⟩) (X.st.insts.length + 1) cW)).ownsRow 0 28 1 (.slice (some ⟨gW, 0, none⟩) (X.st.insts.length + 1) cW) (X.st.insts.length + 1) (rowOf P.gi ++ [.slice (some ⟨g6, 0, none⟩) 16 cap6])) :=
          Lib.hid (((Chg.refl (fun b => b = nr) w8).setCell (fun _ => rfl) _).ownsRow hown8 (fun k hk e => by simp [Value.ownBlock] at hk; exact hnrgW (by rw [hk]; exact e.symm)))
        have HBR9 : Hid (Blk (w8.setCell ⟨nr, 1, none⟩ (.slice (some ⟨gW, 0, none⟩) (X.st.insts.length + 1) cW)) nr 79 4 (nth [.slice (some ⟨P.ga, 0, none⟩) 16 P.ca, .slice (some ⟨gW, 0, none⟩) (X.st.insts.length + 1) cW, .slice (some ⟨P.gC, 0, none⟩) X.st.insts.length P.cC, .int .i64 (X.commits + 1)])) := Lib.hid (HBR8.out.setL 1 _ (by simp))
        have HC9 : Hid (Chg (fun b => b = P.gW ∨ b = nr) w7 (w8.setCell ⟨nr, 1, none⟩ (.slice (some ⟨gW, 0, none⟩) (X.st.insts.length + 1) cW))) :=
          Lib.hid (((HNA.out.mono (fun _ _ h => absurd h id)).then HC8.out (fun i _ e => .inl e)).setCell (fun _ => .inr rfl) _)
        have hgWl : gW < (w8.setCell ⟨nr, 1, none⟩ (.slice (some ⟨gW, 0, none⟩) (X.st.insts.length + 1) cW)).heap.size := by rw [show (w8.setCell ⟨nr, 1, none⟩ (.slice (some ⟨gW, 0, none⟩) (X.st.insts.length + 1) cW)).heap.size = w8.heap.size from by simp [World.setCell]]; exact hlt8
        clear r1 r18 f18 hown8 hg8 hgb8 hlt8 HC8 HBR8 HROW HNEWS HNA HBRA HI8 HZ80 HZ81 HZ82
        generalize w8.setCell _ _ = w9 at *
        have hs79 := HC9.out.size
        have HBL9 := Lib.hid (HBL7.out.chg HC9.out (fun e => e.elim (fun e => by rw [e, hlW] at hll; cases hll) (fun e => by omega)))
        have HBZ9 := Lib.hid (HBZ7.out.chg HC9.out (fun e => e.elim (fun e => by rw [e, hlW] at hlz; cases hlz) (fun e => by omega)))
        have W9 : Hid (∀ j, j < 16 → w9.cell? ⟨g6, j, none⟩ = some (.int .i64 ((Tx.made X.st t).words j))) := Lib.hid (fun j hj => (HC9.out.cell (a := ⟨g6, j, none⟩) hg67 (fun e => by
          rcases e with e | e
          · change g6 = P.gW at e; rw [e, hlW] at hlg6; cases hlg6
          · change g6 = nr at e; omega)).trans (W7.out j hj))
        have hnrC : nr ≠ P.gC := fun e => by rw [← e, hlr] at hlC; cases hlC
        have hnlC : nl ≠ P.gC := fun e => by rw [← e, hll] at hlC; cases hlC
        have hgWC : P.gW ≠ P.gC := fun e => by rw [e, hlC] at hlW; cases hlW
        have hgWC2 : gW ≠ P.gC := by
          rcases hgWc with h | h
          · rw [h]; exact hgWC
          · omega
        have hrow := (HC9.out.ownsRow HR7.out.rowC (fun k hk e => by
          simp [Value.ownBlock] at hk
          rcases e with e | e
          · exact hgWC (by rw [hk]; exact e.symm)
          · exact hnrC (by rw [hk]; exact e.symm))).alloc (.cells #[.slice (some ⟨P.wb t, 0, none⟩) 16 16] 91)
        have hnews := news_alloc w9 #[.slice (some ⟨P.wb t, 0, none⟩) 16 16] 91
        have hBRa := HBR9.out.alloc (.cells #[.slice (some ⟨P.wb t, 0, none⟩) 16 16] 91)
        have hasz9 : (w9.alloc (.cells #[.slice (some ⟨P.wb t, 0, none⟩) 16 16] 91)).heap.size = w9.heap.size + 1 := World.size_alloc _ _
        have hNa : New w9 (w9.alloc (.cells #[.slice (some ⟨P.wb t, 0, none⟩) 16 16] 91)) := (Chg.refl _ w9).alloc _
        have hrowW := HROW9.out.alloc (.cells #[.slice (some ⟨P.wb t, 0, none⟩) 16 16] 91)
        obtain ⟨i8, hi8, hz80, hz81, hz82⟩ := info_parts Try.info91z
        have r2 : w9.cell? ⟨nr, 2, none⟩ = some (.slice (some ⟨P.gC, 0, none⟩) X.st.insts.length P.cC) := HBR9.out.cell (by decide)
        have l5 : w9.cell? ⟨nl, 5, none⟩ = some (.slice (some ⟨P.wb t, 0, none⟩) 16 16) := HBL9.out.cell (by decide)
        have HI8 := Lib.hid hi8; have HZ80 := Lib.hid hz80; have HZ81 := Lib.hid hz81; have HZ82 := Lib.hid hz82
        have HROW := Lib.hid hrow; have HNEWS := Lib.hid hnews; have HASZ9 := Lib.hid hasz9; have HNA := Lib.hid hNa; have HBRA := Lib.hid hBRa; have HROWW := Lib.hid hrowW
        clear hi8 hz80 hz81 hz82 hrow hnews hasz9 hNa hBRa hrowW
        go_upto_region 14 with (refine wpList_append_lies _ rfl _ _ 77 rfl 0 91 i8 (.slice none 0 0) 1 24 Try.underlying77 HI8.out HZ80.out HZ81.out HZ82.out rfl (by decide) (.slice (some ⟨P.gC, 0, none⟩) X.st.insts.length P.cC) X.st.insts.length (rowOf P.gc) rfl HROW.out ⟨w9.heap.size, 0, none⟩ 1 1 [.slice (some ⟨P.wb t, 0, none⟩) 16 16] rfl rfl HNEWS.out (by simp [Value.oneCell']) (by decide) (by unfold maxLen; omega) (by omega) (Nat.zero_le _) _ rfl ?_; intro gC cC w10 hown10 hg10 hgb10 hlt10; have HC10 := Lib.hid ((Chg.refl (fun b => b = P.gC) (w9.alloc (.cells #[.slice (some ⟨P.wb t, 0, none⟩) 16 16] 91))).grown hg10 (fun k hk _ => by simp [Value.ownBlock] at hk; exact hk.symm)); have HBR10 := Lib.hid (HBRA.out.chg HC10.out hnrC); have r210 : w10.cell? ⟨nr, 2, none⟩ = some (.slice (some ⟨P.gC, 0, none⟩) X.st.insts.length P.cC) := HBR10.out.cell (by decide); have f210 : w10.frozen? ⟨nr, 2, none⟩ = false := HBR10.out.free _)
        have hgCc : gC = P.gC ∨ gC = w9.heap.size + 1 := by
          rcases hgb10 with h | h
          · simp [Value.ownBlock] at h; exact .inl h.symm
          · rw [HASZ9.out] at h; exact .inr h
        have hnrgC : nr ≠ gC := fun e => by
          rcases hgCc with h | h
          · exact hnrC (e.trans h)
          · omega
        have HROWC11 : Hid ((w10.setCell ⟨nr, 2, none⟩ (.slice (some ⟨gC, 0, none⟩) (X.st.insts.length + 1) cC)).ownsRow 0 91 1 (.slice (some ⟨gC, 0, none⟩) (X.st.insts.length + 1) cC) (X.st.insts.length + 1) (rowOf P.gc ++ [.slice (some ⟨P.wb t, 0, none⟩) 16 16])) :=
          Lib.hid (((Chg.refl (fun b => b = nr) w10).setCell (fun _ => rfl) _).ownsRow hown10 (fun k hk e => by simp [Value.ownBlock] at hk; exact hnrgC (by rw [hk]; exact e.symm)))
        have HROWW11 : Hid ((w10.setCell ⟨nr, 2, none⟩ (.slice (some ⟨gC, 0, none⟩) (X.st.insts.length + 1) cC)).ownsRow 0 28 1 (.slice (some ⟨gW, 0, none⟩) (X.st.insts.length + 1) cW) (X.st.insts.length + 1) (rowOf P.gi ++ [.slice (some ⟨g6, 0, none⟩) 16 cap6])) :=
          Lib.hid (((Chg.refl (fun b => b = nr) w10).setCell (fun _ => rfl) _).ownsRow (HC10.out.ownsRow HROWW.out (fun k hk e => by simp [Value.ownBlock] at hk; exact hgWC2 (by rw [hk]; exact e))) (fun k hk e => by simp [Value.ownBlock] at hk; exact hnrgW (by rw [hk]; exact e.symm)))
        have HBR11 : Hid (Blk (w10.setCell ⟨nr, 2, none⟩ (.slice (some ⟨gC, 0, none⟩) (X.st.insts.length + 1) cC)) nr 79 4 (nth [.slice (some ⟨P.ga, 0, none⟩) 16 P.ca, .slice (some ⟨gW, 0, none⟩) (X.st.insts.length + 1) cW, .slice (some ⟨gC, 0, none⟩) (X.st.insts.length + 1) cC, .int .i64 (X.commits + 1)])) := Lib.hid (HBR10.out.setL 2 _ (by simp))
        have HC11 : Hid (Chg (fun b => b = P.gC ∨ b = nr) w9 (w10.setCell ⟨nr, 2, none⟩ (.slice (some ⟨gC, 0, none⟩) (X.st.insts.length + 1) cC))) :=
          Lib.hid (((HNA.out.mono (fun _ _ h => absurd h id)).then HC10.out (fun i _ e => .inl e)).setCell (fun _ => .inr rfl) _)
        have hgCl : gC < (w10.setCell ⟨nr, 2, none⟩ (.slice (some ⟨gC, 0, none⟩) (X.st.insts.length + 1) cC)).heap.size := by rw [show (w10.setCell ⟨nr, 2, none⟩ (.slice (some ⟨gC, 0, none⟩) (X.st.insts.length + 1) cC)).heap.size = w10.heap.size from by simp [World.setCell]]; exact hlt10
        clear r2 l5 r210 f210 hown10 hg10 hgb10 hlt10 HC10 HBR10 HROW HNEWS HNA HBRA HI8 HZ80 HZ81 HZ82 HROWW
        generalize w10.setCell _ _ = w11 at *
        have hs911 := HC11.out.size
        have HBL11 := Lib.hid (HBL9.out.chg HC11.out (fun e => e.elim hnlC (fun e => by omega)))
        have HBZ11 := Lib.hid (HBZ9.out.chg HC11.out (fun e => e.elim (fun e => by rw [e, hlC] at hlz; cases hlz) (fun e => by omega)))
        have W11 : Hid (∀ j, j < 16 → w11.cell? ⟨g6, j, none⟩ = some (.int .i64 ((Tx.made X.st t).words j))) := Lib.hid (fun j hj => (HC11.out.cell (a := ⟨g6, j, none⟩) (by show g6 < _; omega) (fun e => by
          rcases e with e | e
          · change g6 = P.gC at e; rw [e, hlC] at hlg6; cases hlg6
          · change g6 = nr at e; omega)).trans (W9.out j hj))
        have hAW : P.ga ≠ P.gW := fun e => by rw [e, hlW] at hlA; cases hlA
        have hAC : P.ga ≠ P.gC := fun e => by rw [e, hlC] at hlA; cases hlA
        have hAr : P.ga ≠ nr := fun e => by rw [e, hlr] at hlA; cases hlA
        have hAl : nl ≠ P.ga := fun e => by rw [← e, hll] at hlA; cases hlA
        have hAz : nr + 1 ≠ P.ga := fun e => by rw [← e, hlz] at hlA; cases hlA
        have hA6 : g6 ≠ P.ga := fun e => by rw [← e, hlg6] at hlA; cases hlA
        have hAgW : gW ≠ P.ga := fun e => by
          rcases hgWc with h | h
          · exact hAW (e.symm.trans h)
          · have := HR7.out.lt (b := P.ga) (by rw [hlA]; decide)
            omega
        have hAgC : gC ≠ P.ga := fun e => by
          rcases hgCc with h | h
          · exact hAC (e.symm.trans h)
          · have := HR7.out.lt (b := P.ga) (by rw [hlA]; decide)
            omega
        have HCw : Hid (Chg (fun b => b = P.gW ∨ b = P.gC) w w11) := Lib.hid (((HN7.out.mono (fun _ _ h => absurd h id)).then HC9.out (fun i hi e => e.elim .inl (fun e => by omega))).then HC11.out (fun i hi e => e.elim .inr (fun e => by omega)))
        have hgal : P.ga < w.heap.size := HR.out.lt (b := P.ga) (by rw [hlA]; decide)
        have GA : Hid (∀ i, w11.cell? ⟨P.ga, i, none⟩ = w.cell? ⟨P.ga, i, none⟩) := Lib.hid (fun i => HCw.out.cell (a := ⟨P.ga, i, none⟩) hgal (fun e => e.elim hAW hAC))
        have GF : Hid (∀ i, w11.frozen? ⟨P.ga, i, none⟩ = w.frozen? ⟨P.ga, i, none⟩) := Lib.hid (fun i => HCw.out.frozen (a := ⟨P.ga, i, none⟩) hgal (fun e => e.elim hAW hAC))
        have r0 : w11.cell? ⟨nr, 0, none⟩ = some (.slice (some ⟨P.ga, 0, none⟩) 16 P.ca) := HBR11.out.cell (by decide)
        have l0 : w11.cell? ⟨nl, 0, none⟩ = some (.bool (X.st.txs t).begun) := HBL11.out.cell (by decide)
        have l1 : w11.cell? ⟨nl, 1, none⟩ = some (.bool true) := HBL11.out.cell (by decide)
        have l2 : w11.cell? ⟨nl, 2, none⟩ = some (.bool true) := HBL11.out.cell (by decide)
        have l3 : w11.cell? ⟨nl, 3, none⟩ = some (.int .i64 (X.st.txs t).inst) := HBL11.out.cell (by decide)
        have l4 : w11.cell? ⟨nl, 4, none⟩ = some (.slice (some ⟨P.rd t, 0, none⟩) 16 16) := HBL11.out.cell (by decide)
        have l5 : w11.cell? ⟨nl, 5, none⟩ = some (.slice (some ⟨P.wb t, 0, none⟩) 16 16) := HBL11.out.cell (by decide)
        have l6 : w11.cell? ⟨nl, 6, none⟩ = some (.slice (some ⟨P.vb t, 0, none⟩) 16 16) := HBL11.out.cell (by decide)
        have l7 : w11.cell? ⟨nl, 7, none⟩ = some (.int .i64 X.st.insts.length) := HBL11.out.cell (by decide)
        have l8 : w11.cell? ⟨nl, 8, none⟩ = some (.int .i64 X.commits) := HBL11.out.cell (by decide)
        go_upto_region 15 with (refine wpList_storeN 93 9 Try.info93s _ rfl _ _ rfl P.ga (t * 9) _ rfl rfl rfl (by simp [Value.oneCell']) (fun j hj => by rw [GA.out, HR.out.all t j ht hj]; rfl) (fun i => by rw [GF.out]; exact HR.out.allF i) ?_; intro w12 hC12 hin12 hout12 hfr12; have HC12 := Lib.hid hC12; have HI12 := Lib.hid hin12; have HO12 := Lib.hid hout12; have HF12 := Lib.hid hfr12; clear hC12 hin12 hout12 hfr12)
        clear l0 l1 l2 l3 l4 l5 l6 l7 l8 r0
        have hs1112 := HC12.out.size
        have HBL12 := Lib.hid (HBL11.out.chg HC12.out hAl); have HBR12 := Lib.hid (HBR11.out.chg HC12.out (fun e => hAr e.symm)); have HBZ12 := Lib.hid (HBZ11.out.chg HC12.out hAz)
        have h6W : gW ≠ g6 := fun e => by
          rcases hgWc with h | h
          · rw [← e, h, hlW] at hlg6; cases hlg6
          · omega
        have h6C : gC ≠ g6 := fun e => by
          rcases hgCc with h | h
          · rw [← e, h, hlC] at hlg6; cases hlg6
          · omega
        have hCW : gC ≠ gW := fun e => by
          rcases hgCc with h | h
          · rw [h] at e
            exact hgWC2 e.symm
          · omega
        have HR12 : Hid (RRep w12 (P.more t g6 cap6 gW cW gC cC) (xcommit X t)) := by
          rw [xcommit_yes X t HWC.out HB.out HCL.out]
          refine Lib.hid (HR.out.more ht ((HCw.out.mono (fun _ _ e => e.elim .inl (fun e => .inr (.inl e)))).then HC12.out (fun _ _ e => .inr (.inr e))) (by omega) (by omega) ?_ ?_ h6W h6C hCW
            (fun j hj => (nine (p := fun j => w12.cell? ⟨P.ga, t * 9 + j, none⟩ = some (stv P t { X.st.txs t with over := true, comm := true } X.st.insts.length X.commits j)) (HI12.out 0 _ rfl) (HI12.out 1 _ rfl) (HI12.out 2 _ rfl) (HI12.out 3 _ rfl) (HI12.out 4 _ rfl) (HI12.out 5 _ rfl) (HI12.out 6 _ rfl) (HI12.out 7 _ rfl) (HI12.out 8 _ rfl) j hj).trans (congrArg some (stCell_of (if_pos rfl) (if_pos rfl) (if_pos rfl) j).symm))
            (fun i hi => (HO12.out i hi).trans (GA.out i)) (fun i => (HF12.out i).trans (GF.out i)) rfl rfl (fun i k _ _ => ?_) (fun i hi => ⟨if_neg hi, if_neg hi, if_neg hi⟩) ?_
            (HC12.out.ownsRow HROWW11.out (fun k hk e => by simp [Value.ownBlock] at hk; exact hAgW (by rw [hk]; exact e))) (HC12.out.ownsRow HROWC11.out (fun k hk e => by simp [Value.ownBlock] at hk; exact hAgC (by rw [hk]; exact e)))
            (fun k hk => (HC12.out.cell (a := ⟨g6, k, none⟩) (by show g6 < _; omega) hA6).trans (W11.out k hk)))
          · rcases hgWc with h | h
            · exact .inl h
            · exact .inr ⟨by omega, by omega⟩
          · rcases hgCc with h | h
            · exact .inl h
            · exact .inr ⟨by omega, by omega⟩
          · show (if i = t then { X.st.txs t with over := true, comm := true } else X.st.txs i).read k = (X.st.txs i).read k
            split
            · rename_i e; rw [e]
            · rfl
          · show (if t = t then { X.st.txs t with over := true, comm := true } else X.st.txs t).over = true
            rw [if_pos rfl]
        have l7 : w12.cell? ⟨nl, 7, none⟩ = some (.int .i64 X.st.insts.length) := HBL12.out.cell (by decide)
        have r0 : w12.cell? ⟨nr, 0, none⟩ = some (.slice (some ⟨P.ga, 0, none⟩) 16 P.ca) := HBR12.out.cell (by decide)
        have r1 : w12.cell? ⟨nr, 1, none⟩ = some (.slice (some ⟨gW, 0, none⟩) (X.st.insts.length + 1) cW) := HBR12.out.cell (by decide)
        have r2 : w12.cell? ⟨nr, 2, none⟩ = some (.slice (some ⟨gC, 0, none⟩) (X.st.insts.length + 1) cC) := HBR12.out.cell (by decide)
        have r3 : w12.cell? ⟨nr, 3, none⟩ = some (.int .i64 (X.commits + 1)) := HBR12.out.cell (by decide)
        go_still_tail 4, (by kernel_rfl)
        change wpList _ _ _ _ _ w12.drew
        refine wpList_storeN 79 4 Try.info79s _ rfl _ _ rfl (nr + 1) 0 _ rfl rfl rfl (by simp [Value.oneCell']) (fun j hj => by rw [show w12.drew.cell? ⟨nr + 1, 0 + j, none⟩ = _ from HBZ12.out.drew.cell (by omega)]; rfl) (fun i => HBZ12.out.drew.free i) ?_
        intro w13 hC13 hin13 _ _
        have HC13 := Lib.hid hC13; have HI13 := Lib.hid hin13
        clear hC13 hin13
        go_wp2_with fail
        refine bodyPost_ret (results79 rfl rfl (HI13.out 0 _ rfl) (HI13.out 1 _ rfl) (HI13.out 2 _ rfl) (HI13.out 3 _ rfl)) rfl ?_
        have hz' : (P.more t g6 cap6 gW cW gC cC).lab (nr + 1) = 0 := by
          show (if nr + 1 = g6 then 4 else if nr + 1 = gW then 2 else if nr + 1 = gC then 3 else P.lab (nr + 1)) = 0
          rw [if_neg nzg, if_neg (fun e => ?_), if_neg (fun e => ?_), hlz]
          · rcases hgCc with h | h
            · rw [e, h, hlC] at hlz; cases hlz
            · omega
          · rcases hgWc with h | h
            · rw [e, h, hlW] at hlz; cases hlz
            · omega
        refine ⟨P.more t g6 cap6 gW cW gC cC, ?_, HR12.out.kept ((Chg.refl (fun b => b = nr + 1) w12).drew.trans HC13.out) (fun b hb e => hb (by rw [e]; exact hz')), ?_, fun b hb => P.more_lab (by omega) ?_ ?_ b hb⟩
        · have e1 : (xcommit X t).st.insts.length = X.st.insts.length + 1 := by rw [xcommit_yes X t HWC.out HB.out HCL.out]; simp
          rw [HN.out, HB.out, e1]
          rfl
        · exact (((HCw.out.mono (fun _ _ e => e.elim (fun e => by rw [e, hlW]; decide) (fun e => by rw [e, hlC]; decide))).then HC12.out (fun i _ e => by rw [e, hlA]; decide))).then ((Chg.refl (fun b => b = nr + 1) w12).drew.trans HC13.out) (fun i hi e => by omega)
        · rcases hgWc with h | h
          · exact .inl (by rw [h, hlW]; decide)
          · exact .inr (by omega)
        · rcases hgCc with h | h
          · exact .inl (by rw [h, hlC]; decide)
          · exact .inr (by omega)
end
end Go.Proofs.Yteaeflmglppcdaa
