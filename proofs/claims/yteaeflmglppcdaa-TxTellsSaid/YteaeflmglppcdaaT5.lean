/- The reference: a key is read. -/
import Derived.Test.YteaeflmglppcdaaT4
namespace Go.Proofs.Yteaeflmglppcdaa
open Go.RowKit Tx

theorem results_tmp_cell {fn : Func} {u p : Tmp} {ty : TypeId} (h : fn.results = #[.tmp u, .cell p ty]) (tmps : Array Value) (P : Program) (w : World) :
    (results fn tmps).run P w = ((asAddr (tmps.getD p undef)).run P w).andThen fun a w₁ => ((loadVar ty a).run P w₁).andThen fun v w₂ => .ok (.tuple #[tmps.getD u undef, v]) w₂ := by
  simp only [results, h]
  simp [Sem.run_bind, Result.andThen]
theorem results_cell_cell {fn : Func} {u p : Tmp} {tu ty : TypeId} (h : fn.results = #[.cell u tu, .cell p ty]) (tmps : Array Value) (P : Program) (w : World) :
    (results fn tmps).run P w = ((asAddr (tmps.getD u undef)).run P w).andThen fun a w₁ => ((loadVar tu a).run P w₁).andThen fun v w₂ => ((asAddr (tmps.getD p undef)).run P w₂).andThen fun a w₃ => ((loadVar ty a).run P w₃).andThen fun v' w₄ => .ok (.tuple #[v, v']) w₄ := by
  simp only [results, h]
  simp [Sem.run_bind, Result.andThen]
theorem Try.info79s : (Try.prog.info? 79).map (·.size) = some 4 := by kernel_rfl
theorem Try.info49s : (Try.prog.info? 49).map (·.size) = some 2 := by kernel_rfl
/-- A run is read of its block. -/
theorem run_load79 {w : World} {b : Nat} {v0 v1 v2 v3 : Value} (h0 : w.cell? ⟨b, 0, none⟩ = some v0) (h1 : w.cell? ⟨b, 1, none⟩ = some v1) (h2 : w.cell? ⟨b, 2, none⟩ = some v2) (h3 : w.cell? ⟨b, 3, none⟩ = some v3) :
    (loadVar 79 ⟨b, 0, none⟩).run Try.prog w = .ok (.agg #[v0, v1, v2, v3]) w :=
  run_loadVar_mid w b 0 79 [v0, v1, v2, v3] _ (fun j v hj => by
    match j, hj with
    | 0, hj => simp at hj; subst hj; exact h0
    | 1, hj => simp at hj; subst hj; exact h1
    | 2, hj => simp at hj; subst hj; exact h2
    | 3, hj => simp at hj; subst hj; exact h3) Try.underlying79 rfl Try.info79s
theorem run_load49 {w : World} {b : Nat} {v0 v1 : Value} (h0 : w.cell? ⟨b, 0, none⟩ = some v0) (h1 : w.cell? ⟨b, 1, none⟩ = some v1) :
    (loadVar 49 ⟨b, 0, none⟩).run Try.prog w = .ok (.agg #[v0, v1]) w :=
  run_loadVar_mid w b 0 49 [v0, v1] _ (fun j v hj => by
    match j, hj with
    | 0, hj => simp at hj; subst hj; exact h0
    | 1, hj => simp at hj; subst hj; exact h1) Try.underlying49 rfl Try.info49s
theorem results79 {fn : Func} {u p : Tmp} (h : fn.results = #[.tmp u, .cell p 79]) {tmps : Array Value} {w : World} {b : Nat} {v0 v1 v2 v3 : Value} (hp : tmps.getD p undef = .pointer (some ⟨b, 0, none⟩))
    (h0 : w.cell? ⟨b, 0, none⟩ = some v0) (h1 : w.cell? ⟨b, 1, none⟩ = some v1) (h2 : w.cell? ⟨b, 2, none⟩ = some v2) (h3 : w.cell? ⟨b, 3, none⟩ = some v3) :
    (results fn tmps).run Try.prog w = .ok (.tuple #[tmps.getD u undef, .agg #[v0, v1, v2, v3]]) w := by
  rw [results_tmp_cell h, hp]
  simp [asAddr, run_load79 h0 h1 h2 h3, Result.andThen]
theorem results4979 {fn : Func} {u p : Tmp} (h : fn.results = #[.cell u 49, .cell p 79]) {tmps : Array Value} {w : World} {b d : Nat} {v0 v1 v2 v3 a0 a1 : Value} (hu : tmps.getD u undef = .pointer (some ⟨d, 0, none⟩)) (hp : tmps.getD p undef = .pointer (some ⟨b, 0, none⟩))
    (g0 : w.cell? ⟨d, 0, none⟩ = some a0) (g1 : w.cell? ⟨d, 1, none⟩ = some a1)
    (h0 : w.cell? ⟨b, 0, none⟩ = some v0) (h1 : w.cell? ⟨b, 1, none⟩ = some v1) (h2 : w.cell? ⟨b, 2, none⟩ = some v2) (h3 : w.cell? ⟨b, 3, none⟩ = some v3) :
    (results fn tmps).run Try.prog w = .ok (.tuple #[.agg #[a0, a1], .agg #[v0, v1, v2, v3]]) w := by
  rw [results_cell_cell h, hp, hu]
  simp [asAddr, run_load79 h0 h1 h2 h3, run_load49 g0 g1, Result.andThen]
/-- At a store of a whole struct: what stands behind it. -/
theorem wpList_storeN {ops : Array Oper} {rest : List Oper} {o : Oper} {a : Act} {Q : Exit → Act → World → Prop} (T : TypeId) (n : Nat) (hi : (Try.prog.info? T).map (·.size) = some n) (w : World) (hg : o.guard = none) (p v : Operand) (hop : o.op = Op.store T p v)
    (b off : Nat) (vs : Array Value) (hp : a.eval p = .pointer (some ⟨b, off, none⟩)) (hv : a.eval v = .agg vs) (hs : vs.size = n) (h1 : vs.all (·.oneCell') = true)
    (hc : ∀ j, j < n → (w.cell? ⟨b, off + j, none⟩).isSome = true) (hf : ∀ i, w.frozen? ⟨b, i, none⟩ = false)
    (hK : ∀ w', Chg (fun i => i = b) w w' → (∀ j u, vs[j]? = some u → w'.cell? ⟨b, off + j, none⟩ = some u) → (∀ i, i < off ∨ off + n ≤ i → w'.cell? ⟨b, i, none⟩ = w.cell? ⟨b, i, none⟩) → (∀ i, w'.frozen? ⟨b, i, none⟩ = w.frozen? ⟨b, i, none⟩) →
      wpList Try.prog ops Q rest (a.put o.dst undef) w') :
    wpList Try.prog ops Q (o :: rest) a w := by
  refine wpList_plain hg fun K' hK' => ?_
  have hrun := run_storeAt_mid (P := Try.prog) w b off T vs (fun j hj => ⟨hc j (by omega), hf _⟩) (by rw [hs]; exact hi) h1
  unfold Oper.wp
  simp [execOp, hop, hp, hv, hrun, Result.andThen]
  refine hK' _ _ (hK _ ?_ (fun j u hj => ?_) (fun i hi => ?_) (fun i => ?_))
  · have gen : ∀ (l : List Value) (o : Nat) (w0 w1 : World), Chg (fun i => i = b) w0 w1 → Chg (fun i => i = b) w0 (w1.setCells b o l) := by
      intro l
      induction l with
      | nil => intro o w0 w1 h; exact h
      | cons v r ih => intro o w0 w1 h; exact ih _ _ _ (h.setCell (fun _ => rfl) v)
    exact gen _ _ _ _ (Chg.refl _ w)
  · have hj9 : j < n := by rw [← hs]; exact (Array.getElem?_eq_some_iff.1 hj).1
    have hjl : j < vs.toList.length := by simp; omega
    rw [World.cell?_setCells_in b vs.toList off w (fun q hq => hc q (by simp at hq; omega)) j hjl]
    have := (Array.getElem?_eq_some_iff.1 hj).2
    simpa using this
  · rw [World.cell?_setCells_out]
    simp
    omega
  · rw [World.frozen?_setCells]
section
variable {w w' : World} {P : RP} {X : XS}
/-- A store of what stood there. -/
theorem RRep.same {t : Nat} (h : RRep w P X) (ht : t < 16) (hC : Chg (fun b => b = P.ga) w w') (hcell : ∀ j, j < 9 → w'.cell? ⟨P.ga, t * 9 + j, none⟩ = w.cell? ⟨P.ga, t * 9 + j, none⟩)
    (hother : ∀ i, i < t * 9 ∨ t * 9 + 9 ≤ i → w'.cell? ⟨P.ga, i, none⟩ = w.cell? ⟨P.ga, i, none⟩) (hfr : ∀ i, w'.frozen? ⟨P.ga, i, none⟩ = w.frozen? ⟨P.ga, i, none⟩) : RRep w' P X :=
  h.setSt ht hC (fun j hj => by rw [hcell j hj]; exact h.all t j ht hj) hother hfr rfl rfl (fun _ _ _ _ => rfl) (fun _ _ => ⟨rfl, rfl, rfl⟩) (fun x => x)
theorem RRep.rowWc (h : RRep w P X) {i g c : Nat} (hi : P.gi[i]? = some (g, c)) : w.cell? ⟨P.gW, i, none⟩ = some (.slice (some ⟨g, 0, none⟩) 16 c) := by
  have hlt := (List.getElem?_eq_some_iff.1 hi).1
  rw [World.ownsRow.cellAt (h := h.rowW) i (by have := h.giL; omega)]
  simp [rowOf, hi]
theorem RRep.rowCc (h : RRep w P X) {i g c : Nat} (hi : P.gc[i]? = some (g, c)) : w.cell? ⟨P.gC, i, none⟩ = some (.slice (some ⟨g, 0, none⟩) 16 c) := by
  have hlt := (List.getElem?_eq_some_iff.1 hi).1
  rw [World.ownsRow.cellAt (h := h.rowC) i (by have := h.gcL; omega)]
  simp [rowOf, hi]
theorem nine {p : Nat → Prop} (h0 : p 0) (h1 : p 1) (h2 : p 2) (h3 : p 3) (h4 : p 4) (h5 : p 5) (h6 : p 6) (h7 : p 7) (h8 : p 8) : ∀ j, j < 9 → p j := fun j hj => by
  have : j = 0 ∨ j = 1 ∨ j = 2 ∨ j = 3 ∨ j = 4 ∨ j = 5 ∨ j = 6 ∨ j = 7 ∨ j = 8 := by omega
  rcases this with rfl | rfl | rfl | rfl | rfl | rfl | rfl | rfl | rfl <;> assumption
end
section
variable {w : World} {P : RP} {X : XS}
set_option maxRecDepth 100000 in
set_option maxHeartbeats 4000000 in
theorem rread_any (hR : RRep w P X) (t k : Nat) (ht : t < 16) (hk : k < 16) (hin : (X.st.txs t).inst < X.st.insts.length) :
    Calls Try.prog 57 #[runV P X, .int .i64 t, .int .i64 k] w fun e w' => e = .returned (.tuple #[.int .i64 (see X.st t k), runV P X]) ∧ RRep w' P { X with st := Tx.look X.st t k } ∧ Chg (fun b => P.lab b ≠ 0) w w' := by
  have ht1 : (t : Int) < 16 := by omega
  have hk1 : (k : Int) < 16 := by omega
  have ht0 : (0 : Int) ≤ (t : Int) := by omega
  have hk0 : (0 : Int) ≤ (k : Int) := by omega
  have HR := Lib.hid hR
  clear hR
  unfold runV
  go_enter Try.func57, Try.ntmps57
  go_upto_region 1 with fail
  have hRa := HR.out.new (((Chg.refl _ w).alloc (.cells #[.slice (some ⟨P.ga, 0, none⟩) 16 P.ca, .slice (some ⟨P.gW, 0, none⟩) X.st.insts.length P.cW, .slice (some ⟨P.gC, 0, none⟩) X.st.insts.length P.cC, .int .i64 X.commits] 79)).alloc (.cells #[.slice none 0 0, .slice none 0 0, .slice none 0 0, .int .i64 0] 79))
  have hNa : New w ((w.alloc (.cells #[.slice (some ⟨P.ga, 0, none⟩) 16 P.ca, .slice (some ⟨P.gW, 0, none⟩) X.st.insts.length P.cW, .slice (some ⟨P.gC, 0, none⟩) X.st.insts.length P.cC, .int .i64 X.commits] 79)).alloc (.cells #[.slice none 0 0, .slice none 0 0, .slice none 0 0, .int .i64 0] 79)) := ((Chg.refl _ w).alloc _).alloc _
  have hb0 : ((w.alloc (.cells #[.slice (some ⟨P.ga, 0, none⟩) 16 P.ca, .slice (some ⟨P.gW, 0, none⟩) X.st.insts.length P.cW, .slice (some ⟨P.gC, 0, none⟩) X.st.insts.length P.cC, .int .i64 X.commits] 79)).alloc (.cells #[.slice none 0 0, .slice none 0 0, .slice none 0 0, .int .i64 0] 79)).heap[w.heap.size]? = some (.cells #[.slice (some ⟨P.ga, 0, none⟩) 16 P.ca, .slice (some ⟨P.gW, 0, none⟩) X.st.insts.length P.cW, .slice (some ⟨P.gC, 0, none⟩) X.st.insts.length P.cC, .int .i64 X.commits] 79) := (Below.heap_alloc _ _ _ (by simp [World.size_alloc])).trans (heap_alloc_new w _)
  have hb1 : ((w.alloc (.cells #[.slice (some ⟨P.ga, 0, none⟩) 16 P.ca, .slice (some ⟨P.gW, 0, none⟩) X.st.insts.length P.cW, .slice (some ⟨P.gC, 0, none⟩) X.st.insts.length P.cC, .int .i64 X.commits] 79)).alloc (.cells #[.slice none 0 0, .slice none 0 0, .slice none 0 0, .int .i64 0] 79)).heap[w.heap.size + 1]? = some (.cells #[.slice none 0 0, .slice none 0 0, .slice none 0 0, .int .i64 0] 79) := by
    have := heap_alloc_new (w.alloc (.cells #[.slice (some ⟨P.ga, 0, none⟩) 16 P.ca, .slice (some ⟨P.gW, 0, none⟩) X.st.insts.length P.cW, .slice (some ⟨P.gC, 0, none⟩) X.st.insts.length P.cC, .int .i64 X.commits] 79)) (.cells #[.slice none 0 0, .slice none 0 0, .slice none 0 0, .int .i64 0] 79)
    rwa [World.size_alloc] at this
  have hlr : P.lab w.heap.size = 0 := HR.out.hi _ (Nat.le_refl _)
  have hlz : P.lab (w.heap.size + 1) = 0 := HR.out.hi _ (by omega)
  have hnw : w.heap.size ≤ w.heap.size := Nat.le_refl _
  generalize (w.alloc _).alloc _ = w1 at *
  generalize hnr : w.heap.size = nr at *
  have r0 : w1.cell? ⟨nr, 0, none⟩ = some (.slice (some ⟨P.ga, 0, none⟩) 16 P.ca) := by simp [World.cell?, hb0]
  obtain ⟨a0, a1, a2, a3, a4, a5, a6, a7, a8⟩ := hRa.st9 ht
  have hRb := hRa.new ((Chg.refl _ w1).alloc (.cells #[.bool (X.st.txs t).begun, .bool (X.st.txs t).over, .bool (X.st.txs t).comm, .int .i64 (X.st.txs t).inst, .slice (some ⟨P.rd t, 0, none⟩) 16 16, .slice (some ⟨P.wb t, 0, none⟩) 16 16, .slice (some ⟨P.vb t, 0, none⟩) 16 16, .int .i64 (X.made t), .int .i64 (X.turn t)] 93))
  have hb0' : (w1.alloc (.cells #[.bool (X.st.txs t).begun, .bool (X.st.txs t).over, .bool (X.st.txs t).comm, .int .i64 (X.st.txs t).inst, .slice (some ⟨P.rd t, 0, none⟩) 16 16, .slice (some ⟨P.wb t, 0, none⟩) 16 16, .slice (some ⟨P.vb t, 0, none⟩) 16 16, .int .i64 (X.made t), .int .i64 (X.turn t)] 93)).heap[nr]? = some (.cells #[.slice (some ⟨P.ga, 0, none⟩) 16 P.ca, .slice (some ⟨P.gW, 0, none⟩) X.st.insts.length P.cW, .slice (some ⟨P.gC, 0, none⟩) X.st.insts.length P.cC, .int .i64 X.commits] 79) := (Below.heap_alloc _ _ _ (Array.getElem?_eq_some_iff.1 hb0).1).trans hb0
  have hb1' : (w1.alloc (.cells #[.bool (X.st.txs t).begun, .bool (X.st.txs t).over, .bool (X.st.txs t).comm, .int .i64 (X.st.txs t).inst, .slice (some ⟨P.rd t, 0, none⟩) 16 16, .slice (some ⟨P.wb t, 0, none⟩) 16 16, .slice (some ⟨P.vb t, 0, none⟩) 16 16, .int .i64 (X.made t), .int .i64 (X.turn t)] 93)).heap[nr + 1]? = some (.cells #[.slice none 0 0, .slice none 0 0, .slice none 0 0, .int .i64 0] 79) := (Below.heap_alloc _ _ _ (Array.getElem?_eq_some_iff.1 hb1).1).trans hb1
  have hb2' : (w1.alloc (.cells #[.bool (X.st.txs t).begun, .bool (X.st.txs t).over, .bool (X.st.txs t).comm, .int .i64 (X.st.txs t).inst, .slice (some ⟨P.rd t, 0, none⟩) 16 16, .slice (some ⟨P.wb t, 0, none⟩) 16 16, .slice (some ⟨P.vb t, 0, none⟩) 16 16, .int .i64 (X.made t), .int .i64 (X.turn t)] 93)).heap[w1.heap.size]? = some (.cells #[.bool (X.st.txs t).begun, .bool (X.st.txs t).over, .bool (X.st.txs t).comm, .int .i64 (X.st.txs t).inst, .slice (some ⟨P.rd t, 0, none⟩) 16 16, .slice (some ⟨P.wb t, 0, none⟩) 16 16, .slice (some ⟨P.vb t, 0, none⟩) 16 16, .int .i64 (X.made t), .int .i64 (X.turn t)] 93) := heap_alloc_new w1 _
  have hNb := hNa.alloc (.cells #[.bool (X.st.txs t).begun, .bool (X.st.txs t).over, .bool (X.st.txs t).comm, .int .i64 (X.st.txs t).inst, .slice (some ⟨P.rd t, 0, none⟩) 16 16, .slice (some ⟨P.wb t, 0, none⟩) 16 16, .slice (some ⟨P.vb t, 0, none⟩) 16 16, .int .i64 (X.made t), .int .i64 (X.turn t)] 93)
  go_upto_region 2 with fail
  have hnl1 : nr + 1 < w1.heap.size := (Array.getElem?_eq_some_iff.1 hb1).1
  have hll : P.lab w1.heap.size = 0 := hRa.hi _ (Nat.le_refl _)
  clear r0 a0 a1 a2 a3 a4 a5 a6 a7 a8 hb0 hb1 hRa hNa
  generalize w1.alloc _ = w2 at *
  generalize w1.heap.size = nl at *
  have r0 : w2.cell? ⟨nr, 0, none⟩ = some (.slice (some ⟨P.ga, 0, none⟩) 16 P.ca) := by simp [World.cell?, hb0']
  have r1 : w2.cell? ⟨nr, 1, none⟩ = some (.slice (some ⟨P.gW, 0, none⟩) X.st.insts.length P.cW) := by simp [World.cell?, hb0']
  have r2 : w2.cell? ⟨nr, 2, none⟩ = some (.slice (some ⟨P.gC, 0, none⟩) X.st.insts.length P.cC) := by simp [World.cell?, hb0']
  have r3 : w2.cell? ⟨nr, 3, none⟩ = some (.int .i64 X.commits) := by simp [World.cell?, hb0']
  have l0 : w2.cell? ⟨nl, 0, none⟩ = some (.bool (X.st.txs t).begun) := by simp [World.cell?, hb2']
  have l1 : w2.cell? ⟨nl, 1, none⟩ = some (.bool (X.st.txs t).over) := by simp [World.cell?, hb2']
  have l2 : w2.cell? ⟨nl, 2, none⟩ = some (.bool (X.st.txs t).comm) := by simp [World.cell?, hb2']
  have l3 : w2.cell? ⟨nl, 3, none⟩ = some (.int .i64 (X.st.txs t).inst) := by simp [World.cell?, hb2']
  have l4 : w2.cell? ⟨nl, 4, none⟩ = some (.slice (some ⟨P.rd t, 0, none⟩) 16 16) := by simp [World.cell?, hb2']
  have l5 : w2.cell? ⟨nl, 5, none⟩ = some (.slice (some ⟨P.wb t, 0, none⟩) 16 16) := by simp [World.cell?, hb2']
  have l6 : w2.cell? ⟨nl, 6, none⟩ = some (.slice (some ⟨P.vb t, 0, none⟩) 16 16) := by simp [World.cell?, hb2']
  have l7 : w2.cell? ⟨nl, 7, none⟩ = some (.int .i64 (X.made t)) := by simp [World.cell?, hb2']
  have l8 : w2.cell? ⟨nl, 8, none⟩ = some (.int .i64 (X.turn t)) := by simp [World.cell?, hb2']
  have zc : Hid (∀ j, j < 4 → (w2.cell? ⟨nr + 1, 0 + j, none⟩).isSome = true) := Lib.hid (fun j hj => by
    have : j = 0 ∨ j = 1 ∨ j = 2 ∨ j = 3 := by omega
    rcases this with rfl | rfl | rfl | rfl <;> simp [World.cell?, hb1'])
  have zf : Hid (∀ i, w2.frozen? ⟨nr + 1, i, none⟩ = false) := Lib.hid (fun i => by simp [World.frozen?, hb1'])
  have HB0 := Lib.hid hb0'; have HB1 := Lib.hid hb1'; have HB2 := Lib.hid hb2'; have HRB := Lib.hid hRb; have HNB := Lib.hid hNb
  have x0 := hRb.wbC t k ht hk
  have v0 := hRb.vbC t k ht hk
  clear hb0' hb1' hb2' hRb hNb
  cases hm : mget ((t : Int), (k : Int)) X.st.wr with
  | some u =>
    rw [hm] at x0 v0
    simp only [Option.isSome_some, Option.getD_some] at x0 v0
    have HSEE : Hid (see X.st t k = u) := Lib.hid (by unfold Tx.see; rw [hm]; rfl)
    have HLK : Hid (Tx.look X.st t k = X.st) := Lib.hid (by unfold Tx.look; rw [hm]; rfl)
    clear hm
    go_upto_region 3 with fail
    go_still_tail 7, (by kernel_rfl)
    change wpList _ _ _ _ _ w2.drew
    refine wpList_storeN 79 4 Try.info79s _ rfl _ _ rfl (nr + 1) 0 _ rfl rfl rfl (by simp [Value.oneCell']) zc.out zf.out ?_
    intro w3 hC hin _ _
    have HC := Lib.hid hC; have HIN := Lib.hid hin
    clear hC hin
    go_wp2_with fail
    have HCZ : Chg (fun b => P.lab b ≠ 0) w w3 := (HNB.out.mono (fun _ _ h => absurd h id)).then ((Chg.refl (fun b => b = nr + 1) w2).drew.trans HC.out) (fun i hi e => by omega)
    refine bodyPost_ret (results79 rfl rfl (HIN.out 0 _ rfl) (HIN.out 1 _ rfl) (HIN.out 2 _ rfl) (HIN.out 3 _ rfl)) rfl ?_
    rw [HSEE.out, HLK.out]
    exact ⟨rfl, HRB.out.kept ((Chg.refl (fun b => b = nr + 1) w2).drew.trans HC.out) (fun b hb e => hb (by rw [e]; exact hlz)), HCZ⟩
  | none =>
    rw [hm] at x0 v0
    simp only [Option.isSome_none] at x0
    have HSEE : Hid (see X.st t k = (X.st.inst (X.st.txs t).inst).words k) := Lib.hid (by unfold Tx.see; rw [hm]; rfl)
    have HLK : Hid (Tx.look X.st t k = X.st.setTx t ((X.st.txs t).setRead k)) := Lib.hid (by unfold Tx.look; rw [hm]; rfl)
    have y0 := HRB.out.rdC t k ht hk
    have yf := HRB.out.rdF t k ht
    clear hm
    go_upto_region 5 with fail
    have HR3 := Lib.hid (HRB.out.setRd ht hk)
    have hlrd : P.lab (P.rd t) = 10 + 3 * t := HRB.out.lr t ht
    have hlga : P.lab P.ga = 1 := HRB.out.la
    have n1 : nr ≠ P.rd t := fun e => by rw [← e, hlr] at hlrd; omega
    have n2 : nl ≠ P.rd t := fun e => by rw [← e, hll] at hlrd; omega
    have n3 : nr + 1 ≠ P.rd t := fun e => by rw [← e, hlz] at hlrd; omega
    have n4 : P.ga ≠ P.rd t := fun e => by rw [← e, hlga] at hlrd; omega
    have n5 : nr ≠ P.ga := fun e => by rw [← e, hlr] at hlga; omega
    have n6 : nl ≠ P.ga := fun e => by rw [← e, hll] at hlga; omega
    have n7 : nr + 1 ≠ P.ga := fun e => by rw [← e, hlz] at hlga; omega
    have kp : ∀ (b i : Nat) (v : Value), b ≠ P.rd t → w2.cell? ⟨b, i, none⟩ = some v → (w2.setCell ⟨P.rd t, k, none⟩ (.bool true)).cell? ⟨b, i, none⟩ = some v := fun b i v hb h => by rw [cell_set_other (p := ⟨b, i, none⟩) (a := ⟨P.rd t, k, none⟩) hb]; exact h
    obtain ⟨a0, a1, a2, a3, a4, a5, a6, a7, a8⟩ := HRB.out.st9 ht
    have A0 := kp _ _ _ n4 a0; have A1 := kp _ _ _ n4 a1; have A2 := kp _ _ _ n4 a2; have A3 := kp _ _ _ n4 a3; have A4 := kp _ _ _ n4 a4; have A5 := kp _ _ _ n4 a5; have A6 := kp _ _ _ n4 a6; have A7 := kp _ _ _ n4 a7; have A8 := kp _ _ _ n4 a8
    have L0 := kp _ _ _ n2 l0; have L1 := kp _ _ _ n2 l1; have L2 := kp _ _ _ n2 l2; have L3 := kp _ _ _ n2 l3; have L4 := kp _ _ _ n2 l4; have L5 := kp _ _ _ n2 l5; have L6 := kp _ _ _ n2 l6; have L7 := kp _ _ _ n2 l7; have L8 := kp _ _ _ n2 l8
    have R0 := kp _ _ _ n1 r0; have R1 := kp _ _ _ n1 r1; have R2 := kp _ _ _ n1 r2; have R3 := kp _ _ _ n1 r3
    have ZC : Hid (∀ j, j < 4 → ((w2.setCell ⟨P.rd t, k, none⟩ (.bool true)).cell? ⟨nr + 1, 0 + j, none⟩).isSome = true) := Lib.hid (fun j hj => by
      rw [cell_set_other (p := ⟨nr + 1, 0 + j, none⟩) (a := ⟨P.rd t, k, none⟩) n3]; exact zc.out j hj)
    have ZF : Hid (∀ i, (w2.setCell ⟨P.rd t, k, none⟩ (.bool true)).frozen? ⟨nr + 1, i, none⟩ = false) := Lib.hid (fun i => by rw [World.frozen?_setCell]; exact zf.out i)
    have HC3 : Hid (Chg (fun b => P.lab b ≠ 0) w (w2.setCell ⟨P.rd t, k, none⟩ (.bool true))) := Lib.hid ((HNB.out.mono (fun _ _ h => absurd h id)).setCell (fun _ => by show P.lab (P.rd t) ≠ 0; rw [hlrd]; omega) _)
    clear r0 r1 r2 r3 l0 l1 l2 l3 l4 l5 l6 l7 l8 a0 a1 a2 a3 a4 a5 a6 a7 a8 x0 v0 y0 yf kp zc zf
    generalize w2.setCell _ _ = w3 at *
    go_upto_region 6 with (refine wpList_storeN 93 9 Try.info93s _ rfl _ _ rfl P.ga (t * 9) _ rfl rfl rfl (by simp [Value.oneCell']) (fun j hj => by rw [HR3.out.all t j ht hj]; rfl) HR3.out.allF ?_; intro w4 hC4 hin4 hout4 hfr4; have HC4 := Lib.hid hC4; have HI4 := Lib.hid hin4; have HO4 := Lib.hid hout4; have HF4 := Lib.hid hfr4; clear hC4 hin4 hout4 hfr4)
    have HR4 := Lib.hid (HR3.out.same ht HC4.out (nine ((HI4.out 0 _ rfl).trans A0.symm) ((HI4.out 1 _ rfl).trans A1.symm) ((HI4.out 2 _ rfl).trans A2.symm) ((HI4.out 3 _ rfl).trans A3.symm) ((HI4.out 4 _ rfl).trans A4.symm) ((HI4.out 5 _ rfl).trans A5.symm) ((HI4.out 6 _ rfl).trans A6.symm) ((HI4.out 7 _ rfl).trans A7.symm) ((HI4.out 8 _ rfl).trans A8.symm)) HO4.out HF4.out)
    have kp : ∀ (b i : Nat) (v : Value), b ≠ P.ga → w3.cell? ⟨b, i, none⟩ = some v → w4.cell? ⟨b, i, none⟩ = some v := fun b i v hb h => (HC4.out.cell (a := ⟨b, i, none⟩) (World.block_lt_of_cell? w3 _ h) hb).trans h
    have Q3 := kp _ _ _ n6 L3
    have S0 := kp _ _ _ n5 R0; have S1 := kp _ _ _ n5 R1; have S2 := kp _ _ _ n5 R2; have S3 := kp _ _ _ n5 R3
    have ZC4 : Hid (∀ j, j < 4 → (w4.cell? ⟨nr + 1, 0 + j, none⟩).isSome = true) := Lib.hid (fun j hj => by
      obtain ⟨v, hv⟩ := Option.isSome_iff_exists.1 (ZC.out j hj)
      rw [kp _ _ _ n7 hv]; rfl)
    have hz3 : nr + 1 < w3.heap.size := by
      obtain ⟨v, hv⟩ := Option.isSome_iff_exists.1 (ZC.out 0 (by decide))
      exact World.block_lt_of_cell? w3 _ hv
    have ZF4 : Hid (∀ i, w4.frozen? ⟨nr + 1, i, none⟩ = false) := Lib.hid (fun i => (HC4.out.frozen (a := ⟨nr + 1, i, none⟩) hz3 n7).trans (ZF.out i))
    have HC34 : Hid (Chg (fun b => P.lab b ≠ 0) w w4) := Lib.hid (HC3.out.then HC4.out (fun i _ e => by rw [e, hlga]; decide))
    obtain ⟨⟨gg, gcp⟩, hg⟩ : ∃ q, P.gi[(X.st.txs t).inst]? = some q := ⟨_, List.getElem?_eq_getElem (by rw [HR.out.giL]; exact hin)⟩
    have T0 := HR4.out.rowWc hg
    have T1 := HR4.out.words _ _ _ hg k hk
    change w4.cell? ⟨gg, k, none⟩ = some (.int .i64 ((X.st.inst (X.st.txs t).inst).words k)) at T1
    have i0 : (0 : Int) ≤ ((X.st.txs t).inst : Int) := by omega
    have i1 : ((X.st.txs t).inst : Int) < (X.st.insts.length : Int) := by omega
    clear A0 A1 A2 A3 A4 A5 A6 A7 A8 L0 L1 L2 L3 L4 L5 L6 L7 L8 R0 R1 R2 R3 kp HC4 HI4 HO4 HF4 HR3 HC3 ZC ZF hg hz3
    go_still_tail 11, (by kernel_rfl)
    change wpList _ _ _ _ _ w4.drew
    refine wpList_storeN 79 4 Try.info79s _ rfl _ _ rfl (nr + 1) 0 _ rfl rfl rfl (by simp [Value.oneCell']) ZC4.out ZF4.out ?_
    intro w5 hC hin5 _ _
    have HC := Lib.hid hC; have HIN := Lib.hid hin5
    clear hC hin5
    go_wp2_with fail
    have HCZ : Chg (fun b => P.lab b ≠ 0) w w5 := HC34.out.then ((Chg.refl (fun b => b = nr + 1) w4).drew.trans HC.out) (fun i hi e => by omega)
    refine bodyPost_ret (results79 rfl rfl (HIN.out 0 _ rfl) (HIN.out 1 _ rfl) (HIN.out 2 _ rfl) (HIN.out 3 _ rfl)) rfl ?_
    rw [HSEE.out, HLK.out]
    exact ⟨rfl, HR4.out.kept ((Chg.refl (fun b => b = nr + 1) w4).drew.trans HC.out) (fun b hb e => hb (by rw [e]; exact hlz)), HCZ⟩
end
end Go.Proofs.Yteaeflmglppcdaa
