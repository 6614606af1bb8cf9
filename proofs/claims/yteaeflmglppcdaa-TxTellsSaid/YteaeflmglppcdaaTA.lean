/- The reference's state at the beginning. -/
import Derived.Test.YteaeflmglppcdaaT7
import Derived.Deep.AppendLies
namespace Go.Proofs.Yteaeflmglppcdaa
open Go.RowKit Tx

theorem results_one_cell {fn : Func} {p : Tmp} {ty : TypeId} (h : fn.results = #[.cell p ty]) (tmps : Array Value) (P : Program) (w : World) :
    (results fn tmps).run P w = ((asAddr (tmps.getD p undef)).run P w).andThen fun a w₁ => (loadVar ty a).run P w₁ := by
  simp only [results, h]
  simp [Sem.run_bind, Result.andThen]
theorem results79one {fn : Func} {p : Tmp} (h : fn.results = #[.cell p 79]) {tmps : Array Value} {w : World} {b : Nat} {v0 v1 v2 v3 : Value} (hp : tmps.getD p undef = .pointer (some ⟨b, 0, none⟩))
    (h0 : w.cell? ⟨b, 0, none⟩ = some v0) (h1 : w.cell? ⟨b, 1, none⟩ = some v1) (h2 : w.cell? ⟨b, 2, none⟩ = some v2) (h3 : w.cell? ⟨b, 3, none⟩ = some v3) :
    (results fn tmps).run Try.prog w = .ok (.agg #[v0, v1, v2, v3]) w := by
  rw [results_one_cell h, hp]
  simp [asAddr, run_load79 h0 h1 h2 h3, Result.andThen]
theorem cut_ {p q : Prop} (h : p) (k : p → q) : q := k h
/-- It ends so. -/
def Only (R : Act → World → Prop) : Exit → Act → World → Prop
  | .normal, a, w => R a w
  | _, _, _ => False
theorem wp_only (R : Act → World → Prop) {c : Code} {Q : Exit → Act → World → Prop} {a : Act} {w : World} (h1 : c.wp Try.prog (Only R) a w) (h2 : ∀ A W, R A W → Q .normal A W) : c.wp Try.prog Q a w :=
  Code.wp_mono (fun e a' w' h => by
    cases e with
    | normal => exact h2 _ _ h
    | _ => exact h.elim) h1
/-- An append of one element of the call's own, in a region that draws its order. -/
theorem step_append_new {ops : Array Oper} {o : Oper} {a : Act} {K : Act → World → Prop} {Q : Exit → Act → World → Prop} {E : Prop} {wx : World} {A : Array Value} (hgd : o.guard = none) (s x : Operand) (t : TypeId)
    (ho : o.op = .call { callee := .builtin .append, args := #[s, x], argTypes := #[t, t] })
    (e : TypeId) (i : TypeInfo) (z : Value) (size bytes : Nat) (ht : Try.prog.underlying t = some (.slice e)) (hi : Try.prog.info? e = some i) (hz : i.zero = some z)
    (hsize : i.size = size) (hby : i.bytes = bytes) (hzs : z.cells.size = size) (hsz : 0 < size)
    (v : Value) (n : Nat) (xs : List Value) (hs : a.eval s = v) (hown : wx.ownsRow 0 e size v n xs)
    (H : Nat) (hH : wx.heap.size = H) (hx : a.eval x = .slice (some ⟨H, 0, none⟩) 1 1) (hl : A.toList.length = 1 * size) (h1 : ∀ u ∈ A.toList, u.oneCell' = true)
    (h63 : n + 1 ≤ maxLen) (hbytes : (n + 1) * bytes ≤ 140737488355328)
    (h : ∀ g cap w', w'.ownsRow 0 e size (.slice (some ⟨g, 0, none⟩) (n + 1) cap) (n + 1) (xs ++ A.toList) → Chg (fun k => v.ownBlock = some k) wx w' → (v.ownBlock = some g ∨ H < g) → g < w'.heap.size → K (a.put o.dst (.slice (some ⟨g, 0, none⟩) (n + 1) cap)) w') :
    if Region.wanted o (yielded ops a.tmps) = true then Oper.wp Try.prog o a (wx.alloc (.cells A e)).drew K Q else E := by
  have hn : ∀ j u, A.toList[j]? = some u → (wx.alloc (.cells A e)).drew.cell? ((⟨H, 0, none⟩ : Addr).add j) = some u := by
    rw [← hH]
    exact news_alloc wx A e
  refine step_append_lies (P := Try.prog) (wx.alloc (.cells A e)).drew hgd s x t ho 0 e i z size bytes ht hi hz hsize hby hzs hsz v n xs hs (hown.alloc _).drew ⟨H, 0, none⟩ 1 1 A.toList hx hl hn h1 (by decide) h63 hbytes (Nat.zero_le _) _ rfl fun g cap w' h2 h3 h4 h5 => ?_
  refine h g cap w' h2 ((((Chg.refl _ wx).alloc _).drew).grown h3 (fun k hk _ => hk)) (h4.imp id (fun e => ?_)) h5
  rw [e]
  show H < (wx.alloc (.cells A _)).heap.size
  rw [World.size_alloc, hH]
  omega
def zi16 : Array Value := #[.int .i64 0, .int .i64 0, .int .i64 0, .int .i64 0, .int .i64 0, .int .i64 0, .int .i64 0, .int .i64 0, .int .i64 0, .int .i64 0, .int .i64 0, .int .i64 0, .int .i64 0, .int .i64 0, .int .i64 0, .int .i64 0]
def zb16 : Array Value := #[.bool false, .bool false, .bool false, .bool false, .bool false, .bool false, .bool false, .bool false, .bool false, .bool false, .bool false, .bool false, .bool false, .bool false, .bool false, .bool false]
theorem make28 (w : World) : (Instr.makeSlice 28 (.int .i64 16) (.int .i64 16)).run Try.prog w = .ok (.slice (some ⟨w.heap.size, 0, none⟩) 16 16) (w.alloc (.cells zi16 3)) := by kernel_rfl
theorem make91 (w : World) : (Instr.makeSlice 91 (.int .i64 16) (.int .i64 16)).run Try.prog w = .ok (.slice (some ⟨w.heap.size, 0, none⟩) 16 16) (w.alloc (.cells zb16 4)) := by kernel_rfl
def fI (_ : Nat) : Value := .int .i64 0
def fB (_ : Nat) : Value := .bool false
theorem atZi (w : World) {g : Nat} (hg : g = w.heap.size) : Blk (w.alloc (.cells zi16 3)) g 3 16 fI := by
  subst hg
  exact Blk.new w _ _ _ rfl (fun i hi => by
    have : i = 0 ∨ i = 1 ∨ i = 2 ∨ i = 3 ∨ i = 4 ∨ i = 5 ∨ i = 6 ∨ i = 7 ∨ i = 8 ∨ i = 9 ∨ i = 10 ∨ i = 11 ∨ i = 12 ∨ i = 13 ∨ i = 14 ∨ i = 15 := by omega
    rcases this with rfl | rfl | rfl | rfl | rfl | rfl | rfl | rfl | rfl | rfl | rfl | rfl | rfl | rfl | rfl | rfl <;> rfl)
theorem atZb (w : World) {g : Nat} (hg : g = w.heap.size) : Blk (w.alloc (.cells zb16 4)) g 4 16 fB := by
  subst hg
  exact Blk.new w _ _ _ rfl (fun i hi => by
    have : i = 0 ∨ i = 1 ∨ i = 2 ∨ i = 3 ∨ i = 4 ∨ i = 5 ∨ i = 6 ∨ i = 7 ∨ i = 8 ∨ i = 9 ∨ i = 10 ∨ i = 11 ∨ i = 12 ∨ i = 13 ∨ i = 14 ∨ i = 15 := by omega
    rcases this with rfl | rfl | rfl | rfl | rfl | rfl | rfl | rfl | rfl | rfl | rfl | rfl | rfl | rfl | rfl | rfl <;> rfl)
theorem atL (w : World) (l : List Value) (T : TypeId) {g n : Nat} (hg : g = w.heap.size) (hn : l.length = n) : Blk (w.alloc (.cells l.toArray T)) g T n (nth l) := by
  subst hg hn
  exact Blk.ofL w l T
theorem Blk.row {w : World} {b : Nat} {T : TypeId} {n : Nat} {l : List Value} (h : Blk w b T n (nth l)) (hl : l.length = n) (hm : n ≤ maxLen) : w.ownsRow 0 T 1 (.slice (some ⟨b, 0, none⟩) n n) n l := by
  obtain ⟨cs, hb, hs, hc⟩ := h
  refine ⟨by omega, .inr ⟨b, n, cs, rfl, Nat.zero_le _, hb, Nat.le_refl _, hm, by omega, ?_⟩⟩
  apply List.ext_getElem?
  intro i
  rw [List.getElem?_take]
  by_cases hi : i < n
  · rw [if_pos (by omega)]
    have := hc i hi
    unfold nth at this
    rw [List.getD_eq_getElem?_getD, List.getElem?_eq_getElem (by omega)] at this
    rw [List.getElem?_eq_getElem (show i < l.length by omega)]
    simpa using this
  · rw [if_neg (by omega), List.getElem?_eq_none (by omega)]
/-- A state at the beginning. -/
def st0 (rd wb vb : Nat → Nat) (i : Nat) : List Value :=
  [.bool false, .bool false, .bool false, .int .i64 0, .slice (some ⟨rd i, 0, none⟩) 16 16, .slice (some ⟨wb i, 0, none⟩) 16 16, .slice (some ⟨vb i, 0, none⟩) 16 16, .int .i64 0, .int .i64 0]
/-- What there is behind j states. -/
structure SInv (w wr : World) (nb g1 gW g2 gC j : Nat) (va : Value) (rd wb vb lab : Nat → Nat) : Prop where
  row : wr.ownsRow 0 93 9 va j ((List.range j).flatMap (st0 rd wb vb))
  bR : Blk wr nb 79 4 (nth [va, .slice (some ⟨gW, 0, none⟩) 1 1, .slice (some ⟨gC, 0, none⟩) 1 1, .int .i64 0])
  bZ : Blk wr w.heap.size 79 4 (nth [.slice none 0 0, .slice none 0 0, .slice none 0 0, .int .i64 0])
  b1 : Blk wr g1 3 16 fI
  bW : Blk wr gW 28 1 (nth [.slice (some ⟨g1, 0, none⟩) 16 16])
  b2 : Blk wr g2 4 16 fB
  bC : Blk wr gC 91 1 (nth [.slice (some ⟨g2, 0, none⟩) 16 16])
  each : ∀ i, i < j → Blk wr (rd i) 4 16 fB ∧ Blk wr (wb i) 4 16 fB ∧ Blk wr (vb i) 3 16 fI ∧ lab (rd i) = 10 + 3 * i ∧ lab (wb i) = 11 + 3 * i ∧ lab (vb i) = 12 + 3 * i
  lW : lab gW = 2
  lC : lab gC = 3
  l1 : lab g1 = 4
  l2 : lab g2 = 5
  l0 : lab nb = 0
  lz : lab w.heap.size = 0
  la : ∀ g, va.ownBlock = some g → lab g = 1
  hi : ∀ b, wr.heap.size ≤ b → lab b = 0
  new : ∀ b, lab b ≠ 0 → w.heap.size ≤ b
  gn : w.heap.size ≤ nb
  chg : New w wr
theorem SInv.far {w wr : World} {nb g1 gW g2 gC j : Nat} {va : Value} {rd wb vb lab : Nat → Nat} (h : SInv w wr nb g1 gW g2 gC j va rd wb vb lab) {b : Nat} (hb : lab b ≠ 1) : ¬ va.ownBlock = some b := fun e => hb (h.la b e)
theorem SInv.next {w wr w6 : World} {nb g1 gW g2 gC j g cap r wv vv : Nat} {va : Value} {rd wb vb lab : Nat → Nat} (h : SInv w wr nb g1 gW g2 gC j va rd wb vb lab)
    (hrow : w6.ownsRow 0 93 9 (.slice (some ⟨g, 0, none⟩) (j + 1) cap) (j + 1) ((List.range j).flatMap (st0 rd wb vb) ++ [.bool false, .bool false, .bool false, .int .i64 0, .slice (some ⟨r, 0, none⟩) 16 16, .slice (some ⟨wv, 0, none⟩) 16 16, .slice (some ⟨vv, 0, none⟩) 16 16, .int .i64 0, .int .i64 0]))
    (hC : Chg (fun k => va.ownBlock = some k) wr w6) (br : Blk w6 r 4 16 fB) (bw : Blk w6 wv 4 16 fB) (bv : Blk w6 vv 3 16 fI)
    (hg : va.ownBlock = some g ∨ wr.heap.size + 3 < g) (hgl : g < w6.heap.size) (hr : wr.heap.size ≤ r ∧ r < wr.heap.size + 3) (hw : wr.heap.size ≤ wv ∧ wv < wr.heap.size + 3) (hv : wr.heap.size ≤ vv ∧ vv < wr.heap.size + 3) (n1 : r ≠ wv) (n2 : r ≠ vv) (n3 : wv ≠ vv) :
    ∃ va' rd' wb' vb' lab', SInv w (w6.setCell ⟨nb, 0, none⟩ (.slice (some ⟨g, 0, none⟩) (j + 1) cap)) nb g1 gW g2 gC (j + 1) va' rd' wb' vb' lab' := by
  have hnb := h.bR.lt
  have hsz := hC.size
  have lt : ∀ b, lab b ≠ 0 → b < wr.heap.size := fun b hb => by
    rcases Nat.lt_or_ge b wr.heap.size with hl | hl
    · exact hl
    · exact absurd (h.hi b hl) hb
  have fb : ∀ b, lab b ≠ 1 → ¬ va.ownBlock = some b := fun b hb => h.far hb
  have gnb : g ≠ nb := fun e => by
    rcases hg with e2 | e2
    · have := h.la g e2; rw [e, h.l0] at this; cases this
    · omega
  have C0 : Chg (fun k => k = nb) w6 (w6.setCell ⟨nb, 0, none⟩ (.slice (some ⟨g, 0, none⟩) (j + 1) cap)) := (Chg.refl (fun k => k = nb) w6).setCell (fun _ => rfl) _
  have nn : ∀ b, lab b ≠ 0 → b ≠ nb := fun b hb e => hb (by rw [e]; exact h.l0)
  have hwn : w.heap.size ≤ wr.heap.size := h.chg.size
  have nz : w.heap.size ≠ nb := fun e => by
    have h1 := h.bR.cell (i := 1) (by decide)
    have h2 := h.bZ.cell (i := 1) (by decide)
    rw [← e, h2] at h1
    simp [nth] at h1
  have kp : ∀ {b : Nat} {T : TypeId} {n : Nat} {f : Nat → Value}, Blk wr b T n f → lab b ≠ 1 → b ≠ nb → Blk (w6.setCell ⟨nb, 0, none⟩ (.slice (some ⟨g, 0, none⟩) (j + 1) cap)) b T n f :=
    fun hb h1 h2 => C0.blk (hC.blk hb (fb _ h1)) h2
  refine ⟨.slice (some ⟨g, 0, none⟩) (j + 1) cap, fun i => if i = j then r else rd i, fun i => if i = j then wv else wb i, fun i => if i = j then vv else vb i,
    fun b => if b = r then 10 + 3 * j else if b = wv then 11 + 3 * j else if b = vv then 12 + 3 * j else if b = g then 1 else lab b, ?_⟩
  have hL : ∀ b, lab b ≠ 0 → (if b = r then 10 + 3 * j else if b = wv then 11 + 3 * j else if b = vv then 12 + 3 * j else if b = g then 1 else lab b) = lab b := fun b hb => by
    have := lt b hb
    rw [if_neg (by omega), if_neg (by omega), if_neg (by omega)]
    by_cases e : b = g
    · rw [if_pos e]
      rcases hg with e2 | e2
      · rw [e]; exact (h.la g e2).symm
      · omega
    · rw [if_neg e]
  have hL0 : ∀ b, b < wr.heap.size → lab b = 0 → (if b = r then 10 + 3 * j else if b = wv then 11 + 3 * j else if b = vv then 12 + 3 * j else if b = g then 1 else lab b) = 0 := fun b hb h0 => by
    rw [if_neg (by omega), if_neg (by omega), if_neg (by omega), if_neg ?_, h0]
    intro e
    rcases hg with e2 | e2
    · have := h.la g e2; rw [← e, h0] at this; cases this
    · omega
  refine ⟨?_, ?_, ?_, kp h.b1 (by rw [h.l1]; decide) (nn _ (by rw [h.l1]; decide)), kp h.bW (by rw [h.lW]; decide) (nn _ (by rw [h.lW]; decide)), kp h.b2 (by rw [h.l2]; decide) (nn _ (by rw [h.l2]; decide)), kp h.bC (by rw [h.lC]; decide) (nn _ (by rw [h.lC]; decide)),
    fun i hi => ?_, (hL gW (by rw [h.lW]; decide)).trans h.lW, (hL gC (by rw [h.lC]; decide)).trans h.lC, (hL g1 (by rw [h.l1]; decide)).trans h.l1, (hL g2 (by rw [h.l2]; decide)).trans h.l2, hL0 nb hnb h.l0, hL0 _ h.bZ.lt h.lz,
    fun g' hg' => ?_, fun b hb => ?_, fun b hb => ?_, h.gn, ?_⟩
  · have e : (List.range (j + 1)).flatMap (st0 (fun i => if i = j then r else rd i) (fun i => if i = j then wv else wb i) (fun i => if i = j then vv else vb i)) = (List.range j).flatMap (st0 rd wb vb) ++ [.bool false, .bool false, .bool false, .int .i64 0, .slice (some ⟨r, 0, none⟩) 16 16, .slice (some ⟨wv, 0, none⟩) 16 16, .slice (some ⟨vv, 0, none⟩) 16 16, .int .i64 0, .int .i64 0] := by
      rw [List.range_succ, List.flatMap_append]
      congr 1
      · refine flat_congr _ _ _ fun i hi => ?_
        have := List.mem_range.1 hi
        unfold st0
        dsimp only
        rw [if_neg (by omega), if_neg (by omega), if_neg (by omega)]
      · simp [st0]
    rw [e]
    exact C0.ownsRow hrow (fun k hk e => by simp [Value.ownBlock] at hk; exact gnb (hk.trans e))
  · have hb2 := hC.blk h.bR (fb nb (by rw [h.l0]; decide))
    exact hb2.setL 0 _ (by simp)
  · exact kp h.bZ (by rw [h.lz]; decide) nz
  · by_cases e : i = j
    · subst e
      simp only [if_true]
      have k1 := C0.blk br (show ¬ r = nb by omega)
      have k2 := C0.blk bw (show ¬ wv = nb by omega)
      have k3 := C0.blk bv (show ¬ vv = nb by omega)
      refine ⟨k1, k2, k3, trivial, ?_, ?_⟩
      · rw [if_neg (fun e => n1 e.symm)]
      · rw [if_neg (fun e => n2 e.symm), if_neg (fun e => n3 e.symm)]
    · simp only [if_neg e]
      obtain ⟨k1, k2, k3, k4, k5, k6⟩ := h.each i (by omega)
      exact ⟨kp k1 (by rw [k4]; omega) (nn _ (by rw [k4]; omega)), kp k2 (by rw [k5]; omega) (nn _ (by rw [k5]; omega)), kp k3 (by rw [k6]; omega) (nn _ (by rw [k6]; omega)),
        (hL (rd i) (by rw [k4]; omega)).trans k4, (hL (wb i) (by rw [k5]; omega)).trans k5, (hL (vb i) (by rw [k6]; omega)).trans k6⟩
  · simp [Value.ownBlock] at hg'
    subst hg'
    have : ¬ g = r ∧ ¬ g = wv ∧ ¬ g = vv := by
      rcases hg with e2 | e2
      · have := lt g (by rw [h.la g e2]; decide)
        omega
      · omega
    show (if g = r then _ else if g = wv then _ else if g = vv then _ else if g = g then 1 else _) = 1
    rw [if_neg this.1, if_neg this.2.1, if_neg this.2.2, if_pos rfl]
  · have hs : (w6.setCell ⟨nb, 0, none⟩ (.slice (some ⟨g, 0, none⟩) (j + 1) cap)).heap.size = w6.heap.size := by simp [World.setCell]
    rw [hs] at hb
    have q1 := br.lt; have q2 := bw.lt; have q3 := bv.lt
    show (if b = r then _ else if b = wv then _ else if b = vv then _ else if b = g then 1 else lab b) = 0
    rw [if_neg (by omega), if_neg (by omega), if_neg (by omega), if_neg (by omega)]
    exact h.hi b (by omega)
  · change (if b = r then _ else if b = wv then _ else if b = vv then _ else if b = g then 1 else lab b) ≠ 0 at hb
    by_cases e1 : b = r
    · omega
    · by_cases e2 : b = wv
      · omega
      · by_cases e3 : b = vv
        · omega
        · rw [if_neg e1, if_neg e2, if_neg e3] at hb
          by_cases e4 : b = g
          · rcases hg with e5 | e5
            · exact h.new b (by rw [e4, h.la g e5]; decide)
            · omega
          · rw [if_neg e4] at hb
            exact h.new b hb
  · have hwl : ∀ i, i < w.heap.size → ¬ va.ownBlock = some i := fun i hi e => by
      have := h.new i (by rw [h.la i e]; decide)
      omega
    have hnw := h.gn
    exact (h.chg.then hC (fun i hi e => hwl i hi e)).then C0 (fun i hi e => by omega)
/-- Behind the first region of start. -/
def StartR (w : World) (a : Act) (W : World) : Prop :=
  ∃ nb g1 gW g2 gC : Nat, a = ⟨#[.pointer (some ⟨w.heap.size, 0, none⟩), .pointer (some ⟨nb, 0, none⟩), undef, .slice (some ⟨g1, 0, none⟩) 16 16, .slice (some ⟨gW, 0, none⟩) 1 1, .slice (some ⟨g2, 0, none⟩) 16 16, .slice (some ⟨gC, 0, none⟩) 1 1,
      .agg #[.slice none 0 0, .slice (some ⟨gW, 0, none⟩) 1 1, .slice (some ⟨gC, 0, none⟩) 1 1, .int .i64 0], undef, undef, undef, undef, undef, undef, undef, undef, undef, undef, undef, undef, undef, undef], []⟩ ∧
    Blk W nb 79 4 (nth [.slice none 0 0, .slice (some ⟨gW, 0, none⟩) 1 1, .slice (some ⟨gC, 0, none⟩) 1 1, .int .i64 0]) ∧ Blk W w.heap.size 79 4 (nth [.slice none 0 0, .slice none 0 0, .slice none 0 0, .int .i64 0]) ∧
    Blk W g1 3 16 fI ∧ Blk W gW 28 1 (nth [.slice (some ⟨g1, 0, none⟩) 16 16]) ∧ Blk W g2 4 16 fB ∧ Blk W gC 91 1 (nth [.slice (some ⟨g2, 0, none⟩) 16 16]) ∧ New w W ∧
    (w.heap.size < nb ∧ w.heap.size < g1 ∧ w.heap.size < gW ∧ w.heap.size < g2 ∧ w.heap.size < gC) ∧
    (nb ≠ g1 ∧ nb ≠ gW ∧ nb ≠ g2 ∧ nb ≠ gC) ∧ (g1 ≠ gW ∧ g1 ≠ g2 ∧ g1 ≠ gC) ∧ (gW ≠ g2 ∧ gW ≠ gC) ∧ g2 ≠ gC
theorem SInv.start {w W : World} {nb g1 gW g2 gC : Nat} (hR : Blk W nb 79 4 (nth [.slice none 0 0, .slice (some ⟨gW, 0, none⟩) 1 1, .slice (some ⟨gC, 0, none⟩) 1 1, .int .i64 0])) (hZ : Blk W w.heap.size 79 4 (nth [.slice none 0 0, .slice none 0 0, .slice none 0 0, .int .i64 0]))
    (h1 : Blk W g1 3 16 fI) (hW : Blk W gW 28 1 (nth [.slice (some ⟨g1, 0, none⟩) 16 16])) (h2 : Blk W g2 4 16 fB) (hC : Blk W gC 91 1 (nth [.slice (some ⟨g2, 0, none⟩) 16 16])) (hN : New w W)
    (hl : w.heap.size < nb ∧ w.heap.size < g1 ∧ w.heap.size < gW ∧ w.heap.size < g2 ∧ w.heap.size < gC) (d1 : nb ≠ g1 ∧ nb ≠ gW ∧ nb ≠ g2 ∧ nb ≠ gC) (d2 : g1 ≠ gW ∧ g1 ≠ g2 ∧ g1 ≠ gC) (d3 : gW ≠ g2 ∧ gW ≠ gC) (d4 : g2 ≠ gC) :
    SInv w W nb g1 gW g2 gC 0 (.slice none 0 0) (fun _ => 0) (fun _ => 0) (fun _ => 0) (fun b => if b = gW then 2 else if b = gC then 3 else if b = g1 then 4 else if b = g2 then 5 else 0) := by
  obtain ⟨q1, q2, q3, q4, q5⟩ := hl
  obtain ⟨a1, a2, a3, a4⟩ := d1
  obtain ⟨b1, b2, b3⟩ := d2
  obtain ⟨c1, c2⟩ := d3
  have z1 := h1.lt; have z2 := hW.lt; have z3 := h2.lt; have z4 := hC.lt
  refine ⟨World.ownsRow_nil _ _ _ _, hR, hZ, h1, hW, h2, hC, fun i hi => by omega, if_pos rfl, ?_, ?_, ?_, ?_, ?_, fun g hg => by simp [Value.ownBlock] at hg, fun b hb => ?_, fun b hb => ?_, by omega, hN⟩
  · show (if gC = gW then 2 else if gC = gC then 3 else _) = 3
    rw [if_neg (fun e => c2 e.symm), if_pos rfl]
  · show (if g1 = gW then 2 else if g1 = gC then 3 else if g1 = g1 then 4 else _) = 4
    rw [if_neg b1, if_neg b3, if_pos rfl]
  · show (if g2 = gW then 2 else if g2 = gC then 3 else if g2 = g1 then 4 else if g2 = g2 then 5 else 0) = 5
    rw [if_neg (fun e => c1 e.symm), if_neg d4, if_neg (fun e => b2 e.symm), if_pos rfl]
  · show (if nb = gW then 2 else if nb = gC then 3 else if nb = g1 then 4 else if nb = g2 then 5 else 0) = 0
    rw [if_neg a2, if_neg a4, if_neg a1, if_neg a3]
  · show (if w.heap.size = gW then 2 else if w.heap.size = gC then 3 else if w.heap.size = g1 then 4 else if w.heap.size = g2 then 5 else 0) = 0
    rw [if_neg (by omega), if_neg (by omega), if_neg (by omega), if_neg (by omega)]
  · show (if b = gW then 2 else if b = gC then 3 else if b = g1 then 4 else if b = g2 then 5 else 0) = 0
    rw [if_neg (by omega), if_neg (by omega), if_neg (by omega), if_neg (by omega)]
  · change (if b = gW then 2 else if b = gC then 3 else if b = g1 then 4 else if b = g2 then 5 else 0) ≠ 0 at hb
    by_cases e1 : b = gW
    · omega
    · by_cases e2 : b = gC
      · omega
      · by_cases e3 : b = g1
        · omega
        · by_cases e4 : b = g2
          · omega
          · rw [if_neg e1, if_neg e2, if_neg e3, if_neg e4] at hb
            exact absurd rfl hb
/-- All states are there: the reference's state at the beginning. -/
theorem SInv.rep {w wr : World} {nb g1 gW g2 gC ga ca : Nat} {rd wb vb lab : Nat → Nat} (h : SInv w wr nb g1 gW g2 gC 16 (.slice (some ⟨ga, 0, none⟩) 16 ca) rd wb vb lab) :
    RRep wr ⟨ga, ca, gW, 1, gC, 1, rd, wb, vb, [(g1, 16)], [(g2, 16)], lab⟩ XS.zero := by
  have e1 : ∀ (l : List (Nat × Nat)) (p : Nat × Nat) (i g c : Nat), l = [p] → l[i]? = some (g, c) → i = 0 ∧ (g, c) = p := fun l p i g c hl hi => by
    subst hl
    rcases Nat.eq_zero_or_pos i with h0 | h0
    · subst h0; simp at hi; exact ⟨rfl, hi.symm⟩
    · have := (List.getElem?_eq_some_iff.1 hi).1
      simp at this; omega
  refine ⟨h.la _ rfl, h.lW, h.lC, fun t ht => (h.each t ht).2.2.2.1, fun t ht => (h.each t ht).2.2.2.2.1, fun t ht => (h.each t ht).2.2.2.2.2, fun i g c hg => ?_, fun i g c hg => ?_, h.hi, fun t j ht hj => ?_, fun i => row_free h.row i,
    fun t k ht hk => (h.each t ht).1.cell hk, fun t k ht => (h.each t ht).1.free k, fun t k ht hk => ?_, fun t k ht => (h.each t ht).2.1.free k, fun t k ht hk => ?_, fun t k ht => (h.each t ht).2.2.1.free k, h.bW.row rfl (by decide), h.bC.row rfl (by decide), rfl, rfl,
    fun i g c hg k hk => ?_, fun i g c hg k hk => ?_⟩
  · obtain ⟨_, e⟩ := e1 _ _ i g c rfl hg
    cases e; exact h.l1
  · obtain ⟨_, e⟩ := e1 _ _ i g c rfl hg
    cases e; exact .inl h.l2
  · show wr.cell? ⟨ga, t * 9 + j, none⟩ = _
    rw [World.ownsRow.cellAt (h := h.row) (t * 9 + j) (by omega)]
    have h2 := flatMap_at (st0 rd wb vb) 9 (fun _ => rfl) (List.range 16) t j 0 (by simpa using ht) hj
    have h3 : (List.range 16).getD t 0 = t := by rw [List.getD_eq_getElem?_getD]; simp [ht]
    rw [h3] at h2
    rw [h2]
    have : j = 0 ∨ j = 1 ∨ j = 2 ∨ j = 3 ∨ j = 4 ∨ j = 5 ∨ j = 6 ∨ j = 7 ∨ j = 8 := by omega
    rcases this with rfl | rfl | rfl | rfl | rfl | rfl | rfl | rfl | rfl <;> rfl
  · exact (h.each t ht).2.1.cell hk
  · exact (h.each t ht).2.2.1.cell hk
  · obtain ⟨e0, e⟩ := e1 _ _ i g c rfl hg
    cases e; subst e0
    exact h.b1.cell hk
  · obtain ⟨e0, e⟩ := e1 _ _ i g c rfl hg
    cases e; subst e0
    exact h.b2.cell hk
theorem Try.info93z : (Try.prog.info? 93).map (fun i => (i.zero, i.size, i.bytes)) = some (some (.agg #[.bool false, .bool false, .bool false, .int .i64 0, .slice none 0 0, .slice none 0 0, .slice none 0 0, .int .i64 0, .int .i64 0]), 9, 104) := by kernel_rfl
set_option maxRecDepth 100000 in
set_option maxHeartbeats 16000000 in
theorem start_any (w : World) : Calls Try.prog 50 #[] w fun e w' => ∃ P', e = .returned (runV P' XS.zero) ∧ RRep w' P' XS.zero ∧ New w w' ∧ ∀ b, P'.lab b ≠ 0 → w.heap.size ≤ b := by
  have hm1 := make28
  have hm2 := make91
  go_enter Try.func50, Try.ntmps50
  go_upto_region 1 with fail
  apply wp_only (StartR w)
  case h1 =>
    go_region_law (fail)
    all_goals
      refine ⟨_, _, _, _, _, rfl, ?_, ?_, ?_, ?_, ?_, ?_, ?_, ?_⟩
      · (refine Blk.drew ?_; repeat (first | (refine atL _ _ _ ?_ rfl; (first | rfl | (simp only [World.size_alloc]; done))) | refine Blk.alloc ?_ _))
      · (refine Blk.drew ?_; repeat (first | (refine atL _ _ _ ?_ rfl; (first | rfl | (simp only [World.size_alloc]; done))) | refine Blk.alloc ?_ _))
      · (refine Blk.drew ?_; repeat (first | (refine atZi _ ?_; (first | rfl | (simp only [World.size_alloc]; done))) | refine Blk.alloc ?_ _))
      · (refine Blk.drew ?_; repeat (first | (refine atL _ _ _ ?_ rfl; (first | rfl | (simp only [World.size_alloc]; done))) | refine Blk.alloc ?_ _))
      · (refine Blk.drew ?_; repeat (first | (refine atZb _ ?_; (first | rfl | (simp only [World.size_alloc]; done))) | refine Blk.alloc ?_ _))
      · (refine Blk.drew ?_; repeat (first | (refine atL _ _ _ ?_ rfl; (first | rfl | (simp only [World.size_alloc]; done))) | refine Blk.alloc ?_ _))
      · (refine Chg.drew ?_; repeat (first | exact Chg.refl _ _ | refine Chg.alloc ?_ _))
      · omega
  rintro A W ⟨nb, g1, gW, g2, gC, rfl, hR, hZ, h1, hW, h2, hC, hN, hl, d1, d2, d3, d4⟩
  have HS := Lib.hid (SInv.start hR hZ h1 hW h2 hC hN hl d1 d2 d3 d4)
  clear hR hZ h1 hW h2 hC hN hl d1 d2 d3 d4
  generalize (fun b => if b = gW then 2 else if b = gC then 3 else if b = g1 then 4 else if b = g2 then 5 else 0 : Nat → Nat) = lab0 at HS
  obtain ⟨i9, hi9, hz90, hz91, hz92⟩ := info_parts Try.info93z
  have HI9 := Lib.hid hi9; have HZ90 := Lib.hid hz90; have HZ91 := Lib.hid hz91; have HZ92 := Lib.hid hz92
  clear hi9 hz90 hz91 hz92
  go_wp2_with fail
  go_loopw [2] (fun v wr => ∃ j : Nat, j ≤ 16 ∧ v = .int .i64 j ∧ ∃ va rd wb vb lab, SInv w wr nb g1 gW g2 gC j va rd wb vb lab) (fun v _ => 16 - (intOf v).toNat)
  case atStart => exact ⟨0, by omega, rfl, _, _, _, _, _, HS.out⟩
  case round =>
    obtain ⟨j, hj, rfl, va, rd, wb, vb, lab, hS⟩ := hrel
    have HS2 := Lib.hid hS
    clear hS
    by_cases hlt : j < 16
    · have b3 : (0 : Int) ≤ (j : Int) := by omega
      have b4 : (j : Int) < 16 := by omega
      have c0 : wr.cell? ⟨nb, 0, none⟩ = some va := HS2.out.bR.cell (by decide)
      have cf : wr.frozen? ⟨nb, 0, none⟩ = false := HS2.out.bR.free 0
      obtain ⟨aa, ac, rfl⟩ := row_shape HS2.out.row
      have hnbl : nb < wr.heap.size := HS2.out.bR.lt
      have HROW := Lib.hid HS2.out.row
      have hnbv : ∀ g, (Value.slice aa j ac).ownBlock = some g → g ≠ nb := fun g hg e => by
        have h1 := HS2.out.la g hg
        rw [e, HS2.out.l0] at h1
        cases h1
      have HNBV := Lib.hid hnbv
      have HBR := Lib.hid HS2.out.bR
      have HOLD := Lib.hid (fun g (hg : (Value.slice aa j ac).ownBlock = some g) => (HS2.out.row.lt g hg).2)
      clear hnbv
      go_upto_region 5 with fail
      have e1 : ∀ o, (wr.alloc o).cell? ⟨nb, 0, none⟩ = some (.slice aa j ac) := fun o => (HS2.out.bR.alloc o).cell (by decide)
      have e2 : ∀ o p, ((wr.alloc o).alloc p).cell? ⟨nb, 0, none⟩ = some (.slice aa j ac) := fun o p => ((HS2.out.bR.alloc o).alloc p).cell (by decide)
      have e3 : ∀ o p q, (((wr.alloc o).alloc p).alloc q).cell? ⟨nb, 0, none⟩ = some (.slice aa j ac) := fun o p q => (((HS2.out.bR.alloc o).alloc p).alloc q).cell (by decide)
      have e4 : ∀ o p q r, ((((wr.alloc o).alloc p).alloc q).alloc r).cell? ⟨nb, 0, none⟩ = some (.slice aa j ac) := fun o p q r => ((((HS2.out.bR.alloc o).alloc p).alloc q).alloc r).cell (by decide)
      generalize hsz : wr.heap.size = sz at *
      go_region_law (first
        | (refine step_append_new rfl _ _ 75 rfl 93 i9 _ 9 104 Try.underlying75 HI9.out HZ90.out HZ91.out HZ92.out rfl (by decide) (.slice aa j ac) j ((List.range j).flatMap (st0 rd wb vb)) rfl ?_ (sz + 1 + 1 + 1) ?_ rfl ?_ ?_ (by unfold maxLen; omega) (by omega) ?_
           · repeat (first | exact HROW.out | refine World.ownsRow.alloc ?_ _ | refine World.ownsRow.drew ?_)
           · simp [World.size_alloc, hsz]
           · rfl
           · simp [Value.oneCell']
           intro g6 cap6 w6 hown6 hC6 hat6 hlt6
           have hCw : Chg (fun k => (Value.slice aa j ac).ownBlock = some k) wr w6 := Chg.trans (by repeat (first | exact Chg.refl _ _ | refine Chg.alloc ?_ _ | refine Chg.drew ?_)) hC6
           have hBR6 := hCw.blk HBR.out (fun e => HNBV.out _ e rfl)
           have c06 : w6.cell? ⟨nb, 0, none⟩ = some (.slice aa j ac) := hBR6.cell (by decide)
           have cf6 : w6.frozen? ⟨nb, 0, none⟩ = false := hBR6.free 0
           (first
             | (refine cut_ (p := Blk w6 sz 4 16 fB) ?_ (fun hb0 => ?_)
                · refine hC6.blk ?_ (fun e => absurd (HOLD.out _ e) (by omega))
                  repeat (first | (refine atZb _ ?_; simp [hsz]; done) | refine Blk.alloc ?_ _)
                  done
                skip)
             | (refine cut_ (p := Blk w6 sz 3 16 fI) ?_ (fun hb0 => ?_)
                · refine hC6.blk ?_ (fun e => absurd (HOLD.out _ e) (by omega))
                  repeat (first | (refine atZi _ ?_; simp [hsz]; done) | refine Blk.alloc ?_ _)
                  done
                skip))
           (first
             | (refine cut_ (p := Blk w6 (sz + 1) 4 16 fB) ?_ (fun hb1 => ?_)
                · refine hC6.blk ?_ (fun e => absurd (HOLD.out _ e) (by omega))
                  repeat (first | (refine atZb _ ?_; simp [hsz]; done) | refine Blk.alloc ?_ _)
                  done
                skip)
             | (refine cut_ (p := Blk w6 (sz + 1) 3 16 fI) ?_ (fun hb1 => ?_)
                · refine hC6.blk ?_ (fun e => absurd (HOLD.out _ e) (by omega))
                  repeat (first | (refine atZi _ ?_; simp [hsz]; done) | refine Blk.alloc ?_ _)
                  done
                skip))
           (first
             | (refine cut_ (p := Blk w6 (sz + 1 + 1) 4 16 fB) ?_ (fun hb2 => ?_)
                · refine hC6.blk ?_ (fun e => absurd (HOLD.out _ e) (by omega))
                  repeat (first | (refine atZb _ ?_; simp [hsz]; done) | refine Blk.alloc ?_ _)
                  done
                skip)
             | (refine cut_ (p := Blk w6 (sz + 1 + 1) 3 16 fI) ?_ (fun hb2 => ?_)
                · refine hC6.blk ?_ (fun e => absurd (HOLD.out _ e) (by omega))
                  repeat (first | (refine atZi _ ?_; simp [hsz]; done) | refine Blk.alloc ?_ _)
                  done
                skip))
           have HB0 := Lib.hid hb0; have HB1 := Lib.hid hb1; have HB2 := Lib.hid hb2; have HOW6 := Lib.hid hown6; have HCW := Lib.hid hCw; have HAT := Lib.hid hat6
           clear hb0 hb1 hb2 hown6 hCw hat6 hBR6 hC6))
      all_goals
        have hN := SInv.next HS2.out HOW6.out HCW.out (by first | exact HB0.out | exact HB1.out | exact HB2.out) (by first | exact HB0.out | exact HB1.out | exact HB2.out) (by first | exact HB0.out | exact HB1.out | exact HB2.out) (by rw [hsz]; exact HAT.out) hlt6 (by rw [hsz]; omega) (by rw [hsz]; omega) (by rw [hsz]; omega) (by omega) (by omega) (by omega)
        have HNX := Lib.hid hN
        clear hN HB0 HB1 HB2 HOW6 HCW HAT c06 cf6 e1 e2 e3 e4 c0 cf
        go_wp2_with fail
        exact ⟨⟨j + 1, by omega, by go_num, HNX.out⟩, by simp [intOf]; omega⟩
    · obtain rfl : j = 16 := by omega
      obtain ⟨ga, ca, rfl, _⟩ := HS2.out.row.form (by decide)
      have r0 : wr.cell? ⟨nb, 0, none⟩ = some (.slice (some ⟨ga, 0, none⟩) 16 ca) := HS2.out.bR.cell (by decide)
      have r1 : wr.cell? ⟨nb, 1, none⟩ = some (.slice (some ⟨gW, 0, none⟩) 1 1) := HS2.out.bR.cell (by decide)
      have r2 : wr.cell? ⟨nb, 2, none⟩ = some (.slice (some ⟨gC, 0, none⟩) 1 1) := HS2.out.bR.cell (by decide)
      have r3 : wr.cell? ⟨nb, 3, none⟩ = some (.int .i64 0) := HS2.out.bR.cell (by decide)
      go_wp2_with (refine wpList_storeN 79 4 Try.info79s _ rfl _ _ rfl w.heap.size 0 _ rfl rfl rfl (by simp [Value.oneCell']) (fun j hj => by rw [show wr.cell? ⟨w.heap.size, 0 + j, none⟩ = _ from HS2.out.bZ.cell (by omega)]; rfl) (fun i => HS2.out.bZ.free i) ?_; intro w7 hC7 hin7 _ _; have HC7 := Lib.hid hC7; have HI7 := Lib.hid hin7; clear hC7 hin7)
      refine bodyPost_ret (results79one rfl rfl (HI7.out 0 _ rfl) (HI7.out 1 _ rfl) (HI7.out 2 _ rfl) (HI7.out 3 _ rfl)) rfl ?_
      refine ⟨⟨ga, ca, gW, 1, gC, 1, rd, wb, vb, [(g1, 16)], [(g2, 16)], lab⟩, rfl, HS2.out.rep.kept HC7.out (fun b hb e => hb (by rw [e]; exact HS2.out.lz)), HS2.out.chg.then HC7.out (fun i hi e => by omega), HS2.out.new⟩
end Go.Proofs.Yteaeflmglppcdaa
