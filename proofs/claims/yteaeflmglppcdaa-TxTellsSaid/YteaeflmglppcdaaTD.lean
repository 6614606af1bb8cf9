/- The reference: the readers of an instant, the serial order. -/
import Derived.Test.YteaeflmglppcdaaTC
import Derived.Maps.AppendAt
namespace Go.Proofs.Yteaeflmglppcdaa
open Go.RowKit Tx

theorem flat_len {f : Nat → List Int} {c : Nat} : ∀ {n : Nat}, (∀ i, i < n → (f i).length ≤ c) → ((List.range n).flatMap f).length ≤ n * c := by
  intro n
  induction n with
  | zero => intro _; simp
  | succ n ih =>
    intro h
    rw [List.range_succ, List.flatMap_append, List.length_append]
    simp only [List.flatMap_cons, List.flatMap_nil, List.append_nil]
    have h1 := ih (fun i hi => h i (by omega))
    have h2 := h n (by omega)
    rw [Nat.add_mul]
    omega
theorem ite_len (b : Bool) (x : Int) : (if b then [x] else []).length ≤ 1 := by cases b <;> simp
theorem flat_succ {f : Nat → List Int} (n : Nat) : (List.range (n + 1)).flatMap f = (List.range n).flatMap f ++ f n := by
  rw [List.range_succ, List.flatMap_append]
  simp
def qSel (X : XS) (n i t : Nat) : List Int := if (X.st.txs t).comm && X.made t == 0 && X.turn t == n && (X.st.txs t).inst == i then [(t : Int)] else []
theorem xquiet_eq (X : XS) (i : Nat) : xquiet X i = (List.range X.commits).flatMap fun n => (List.range 16).flatMap (qSel X n i) := rfl
theorem qSel_len (X : XS) (n i t : Nat) : (qSel X n i t).length ≤ 1 := ite_len _ _
theorem intRow_append (a b : List Int) : intRow (a ++ b) = intRow a ++ intRow b := by simp [intRow]
/-- Two rows of numbers of the call's own, one behind the other. -/
theorem run_append_ints (w : World) (ty : TypeId) {v v2 : Value} {n m : Nat} {xs news : List Value} (h : w.ownsRow 0 3 1 v n xs) (h2 : w.ownsRow 0 3 1 v2 m news) (h1 : ∀ u ∈ news, u.oneCell' = true) (hb : n + m ≤ 100000000) :
    ∃ v' w', (Builtin.append_ #[28, 28] ty #[v, v2]).run Try.prog w = .ok v' w' ∧ w'.ownsRow 0 3 1 v' (n + m) (xs ++ news) ∧ w.grownBy w' v.ownBlock ∧ (v'.ownBlock = v.ownBlock ∨ v'.ownBlock = some w.heap.size) := by
  obtain ⟨i0, hi0, hz0, hz1, hz2⟩ := info_parts Try.info3
  rcases h2.2 with ⟨rfl, rfl⟩ | ⟨g, cap, cur, rfl, _, hg, hnc, hcm, hcs, ht⟩
  · have hnl : news = [] := List.eq_nil_of_length_eq_zero (by simpa using h2.1)
    subst hnl
    exact ⟨v, w, run_append_owned_none w 0 28 ty 3 i0 1 Try.underlying28 hi0 v n xs h, by simpa using h, World.grownBy.refl _ _, .inl rfl⟩
  · obtain ⟨v', w', hr, ho, hgr, _, hat⟩ := run_append_own_at (P := Try.prog) w 0 28 ty 3 i0 (.int .i64 0) 1 8 Try.underlying28 hi0 hz0 hz1 hz2 rfl (by decide) v n xs h ⟨g, 0, none⟩ m cap news h2.1 (fun j u hu => by
      have ha0 : (⟨g, 0, none⟩ : Addr).add j = ⟨g, j, none⟩ := by
        cases j with
        | zero => rfl
        | succ k => simp [Addr.add]
      rw [ha0, cell_of_row w g j cur 3 _ hg]
      rw [← ht, List.getElem?_take] at hu
      split at hu
      · simpa using hu
      · cases hu) h1 (by unfold maxLen; omega) (by omega) (Nat.zero_le _)
    exact ⟨v', w', hr, ho, hgr, hat⟩
theorem wpList_append_ints {w : World} {ops : Array Oper} {rest : List Oper} {o : Oper} {a : Act} {Q : Exit → Act → World → Prop} (hgd : o.guard = none) (s x : Operand)
    (ho : o.op = .call { callee := .builtin .append, args := #[s, x], argTypes := #[28, 28] }) {v v2 : Value} {n m : Nat} {xs news : List Value} (hs : a.eval s = v) (hx : a.eval x = v2)
    (h : w.ownsRow 0 3 1 v n xs) (h2 : w.ownsRow 0 3 1 v2 m news) (h1 : ∀ u ∈ news, u.oneCell' = true) (hb : n + m ≤ 100000000)
    (hK : ∀ v' w', w'.ownsRow 0 3 1 v' (n + m) (xs ++ news) → w.grownBy w' v.ownBlock → (v'.ownBlock = v.ownBlock ∨ v'.ownBlock = some w.heap.size) → wpList Try.prog ops Q rest (a.put o.dst v') w') : wpList Try.prog ops Q (o :: rest) a w :=
  wpList_plain hgd fun _ hK' => by
    obtain ⟨v', w', hr, h3, h4, h5⟩ := run_append_ints w o.type h h2 h1 hb
    unfold Oper.wp execOp
    simp only [ho, resolve, invoke, builtin, Sem.run_bind, Sem.run_pure, Result.andThen_ok, List.map_toArray, List.map_cons, List.map_nil, hs, hx, hr]
    exact hK' _ _ (hK v' w' h3 h4 h5)
theorem oneCell_ints (l : List Int) : ∀ u ∈ intRow l, u.oneCell' = true := by
  intro u hu
  simp only [intRow, List.mem_map] at hu
  obtain ⟨_, _, rfl⟩ := hu
  rfl
/-- A row of numbers of the call's own. -/
structure Mine (w wr : World) (v : Value) (l : List Int) : Prop where
  new : New w wr
  row : wr.ownsRow 0 3 1 v l.length (intRow l)
  own : ∀ g, v.ownBlock = some g → w.heap.size ≤ g
theorem Mine.more {w wr w' : World} {v : Value} {l : List Int} (h : Mine w wr v l) (hN : New wr w') : Mine w w' v l := ⟨h.new.trans hN, hN.ownsRow h.row (fun _ _ x => x), h.own⟩
/-- A number is put behind it. -/
theorem Mine.snoc {w wr w' : World} {v : Value} {l : List Int} {x : Int} {g cap : Nat} (h : Mine w wr v l) (hrow : w'.ownsRow 0 3 1 (.slice (some ⟨g, 0, none⟩) (l.length + 1) cap) (l.length + 1) (intRow l ++ [.int .i64 x]))
    (hg : (wr.alloc (.cells #[.int .i64 x] 3)).grownBy w' v.ownBlock) (hat : v.ownBlock = some g ∨ g = (wr.alloc (.cells #[.int .i64 x] 3)).heap.size) : Mine w w' (.slice (some ⟨g, 0, none⟩) (l.length + 1) cap) (l ++ [x]) := by
  have hC : Chg (fun k => v.ownBlock = some k) wr w' := ((Chg.refl _ wr).alloc _).grown hg (fun k hk _ => hk)
  refine ⟨h.new.then hC (fun i hi e => by have := h.own i e; omega), ?_, fun k hk => ?_⟩
  · rw [intRow_append, List.length_append]
    exact hrow
  · simp [Value.ownBlock] at hk
    subst hk
    rcases hat with e | e
    · exact h.own g e
    · rw [e, World.size_alloc]
      have := h.new.size
      omega
section
variable {w : World} {P : RP} {X : XS}
set_option maxRecDepth 100000 in
set_option maxHeartbeats 2000000 in
theorem quiet_any (hR : RRep w P X) (i : Nat) (hcm : X.commits ≤ 1000) :
    Calls Try.prog 44 #[.agg #[.slice (some ⟨P.ga, 0, none⟩) 16 P.ca, .slice (some ⟨P.gW, 0, none⟩) X.st.insts.length P.cW, .slice (some ⟨P.gC, 0, none⟩) X.st.insts.length P.cC, .int .i64 X.commits], .int .i64 i] w fun e w' => ∃ v, e = .returned v ∧ Mine w w' v (xquiet X i) := by
  have hcm2 : (X.commits : Int) ≤ 1000 := by omega
  have HR := Lib.hid hR
  clear hR
  go_enter Try.func44, Try.ntmps44
  go_wp2_with fail
  have hB := Blk.ofL w [.slice (some ⟨P.ga, 0, none⟩) 16 P.ca, .slice (some ⟨P.gW, 0, none⟩) X.st.insts.length P.cW, .slice (some ⟨P.gC, 0, none⟩) X.st.insts.length P.cC, .int .i64 X.commits] 79
  have hN1 : New w (w.alloc (.cells #[.slice (some ⟨P.ga, 0, none⟩) 16 P.ca, .slice (some ⟨P.gW, 0, none⟩) X.st.insts.length P.cW, .slice (some ⟨P.gC, 0, none⟩) X.st.insts.length P.cC, .int .i64 X.commits] 79)) := (Chg.refl _ w).alloc _
  have HB := Lib.hid hB; have HN1 := Lib.hid hN1
  clear hB hN1
  generalize w.alloc _ = w1 at *
  generalize hnr : w.heap.size = nr at *
  obtain ⟨i3, hi3, hz30, hz31, hz32⟩ := info_parts Try.info3
  have HI3 := Lib.hid hi3; have HZ30 := Lib.hid hz30; have HZ31 := Lib.hid hz31; have HZ32 := Lib.hid hz32
  clear hi3 hz30 hz31 hz32
  go_loopw [5, 6] (fun v5 v wr => ∃ n : Nat, n ≤ X.commits ∧ v = .int .i64 n ∧ Mine w1 wr v5 ((List.range n).flatMap fun n => (List.range 16).flatMap (qSel X n i))) (fun _ v _ => X.commits - (intOf v).toNat)
  case atStart => exact ⟨0, by omega, rfl, Chg.refl _ _, World.ownsRow_nil _ _ _ _, fun g hg => by simp [Value.ownBlock] at hg⟩
  case round =>
    obtain ⟨n, hn, rfl, hM⟩ := hrel
    have hN := hM.new
    have HN := Lib.hid hN; have HM := Lib.hid hM
    have r3 : wr.cell? ⟨nr, 3, none⟩ = some (.int .i64 X.commits) := (HB.out.chg hN (fun h => h)).cell (by simp)
    clear hN hM
    by_cases hlt : n < X.commits
    · have b4 : (n : Int) < (X.commits : Int) := by omega
      go_wp2_with fail
      clear r3
      go_loopw [5, 7] (fun v5 v wt => ∃ t : Nat, t ≤ 16 ∧ v = .int .i64 t ∧ Mine w1 wt v5 (((List.range n).flatMap fun n => (List.range 16).flatMap (qSel X n i)) ++ (List.range t).flatMap (qSel X n i))) (fun _ v _ => 16 - (intOf v).toNat)
      case atStart => exact ⟨0, by omega, rfl, by simpa using HM.out⟩
      case round =>
        obtain ⟨t, ht, rfl, hM2⟩ := hrel
        have hN2 := hM2.new
        by_cases ht16 : t < 16
        · have b0 : (0 : Int) ≤ (t : Int) := by omega
          have b1 : (t : Int) < 16 := by omega
          have hRr := HR.out.new (HN1.out.trans hN2)
          have r0 : wr.cell? ⟨nr, 0, none⟩ = some (.slice (some ⟨P.ga, 0, none⟩) 16 P.ca) := (HB.out.chg hN2 (fun h => h)).cell (by simp)
          obtain ⟨a0, a1, a2, a3, a4, a5, a6, a7, a8⟩ := hRr.st9 ht16
          have hN3 := hN2.alloc (.cells #[.bool (X.st.txs t).begun, .bool (X.st.txs t).over, .bool (X.st.txs t).comm, .int .i64 (X.st.txs t).inst, .slice (some ⟨P.rd t, 0, none⟩) 16 16, .slice (some ⟨P.wb t, 0, none⟩) 16 16, .slice (some ⟨P.vb t, 0, none⟩) 16 16, .int .i64 (X.made t), .int .i64 (X.turn t)] 93)
          have hM3 := hM2.more ((Chg.refl _ wr).alloc (.cells #[.bool (X.st.txs t).begun, .bool (X.st.txs t).over, .bool (X.st.txs t).comm, .int .i64 (X.st.txs t).inst, .slice (some ⟨P.rd t, 0, none⟩) 16 16, .slice (some ⟨P.wb t, 0, none⟩) 16 16, .slice (some ⟨P.vb t, 0, none⟩) 16 16, .int .i64 (X.made t), .int .i64 (X.turn t)] 93))
          have hBL : Blk (wr.alloc (.cells #[.bool (X.st.txs t).begun, .bool (X.st.txs t).over, .bool (X.st.txs t).comm, .int .i64 (X.st.txs t).inst, .slice (some ⟨P.rd t, 0, none⟩) 16 16, .slice (some ⟨P.wb t, 0, none⟩) 16 16, .slice (some ⟨P.vb t, 0, none⟩) 16 16, .int .i64 (X.made t), .int .i64 (X.turn t)] 93)) wr.heap.size 93 9 (nth [.bool (X.st.txs t).begun, .bool (X.st.txs t).over, .bool (X.st.txs t).comm, .int .i64 (X.st.txs t).inst, .slice (some ⟨P.rd t, 0, none⟩) 16 16, .slice (some ⟨P.wb t, 0, none⟩) 16 16, .slice (some ⟨P.vb t, 0, none⟩) 16 16, .int .i64 (X.made t), .int .i64 (X.turn t)]) := Blk.ofL wr _ 93
          have HN3 := Lib.hid hN3; have HM3 := Lib.hid hM3
          clear hRr hN2 hM2 hN3 hM3
          go_upto_region 9 with fail
          clear a0 a1 a2 a3 a4 a5 a6 a7 a8 r0
          generalize wr.alloc _ = ws at *
          generalize wr.heap.size = nl at *
          have s2 : ws.cell? ⟨nl, 2, none⟩ = some (.bool (X.st.txs t).comm) := hBL.cell (by decide)
          have s3 : ws.cell? ⟨nl, 3, none⟩ = some (.int .i64 (X.st.txs t).inst) := hBL.cell (by decide)
          have s7 : ws.cell? ⟨nl, 7, none⟩ = some (.int .i64 (X.made t)) := hBL.cell (by decide)
          have s8 : ws.cell? ⟨nl, 8, none⟩ = some (.int .i64 (X.turn t)) := hBL.cell (by decide)
          clear hBL
          cases hc : (X.st.txs t).comm with
          | false =>
            rw [hc] at s2
            have HQ : Hid (qSel X n i t = []) := Lib.hid (by unfold qSel; rw [if_neg]; simp [hc])
            go_wp2_with fail
            refine ⟨⟨t + 1, by omega, by go_num, ?_⟩, by simp [intOf]; omega⟩
            rw [flat_succ, HQ.out, List.append_nil]
            exact HM3.out
          | true =>
            rw [hc] at s2
            by_cases hm : X.made t = 0
            · by_cases hu : X.turn t = n
              · by_cases hi : (X.st.txs t).inst = i
                · have HQ : Hid (qSel X n i t = [(t : Int)]) := Lib.hid (by unfold qSel; rw [if_pos]; simp [hc, hm, hu, hi])
                  rw [hm] at s7
                  rw [hu] at s8
                  rw [hi] at s3
                  have hlen : (((List.range n).flatMap fun n => (List.range 16).flatMap (qSel X n i)) ++ (List.range t).flatMap (qSel X n i)).length ≤ 1000000 := by
                    have h1 : ((List.range n).flatMap fun n => (List.range 16).flatMap (qSel X n i)).length ≤ n * 16 := flat_len fun m _ => by
                      have := flat_len (f := qSel X m i) (c := 1) (n := 16) fun k _ => qSel_len X m i k
                      omega
                    have h2 := flat_len (f := qSel X n i) (c := 1) (n := t) fun k _ => qSel_len X n i k
                    rw [List.length_append]
                    omega
                  generalize hLL : (((List.range n).flatMap fun n => (List.range 16).flatMap (qSel X n i)) ++ (List.range t).flatMap (qSel X n i)) = L at HM3 hlen
                  have hrow := HM3.out.row.alloc (.cells #[.int .i64 t] 3)
                  have hnews := news_alloc ws #[.int .i64 t] 3
                  have HROW := Lib.hid hrow; have HNEWS := Lib.hid hnews; have HLEN := Lib.hid hlen; have HLL := Lib.hid hLL
                  clear hrow hnews hlen hc hm hu hi hLL
                  go_wp2_with (refine wpList_append_lies _ rfl _ _ 28 rfl 0 3 i3 (.int .i64 0) 1 8 Try.underlying28 HI3.out HZ30.out HZ31.out HZ32.out rfl (by decide) u5 _ _ rfl HROW.out ⟨ws.heap.size, 0, none⟩ 1 1 [.int .i64 t] rfl rfl HNEWS.out (by simp [Value.oneCell']) (by decide) (by have := HLEN.out; unfold maxLen; omega) (by have := HLEN.out; omega) (Nat.zero_le _) _ rfl ?_; intro g6 cap6 w6 hown6 hg6 hat6 hlt6)
                  refine ⟨⟨t + 1, by omega, by go_num, ?_⟩, by simp [intOf]; omega⟩
                  rw [flat_succ, HQ.out, ← List.append_assoc, HLL.out]
                  exact HM3.out.snoc hown6 hg6 hat6
                · have hi2 : ¬ ((X.st.txs t).inst : Int) = (i : Int) := by omega
                  rw [hm] at s7
                  rw [hu] at s8
                  have HQ : Hid (qSel X n i t = []) := Lib.hid (by unfold qSel; rw [if_neg]; simp [hi])
                  go_wp2_with fail
                  refine ⟨⟨t + 1, by omega, by go_num, ?_⟩, by simp [intOf]; omega⟩
                  rw [flat_succ, HQ.out, List.append_nil]
                  exact HM3.out
              · have hu2 : ¬ (X.turn t : Int) = (n : Int) := by omega
                rw [hm] at s7
                have HQ : Hid (qSel X n i t = []) := Lib.hid (by unfold qSel; rw [if_neg]; simp [hu])
                go_wp2_with fail
                refine ⟨⟨t + 1, by omega, by go_num, ?_⟩, by simp [intOf]; omega⟩
                rw [flat_succ, HQ.out, List.append_nil]
                exact HM3.out
            · have hm2 : ¬ (X.made t : Int) = 0 := by omega
              have HQ : Hid (qSel X n i t = []) := Lib.hid (by unfold qSel; rw [if_neg]; simp [hm])
              go_wp2_with fail
              refine ⟨⟨t + 1, by omega, by go_num, ?_⟩, by simp [intOf]; omega⟩
              rw [flat_succ, HQ.out, List.append_nil]
              exact HM3.out
        · obtain rfl : t = 16 := by omega
          have HN3 := Lib.hid hN2; have HM3 := Lib.hid hM2
          clear hN2 hM2
          go_wp2_with fail
          refine ⟨⟨n + 1, by omega, by go_num, ?_⟩, by simp [intOf]; omega⟩
          rw [flat_succ]
          exact HM3.out
    · obtain rfl : n = X.commits := by omega
      go_wp2_with fail
      go_ret
      exact ⟨_, rfl, HN1.out.trans HM.out.new, HM.out.row, fun g hg => by have h1 := HM.out.own g hg; have h2 := HN1.out.size; omega⟩
def mSel (X : XS) (i t : Nat) : List Int := if X.made t == i then [(t : Int)] else []
theorem xmade_eq (X : XS) (i : Nat) : xmade X i = (List.range 16).flatMap (mSel X i) := rfl
theorem mSel_len (X : XS) (i t : Nat) : (mSel X i t).length ≤ 1 := ite_len _ _
def sUp (X : XS) (i : Nat) : List Int := xquiet X 0 ++ (List.range (i - 1)).flatMap fun k => xmade X (k + 1) ++ xquiet X (k + 1)
theorem sUp_one (X : XS) : sUp X 1 = xquiet X 0 := by simp [sUp]
theorem sUp_next (X : XS) {i : Nat} (h : 1 ≤ i) : sUp X (i + 1) = sUp X i ++ (xmade X i ++ xquiet X i) := by
  obtain ⟨k, rfl⟩ : ∃ k, i = k + 1 := ⟨i - 1, by omega⟩
  unfold sUp
  rw [Nat.add_sub_cancel, Nat.add_sub_cancel, flat_succ, List.append_assoc]
theorem quiet_len (X : XS) (i : Nat) : (xquiet X i).length ≤ X.commits * 16 := by
  rw [xquiet_eq]
  exact flat_len fun m _ => by
    have := flat_len (f := qSel X m i) (c := 1) (n := 16) fun k _ => qSel_len X m i k
    omega
theorem made_len (X : XS) (i : Nat) : (xmade X i).length ≤ 16 := by
  rw [xmade_eq]
  have := flat_len (f := mSel X i) (c := 1) (n := 16) fun k _ => mSel_len X i k
  omega
theorem sUp_len (X : XS) (i : Nat) (hc : X.commits ≤ 1000) : (sUp X i).length ≤ 16000 + i * 16016 := by
  unfold sUp
  rw [List.length_append]
  have h0 := quiet_len X 0
  have h1 : ((List.range (i - 1)).flatMap fun k => xmade X (k + 1) ++ xquiet X (k + 1)).length ≤ (i - 1) * 16016 := flat_len fun k _ => by
    rw [List.length_append]
    have h2 := made_len X (k + 1)
    have h3 := quiet_len X (k + 1)
    omega
  have h4 : (i - 1) * 16016 ≤ i * 16016 := Nat.mul_le_mul_right _ (by omega)
  omega
theorem xserial_is (ops : List Tx.Op) : sUp (xall ops) (xall ops).st.insts.length = serial (Tx.run St.zero ops).2 := by
  have h := (xall_inv ops).serial
  rw [← xall_st]
  exact h
/-- Two rows, one behind the other. -/
theorem Mine.cat {w wr w' : World} {v v' : Value} {l l2 : List Int} (h : Mine w wr v l) (hrow : w'.ownsRow 0 3 1 v' (l.length + l2.length) (intRow l ++ intRow l2)) (hg : wr.grownBy w' v.ownBlock) (hat : v'.ownBlock = v.ownBlock ∨ v'.ownBlock = some wr.heap.size) : Mine w w' v' (l ++ l2) := by
  have hC : Chg (fun k => v.ownBlock = some k) wr w' := (Chg.refl _ wr).grown hg (fun k hk _ => hk)
  refine ⟨h.new.then hC (fun i hi e => by have := h.own i e; omega), ?_, fun k hk => ?_⟩
  · rw [intRow_append, List.length_append]
    exact hrow
  · rcases hat with e | e
    · exact h.own k (by rw [← e]; exact hk)
    · rw [e] at hk
      simp at hk
      have := h.new.size
      omega
set_option maxRecDepth 100000 in
theorem rserial_no (a : Option Addr) (n c : Nat) (hl : 200 < n) (h63 : n ≤ maxLen) : Calls Try.prog 19 #[.slice a n c] w fun e w' => e = .returned (.tuple #[.slice none 0 0, .int .i64 3]) ∧ New w w' := by
  have HA := Lib.hid (fun w => all_no (w := w) a n c hl h63)
  clear hl h63
  go_enter Try.func19, Try.ntmps19
  go_wp2_with ((with_reducible refine (HA.out _).mono ?_); rintro e w1 ⟨rfl, hN⟩; have HN := Lib.hid hN; clear hN)
  refine bodyPost_ret (results_tmp2 rfl _ _ _) rfl ?_
  exact ⟨rfl, HN.out.alloc _⟩
set_option maxRecDepth 100000 in
set_option maxHeartbeats 2000000 in
theorem rserial_any (a : Option Addr) (b off c : Nat) (ops : List Tx.Op) (hO : OpsAt w a b off ops) (hl : ops.length ≤ 200) :
    Calls Try.prog 19 #[.slice a ops.length c] w fun e w' => ∃ v, e = .returned (.tuple #[v, .int .i64 0]) ∧ Mine w w' v (serial (Tx.run St.zero ops).2) := by
  have HA := Lib.hid (all_open a b off c ops hO hl)
  have hg := (xall_good ops).insts
  have hlen : (xall ops).st.insts.length ≤ 1000 := by omega
  have hne := (xall_good ops).ne
  have hcm : (xall ops).commits ≤ 1000 := by have := xall_commits ops; omega
  rw [← xserial_is ops]
  clear hO hl hg
  generalize hX : xall ops = X at *
  have hlen2 : (X.st.insts.length : Int) ≤ 1000 := by omega
  go_enter Try.func19, Try.ntmps19
  go_upto_region 4 with ((with_reducible refine HA.out.mono ?_); rintro e w1 ⟨v, P, rfl, hR, hN, hrow, hL, hown⟩; have HR := Lib.hid hR; have HN := Lib.hid hN; clear hR hN hrow hL hown)
  have HR2 := Lib.hid (HR.out.new ((Chg.refl _ w1).alloc (.cells #[.slice (some ⟨P.ga, 0, none⟩) 16 P.ca, .slice (some ⟨P.gW, 0, none⟩) X.st.insts.length P.cW, .slice (some ⟨P.gC, 0, none⟩) X.st.insts.length P.cC, .int .i64 X.commits] 79)))
  have HB : Hid (Blk (w1.alloc (.cells #[.slice (some ⟨P.ga, 0, none⟩) 16 P.ca, .slice (some ⟨P.gW, 0, none⟩) X.st.insts.length P.cW, .slice (some ⟨P.gC, 0, none⟩) X.st.insts.length P.cC, .int .i64 X.commits] 79)) w1.heap.size 79 4 (nth [.slice (some ⟨P.ga, 0, none⟩) 16 P.ca, .slice (some ⟨P.gW, 0, none⟩) X.st.insts.length P.cW, .slice (some ⟨P.gC, 0, none⟩) X.st.insts.length P.cC, .int .i64 X.commits])) := Lib.hid (Blk.ofL w1 _ 79)
  have HN2 := Lib.hid (HN.out.alloc (.cells #[.slice (some ⟨P.ga, 0, none⟩) 16 P.ca, .slice (some ⟨P.gW, 0, none⟩) X.st.insts.length P.cW, .slice (some ⟨P.gC, 0, none⟩) X.st.insts.length P.cC, .int .i64 X.commits] 79))
  clear HR HN
  generalize w1.alloc _ = w2 at *
  generalize w1.heap.size = nb at *
  have HQ : Hid (∀ w', New w2 w' → ∀ i : Nat, Calls Try.prog 44 #[.agg #[.slice (some ⟨P.ga, 0, none⟩) 16 P.ca, .slice (some ⟨P.gW, 0, none⟩) X.st.insts.length P.cW, .slice (some ⟨P.gC, 0, none⟩) X.st.insts.length P.cC, .int .i64 X.commits], .int .i64 i] w' fun e w'' => ∃ v, e = .returned v ∧ Mine w' w'' v (xquiet X i)) := fun w' hn i => quiet_any (HR2.out.new hn) i hcm
  have HQ0 : Hid (Calls Try.prog 44 #[.agg #[.slice (some ⟨P.ga, 0, none⟩) 16 P.ca, .slice (some ⟨P.gW, 0, none⟩) X.st.insts.length P.cW, .slice (some ⟨P.gC, 0, none⟩) X.st.insts.length P.cC, .int .i64 X.commits], .int .i64 0] w2 fun e w'' => ∃ v, e = .returned v ∧ Mine w2 w'' v (xquiet X 0)) := HQ.out w2 (Chg.refl _ _) 0
  have r0 : w2.cell? ⟨nb, 0, none⟩ = some (.slice (some ⟨P.ga, 0, none⟩) 16 P.ca) := HB.out.cell (by decide)
  have r1 : w2.cell? ⟨nb, 1, none⟩ = some (.slice (some ⟨P.gW, 0, none⟩) X.st.insts.length P.cW) := HB.out.cell (by decide)
  have r2 : w2.cell? ⟨nb, 2, none⟩ = some (.slice (some ⟨P.gC, 0, none⟩) X.st.insts.length P.cC) := HB.out.cell (by decide)
  have r3 : w2.cell? ⟨nb, 3, none⟩ = some (.int .i64 X.commits) := HB.out.cell (by decide)
  obtain ⟨i3, hi3, hz30, hz31, hz32⟩ := info_parts Try.info3
  have HI3 := Lib.hid hi3; have HZ30 := Lib.hid hz30; have HZ31 := Lib.hid hz31; have HZ32 := Lib.hid hz32
  clear hi3 hz30 hz31 hz32
  go_wp2_with ((with_reducible refine HQ0.out.mono ?_); rintro e w3 ⟨v3, rfl, hM3⟩; have HM3 := Lib.hid hM3; clear hM3)
  clear r0 r1 r2 r3
  go_loopw [7, 8] (fun v7 v wr => ∃ i : Nat, 1 ≤ i ∧ i ≤ X.st.insts.length ∧ v = .int .i64 i ∧ Mine w2 wr v7 (sUp X i)) (fun _ v _ => X.st.insts.length - (intOf v).toNat)
  case atStart => exact ⟨1, by omega, by omega, rfl, by rw [sUp_one]; exact HM3.out⟩
  case round =>
    obtain ⟨i, hi1, hi, rfl, hM⟩ := hrel
    have HM := Lib.hid hM
    have r1 : wr.cell? ⟨nb, 1, none⟩ = some (.slice (some ⟨P.gW, 0, none⟩) X.st.insts.length P.cW) := (HB.out.chg hM.new (fun h => h)).cell (by decide)
    clear hM
    by_cases hlt : i < X.st.insts.length
    · have b4 : (i : Int) < (X.st.insts.length : Int) := by omega
      have hSL := sUp_len X i hcm
      have HSL := Lib.hid (show (sUp X i).length ≤ 20000000 by have : i * 16016 ≤ 1000 * 16016 := Nat.mul_le_mul_right _ (by omega); omega)
      have HSN := Lib.hid (sUp_next X hi1)
      clear hSL
      generalize sUp X i = S at *
      go_wp2_with fail
      clear r1
      go_loopw [7, 9] (fun v7 v wt => ∃ t : Nat, t ≤ 16 ∧ v = .int .i64 t ∧ Mine w2 wt v7 (S ++ (List.range t).flatMap (mSel X i))) (fun _ v _ => 16 - (intOf v).toNat)
      case atStart => exact ⟨0, by omega, rfl, by simpa using HM.out⟩
      case round =>
        obtain ⟨t, ht, rfl, hM2⟩ := hrel
        have hN2 := hM2.new
        have hBr := HB.out.chg hN2 (fun h => h)
        have hRr := HR2.out.new hN2
        have HM2 := Lib.hid hM2
        have HLT : Hid ((S ++ (List.range t).flatMap (mSel X i)).length ≤ 30000000) := Lib.hid (by
          have h2 := flat_len (f := mSel X i) (c := 1) (n := t) fun k _ => mSel_len X i k
          have h3 := HSL.out
          rw [List.length_append]
          omega)
        clear hM2
        by_cases ht16 : t < 16
        · have b0 : (0 : Int) ≤ (t : Int) := by omega
          have b1 : (t : Int) < 16 := by omega
          have r0 : wr.cell? ⟨nb, 0, none⟩ = some (.slice (some ⟨P.ga, 0, none⟩) 16 P.ca) := hBr.cell (by decide)
          obtain ⟨_, _, _, _, _, _, _, a7, _⟩ := hRr.st9 ht16
          clear hN2 hBr hRr
          by_cases hm : X.made t = i
          · have HQ1 : Hid (mSel X i t = [(t : Int)]) := Lib.hid (by unfold mSel; rw [if_pos]; simp [hm])
            rw [hm] at a7
            generalize hLL : S ++ (List.range t).flatMap (mSel X i) = L at HM2 HLT
            have HLL := Lib.hid hLL
            have hrow := HM2.out.row.alloc (.cells #[.int .i64 t] 3)
            have hnews := news_alloc wr #[.int .i64 t] 3
            have HROW := Lib.hid hrow; have HNEWS := Lib.hid hnews
            clear hrow hnews hm hLL
            go_wp2_with (refine wpList_append_lies _ rfl _ _ 28 rfl 0 3 i3 (.int .i64 0) 1 8 Try.underlying28 HI3.out HZ30.out HZ31.out HZ32.out rfl (by decide) u7 _ _ rfl HROW.out ⟨wr.heap.size, 0, none⟩ 1 1 [.int .i64 t] rfl rfl HNEWS.out (by simp [Value.oneCell']) (by decide) (by have := HLT.out; unfold maxLen; omega) (by have := HLT.out; omega) (Nat.zero_le _) _ rfl ?_; intro g6 cap6 w6 hown6 hg6 hat6 hlt6)
            refine ⟨⟨t + 1, by omega, by go_num, ?_⟩, by simp [intOf]; omega⟩
            rw [flat_succ, HQ1.out, ← List.append_assoc, HLL.out]
            exact HM2.out.snoc hown6 hg6 hat6
          · have HQ1 : Hid (mSel X i t = []) := Lib.hid (by unfold mSel; rw [if_neg]; simp [hm])
            have hm2 : ¬ (X.made t : Int) = (i : Int) := by omega
            clear hm
            go_wp2_with fail
            refine ⟨⟨t + 1, by omega, by go_num, ?_⟩, by simp [intOf]; omega⟩
            rw [flat_succ, HQ1.out, List.append_nil]
            exact HM2.out
        · obtain rfl : t = 16 := by omega
          have r0 : wr.cell? ⟨nb, 0, none⟩ = some (.slice (some ⟨P.ga, 0, none⟩) 16 P.ca) := hBr.cell (by decide)
          have r1 : wr.cell? ⟨nb, 1, none⟩ = some (.slice (some ⟨P.gW, 0, none⟩) X.st.insts.length P.cW) := hBr.cell (by decide)
          have r2 : wr.cell? ⟨nb, 2, none⟩ = some (.slice (some ⟨P.gC, 0, none⟩) X.st.insts.length P.cC) := hBr.cell (by decide)
          have r3 : wr.cell? ⟨nb, 3, none⟩ = some (.int .i64 X.commits) := hBr.cell (by decide)
          have HQI := Lib.hid (HQ.out wr hN2 i)
          rw [← xmade_eq] at HM2 HLT
          have HSN2 : Hid (sUp X (i + 1) = (S ++ xmade X i) ++ xquiet X i) := Lib.hid (by rw [HSN.out, List.append_assoc])
          have hql := quiet_len X i
          have HQL := Lib.hid (show (xquiet X i).length ≤ 16000 by omega)
          clear hN2 hBr hRr hql
          generalize hLL : S ++ xmade X i = L at HM2 HLT HSN2
          clear hLL
          generalize xquiet X i = Q at HQI HSN2 HQL
          go_wp2_with (first
            | ((with_reducible refine HQI.out.mono ?_); rintro e w8 ⟨v8, rfl, hM8⟩; have HM8 := Lib.hid hM8; clear hM8)
            | (refine wpList_append_ints rfl _ _ rfl (v := u7) (v2 := v8) (xs := intRow L) (news := intRow Q) rfl rfl (HM2.out.more HM8.out.new).row HM8.out.row (oneCell_ints Q) (by have h1 := HLT.out; have h2 := HQL.out; omega) ?_; intro v9 w9 hown9 hg9 hat9))
          refine ⟨⟨i + 1, by omega, by omega, by go_num, ?_⟩, by simp [intOf]; omega⟩
          rw [HSN2.out]
          exact (HM2.out.more HM8.out.new).cat hown9 hg9 hat9
    · obtain rfl : i = X.st.insts.length := by omega
      go_wp2_with fail
      refine bodyPost_ret (results_tmp2 rfl _ _ _) rfl ?_
      exact ⟨_, rfl, HN2.out.trans HM.out.new, HM.out.row, fun g hg => by have h1 := HM.out.own g hg; have h2 := HN2.out.size; omega⟩
end
end Go.Proofs.Yteaeflmglppcdaa
