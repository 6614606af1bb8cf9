/- The walk of TxInstants. -/
import Derived.Test.YteaeflmglppcdaaJ4
namespace Go.Proofs.Yteaeflmglppcdaa
open Go.RowKit Tx

theorem row_cap {w : World} {B : Nat} {T : TypeId} {sz n c : Nat} {a : Option Addr} {xs : List Value} (h : w.ownsRow B T sz (.slice a n c) n xs) : n ≤ c ∧ c ≤ maxLen := by
  rcases h.2 with ⟨e, h0⟩ | ⟨g, cap, cur, e, _, _, h1, h2, _⟩
  · simp at e
    exact ⟨by omega, by have := e.2.2; unfold maxLen; omega⟩
  · simp at e
    obtain ⟨_, rfl⟩ := e
    exact ⟨h1, h2⟩
theorem OpsAt.take {w : World} {a : Option Addr} {g : Nat} {ops : List Tx.Op} (h : OpsAt w a g 0 ops) (i : Nat) : OpsAt w a g 0 (ops.take i) := by
  refine ⟨Nat.le_trans (by rw [List.length_take]; exact Nat.min_le_right _ _) h.len, fun hne => h.ptr (fun e => by subst e; simp at hne), fun j o hj q hq => ?_⟩
  rw [List.getElem?_take] at hj
  split at hj
  · exact h.cell j o hj q hq
  · cases hj
/-- What the notes of TxInstants say: a key that was written is marked. -/
def Marks (M : List (Int × Bool)) (L : List Tx.Op) : Prop := ∀ y ∈ L, (y.d = 2 ∨ y.d = 3) → mget y.k M = some true
theorem Marks.step {M : List (Int × Bool)} {L : List Tx.Op} (h : Marks M L) (y : Tx.Op) (B : Bool) (hB : mget y.k M = some true → B = true) (hy : y.d = 2 ∨ y.d = 3 → B = true) : Marks (mput y.k B M) (L ++ [y]) := by
  intro x hx hd
  rw [mget_mput]
  rcases List.mem_append.1 hx with hx | hx
  · have h1 := h x hx hd
    split
    · rename_i e
      rw [hB (by rw [e]; exact h1)]
    · exact h1
  · obtain rfl : x = y := by simpa using hx
    rw [if_pos rfl, hy hd]
theorem zero_words (ops : List Tx.Op) : wordsI ((Tx.run St.zero ops).2.inst 0) = (List.range 16).map (fun _ => (0 : Int)) := by
  have h := inst_stays ops (i := 0) (m := 0) (Nat.zero_le _) (by rw [at_zero]; decide)
  rw [h]
  rfl
theorem marks_wrote {ops : List Tx.Op} {i : Nat} {t k : Int} {M : List (Int × Bool)} (hM : Marks M (own1 t ((ops.take i).zip (ans ops)))) (h : wroteAt ops i t k) : mget k M = some true := by
  obtain ⟨j, x, a, hj, h1, h2, h3, h4, h5, h6⟩ := h
  have hm : x ∈ own1 t ((ops.take i).zip (ans ops)) := by
    unfold own1
    rw [List.mem_map]
    refine ⟨(x, a), ?_, rfl⟩
    rw [List.mem_filter]
    refine ⟨?_, by simp [h3, h6]⟩
    refine List.mem_of_getElem? (i := j) ?_
    rw [List.getElem?_zip_eq_some]
    exact ⟨by rw [List.getElem?_take, if_pos hj]; exact h1, h2⟩
  have := hM x hm h5
  rwa [h4] at this
theorem ints_words {w : World} {g : Nat} {ws : List Int} (h : WordsAt w g ws) : IntsAt w (some ⟨g, 0, none⟩) g 0 ws :=
  ⟨by rw [h.len]; decide, fun _ => rfl, fun i x hi => by rw [Nat.zero_add]; exact h.cell i x hi⟩
theorem zero_blk (w : World) : Blk (w.alloc (.cells zeros16 3)) w.heap.size 3 16 (fun _ => .int .i64 0) := Blk.new w zeros16 3 (fun _ => .int .i64 0) rfl (fun i hi => by
  have : i = 0 ∨ i = 1 ∨ i = 2 ∨ i = 3 ∨ i = 4 ∨ i = 5 ∨ i = 6 ∨ i = 7 ∨ i = 8 ∨ i = 9 ∨ i = 10 ∨ i = 11 ∨ i = 12 ∨ i = 13 ∨ i = 14 ∨ i = 15 := by omega
  rcases this with rfl | rfl | rfl | rfl | rfl | rfl | rfl | rfl | rfl | rfl | rfl | rfl | rfl | rfl | rfl | rfl <;> rfl)
theorem zero_equal {w : World} (ops : List Tx.Op) {b c : Nat} (h : WordsAt w b (wordsI ((Tx.run St.zero ops).2.inst 0))) :
    Calls Try.prog 23 #[.slice (some ⟨b, 0, none⟩) 16 c, .slice (some ⟨w.heap.size, 0, none⟩) 16 16] (w.alloc (.cells zeros16 3)) fun e w' => e = .returned (.bool true) ∧ New w w' := by
  rw [zero_words] at h
  have h1 := equal_new (c := c) (c' := 16) ((ints_words h).kept ((Chg.refl _ w).alloc (.cells zeros16 3))) (blk_ints (f := fun _ => 0) (zero_blk w))
  rw [List.length_map, List.length_range, decide_eq_true rfl] at h1
  exact h1.mono fun e w' hh => ⟨hh.1, ((Chg.refl _ w).alloc _).trans hh.2⟩
theorem words_equal {w : World} {g g' c c' : Nat} {ws : List Int} (h : WordsAt w g ws) (h' : IntsAt w (some ⟨g', 0, none⟩) g' 0 ws) :
    Calls Try.prog 23 #[.slice (some ⟨g, 0, none⟩) 16 c, .slice (some ⟨g', 0, none⟩) 16 c'] w fun e w' => e = .returned (.bool true) ∧ New w w' := by
  have h1 := equal_new (c := c) (c' := c') (ints_words h) h'
  rw [h.len, decide_eq_true rfl] at h1
  exact h1
theorem last_insts {ops : List Tx.Op} {i : Nat} (hi : i ≤ ops.length) : (at_ ops i).insts.length ≤ (Tx.run St.zero ops).2.insts.length := by
  have := (insts_stay ops i ops.length hi (Nat.le_refl _)).length_le
  rwa [at_all] at this
section
variable {w : World}
set_option maxRecDepth 100000 in
set_option maxHeartbeats 8000000 in
theorem instants_walk (a : Option Addr) (b off c : Nat) (xs : List Int) (hU : U32At w a b off xs) (hc : xs.length ≤ c) (hc3 : c ≤ maxLen) :
    Calls Try.prog 6 #[.slice a xs.length c] w fun e w' => e = .returned (.bool true) ∧ New w w' := by
  by_cases hbig : 200 < xs.length
  · have hb2 : ¬ (xs.length : Int) ≤ 200 := by omega
    clear hU
    go_enter Try.func6, Try.ntmps6
    go_wp2_with ((with_reducible refine (awake_any _).mono ?_); rintro e w9 ⟨rfl, hN9⟩)
    go_ret
    exact ⟨rfl, hN9⟩
  · have hl : xs.length ≤ 200 := by omega
    have hl2 : (xs.length : Int) ≤ 200 := by omega
    have HM := Lib.hid (made_any a b off c xs hU hl hc hc3)
    have hmk := make16
    have hmm := make_map53
    clear hU
    go_enter Try.func6, Try.ntmps6
    go_wp2_with (first
      | ((with_reducible refine HM.out.mono ?_); rintro e w1 ⟨ops, v1, rfl, hN1, hlo, hr1, hg1⟩; obtain ⟨a1, g1, c1, rfl, hO1, hb1⟩ := row_len_ops hr1; have hcc := row_cap hr1; have hlo2 : ops.length ≤ 200 := (by omega); have hlo3 : (ops.length : Int) ≤ 200 := (by omega); have HA := Lib.hid (answered_any a1 g1 0 c1 ops hO1 hb1 hlo2); clear hr1 hlo)
      | ((with_reducible refine HA.out.mono ?_); rintro e w2 ⟨v2, rfl, hN2, hr2, hg2⟩; obtain ⟨a2, g2, c2, rfl, hA2⟩ := row_len_ans hr2 (length_run ops St.zero); change AnsAt w2 a2 g2 0 (ans ops) at hA2; have hO2 := hO1.kept hN2 (fun x => x);
          have HLW : Hid (Calls Try.prog 16 #[.slice a1 ops.length c1] w2 fun e w'' => ∃ b c, e = .returned (.tuple #[.int .i64 (last (Tx.run St.zero ops).2 : Int), .slice (some ⟨b, 0, none⟩) 16 c, .int .i64 0]) ∧ New w2 w'' ∧ IntsAt w'' (some ⟨b, 0, none⟩) b 0 (wordsI ((Tx.run St.zero ops).2.inst (last (Tx.run St.zero ops).2)))) := last_words hO2 hlo2 rfl rfl; clear hr2 HA)
      | ((with_reducible refine HLW.out.mono ?_); rintro e w3 ⟨b3, c3, rfl, hN3, hI3⟩; clear HLW;
          have HAT : Hid (∀ w', New w2 w' → ∀ q : Nat, q < (Tx.run St.zero ops).2.insts.length → Calls Try.prog 14 #[.slice a1 ops.length c1, .int .i64 q] w' fun e w'' => ∃ b c, e = .returned (.tuple #[.slice (some ⟨b, 0, none⟩) 16 c, .int .i64 0]) ∧ New w' w'' ∧ w'.heap.size ≤ b ∧ WordsAt w'' b (wordsI ((Tx.run St.zero ops).2.inst q))) := (fun w' hw q hq => at_words (hO2.kept hw (fun x => x)) hlo2 q hq);
          have HA0 : Hid (Calls Try.prog 14 #[.slice a1 ops.length c1, .int .i64 0] w3 fun e w'' => ∃ b c, e = .returned (.tuple #[.slice (some ⟨b, 0, none⟩) 16 c, .int .i64 0]) ∧ New w3 w'' ∧ w3.heap.size ≤ b ∧ WordsAt w'' b (wordsI ((Tx.run St.zero ops).2.inst 0))) := (HAT.out w3 hN3 0 (by have := at_ne ops ops.length; rwa [at_all] at this)))
      | ((with_reducible refine HA0.out.mono ?_); rintro e w4 ⟨b4, c4, rfl, hN4, hb4, hW4⟩; clear HA0;
          have HQ0 : Hid (Calls Try.prog 23 #[.slice (some ⟨b4, 0, none⟩) 16 c4, .slice (some ⟨w4.heap.size, 0, none⟩) 16 16] (w4.alloc (.cells zeros16 3)) fun e w' => e = .returned (.bool true) ∧ New w4 w') := (zero_equal ops hW4))
      | ((with_reducible refine HQ0.out.mono ?_); rintro e w5 ⟨rfl, hN5⟩; clear HQ0))
    obtain ⟨LEN, hLEN⟩ : ∃ n, (Tx.run St.zero ops).2.insts.length = n := ⟨_, rfl⟩
    obtain ⟨N, hNd⟩ : ∃ N : Nat → Nat, N = fun i => (at_ ops i).insts.length := ⟨_, rfl⟩
    obtain ⟨W, hWd⟩ : ∃ W : Nat → List Int, W = fun q => wordsI ((Tx.run St.zero ops).2.inst q) := ⟨_, rfl⟩
    have hn0 : N 0 = 1 := by rw [hNd]; exact (by decide : (at_ [] 0).insts.length = 1)
    have hnl : N ops.length = LEN := by rw [hNd, ← hLEN]; show (at_ ops ops.length).insts.length = _; rw [at_all]
    have HOT : Hid (∀ (i : Nat) (o : Tx.Op) (x : Ans), ops[i]? = some o → (ans ops)[i]? = some x → ¬ (o.d = 4 ∧ x.e = 0 ∧ x.n ≠ 0) → N (i + 1) = N i) := fun i o x h1 h2 h3 => by rw [hNd]; exact instants_other h1 h2 h3
    have HMA : Hid (∀ (i : Nat) (o : Tx.Op) (x : Ans), ops[i]? = some o → (ans ops)[i]? = some x → o.d = 4 → x.e = 0 → x.n ≠ 0 → x.n = (N i : Int) ∧ N (i + 1) = N i + 1 ∧ N i < LEN ∧ ∀ (k : Nat) (u u' : Int), (W (N i))[k]? = some u → (W (N i - 1))[k]? = some u' → u ≠ u' → wroteAt ops i o.t k) := fun i o x h1 h2 h3 h4 h5 => by
      obtain ⟨e1, e2, e3⟩ := instants_made h1 h2 h3 h4 h5
      have hlt := (List.getElem?_eq_some_iff.1 h1).1
      have e4 := last_insts (ops := ops) (i := i + 1) (by omega)
      subst hNd hWd
      refine ⟨e1, e2, by rw [← hLEN]; show (at_ ops i).insts.length < _; omega, fun k u u' hu hu' hne => ?_⟩
      have hk := (List.getElem?_eq_some_iff.1 hu).1
      simp only [wordsI, List.length_map, List.length_range] at hk
      simp only [wordsI, List.getElem?_map, List.getElem?_range hk, Option.map_some, Option.some.injEq] at hu hu'
      exact e3 k (by rw [hu, hu']; exact hne)
    have HW16 : Hid (∀ q, (W q).length = 16) := fun q => by rw [hWd]; simp [wordsI]
    have HLT : Hid ((last (Tx.run St.zero ops).2 : Int) = (LEN : Int) - 1) := by
      show _ = _
      have := at_ne ops ops.length
      rw [at_all, hLEN] at this
      unfold Tx.last
      rw [hLEN]; omega
    have HLE : Hid (1 ≤ LEN) := Lib.hid (by have := at_ne ops ops.length; rw [at_all, hLEN] at this; omega)
    have hIL : IntsAt w3 (some ⟨b3, 0, none⟩) b3 0 (W (LEN - 1)) := by
      rw [hWd, ← hLEN]; exact hI3
    have HIL := Lib.hid ((hIL.kept hN4).kept hN5)
    have hSTART : WordsAt w5 b4 (W (N 0 - 1)) := by rw [hn0, hWd]; exact hW4.kept hN5 (fun x => x)
    have HATW : Hid (∀ w', New w2 w' → ∀ q : Nat, q < LEN → Calls Try.prog 14 #[.slice a1 ops.length c1, .int .i64 q] w' fun e w'' => ∃ b c, e = .returned (.tuple #[.slice (some ⟨b, 0, none⟩) 16 c, .int .i64 0]) ∧ New w' w'' ∧ w'.heap.size ≤ b ∧ WordsAt w'' b (W q)) := fun w' hw q hq => by
      rw [hWd]; exact HAT.out w' hw q (by rw [hLEN]; exact hq)
    have HOUT : Hid (∀ w', New w2 w' → Calls Try.prog 14 #[.slice a1 ops.length c1, .int .i64 LEN] w' fun e w'' => e = .returned (.tuple #[.slice none 0 0, .int .i64 2]) ∧ New w' w'') := fun w' hw =>
      at_range a1 g1 0 c1 ops LEN (hO2.kept hw (fun x => x)) hlo2 (by rw [hLEN]; simp [within]; omega)
    have HO2 := Lib.hid hO2; have HA2 := Lib.hid hA2
    have HN25 := Lib.hid ((hN3.trans hN4).trans hN5)
    have HN0 := Lib.hid (hN1.trans hN2)
    have hll : (ans ops).length = ops.length := length_run ops St.zero
    have HLL := Lib.hid hll
    have hcc1 := hcc.1
    have hcc2 : (ops.length : Int) ≤ (c1 : Int) := by omega
    have HCM := Lib.hid hcc.2
    rw [HLT.out]
    clear hLEN hNd hWd HAT hI3 hW4 hIL hN1 hN2 hN3 hN4 hN5 hO1 hO2 hA2 hb1 hg1 hg2 hll hcc HM
    go_loopw [9, 10, 63] (fun v9 v10 v wr => ∃ i gn cn : Nat, i ≤ ops.length ∧ N i ≤ i + 1 ∧ v = .int .i64 i ∧ v9 = .int .i64 (N i) ∧ v10 = .slice (some ⟨gn, 0, none⟩) 16 cn ∧ WordsAt wr gn (W (N i - 1)) ∧ New w5 wr) (fun _ _ v _ => ops.length - (intOf v).toNat)
    case atStart => exact ⟨0, b4, c4, by omega, by omega, rfl, by rw [hn0]; rfl, rfl, hSTART, Chg.refl _ _⟩
    case round =>
      obtain ⟨i, gn, cn, hi, hNi, rfl, rfl, rfl, hWn, hN⟩ := hrel
      by_cases hlt : i < ops.length
      · obtain ⟨o, ho⟩ : ∃ o, ops[i]? = some o := ⟨_, List.getElem?_eq_getElem hlt⟩
        obtain ⟨⟨xe, xn⟩, hx⟩ : ∃ x, (ans ops)[i]? = some x := ⟨_, List.getElem?_eq_getElem (by rw [HLL.out]; omega)⟩
        have hne : ops ≠ [] := fun e => by rw [e] at hlt; simp at hlt
        obtain rfl := HO2.out.ptr hne
        obtain rfl := HA2.out.ptr (fun e => by rw [e] at hx; simp at hx)
        have hN2r := HN25.out.trans hN
        have hOw := HO2.out.kept hN2r (fun x => x)
        have x0 : wr.cell? ⟨g1, i * 4, none⟩ = some (.int .i64 o.d) := by have := hOw.cell i o ho 0 (by omega); rwa [Nat.zero_add] at this
        have x1 : wr.cell? ⟨g1, i * 4 + 1, none⟩ = some (.int .i64 o.t) := by have := hOw.cell i o ho 1 (by omega); rwa [Nat.zero_add] at this
        have x2 : wr.cell? ⟨g1, i * 4 + 2, none⟩ = some (.int .i64 o.k) := by have := hOw.cell i o ho 2 (by omega); rwa [Nat.zero_add] at this
        have x3 : wr.cell? ⟨g1, i * 4 + 3, none⟩ = some (.int .i64 o.n) := by have := hOw.cell i o ho 3 (by omega); rwa [Nat.zero_add] at this
        have b3' : (0 : Int) ≤ (i : Int) := by omega
        have b4' : (i : Int) < (ops.length : Int) := by omega
        obtain ⟨a0, a1⟩ := ((HA2.out.kept hN2r).kept ((Chg.refl _ wr).alloc (.cells #[.int .i64 o.d, .int .i64 o.t, .int .i64 o.k, .int .i64 o.n] 47))).cell i _ hx
        rw [Nat.zero_add] at a0 a1
        dsimp only at a0 a1
        have HN := Lib.hid (hN.alloc (.cells #[.int .i64 o.d, .int .i64 o.t, .int .i64 o.k, .int .i64 o.n] 47))
        have HWN := Lib.hid (hWn.kept ((Chg.refl (fun _ => False) wr).alloc (.cells #[.int .i64 o.d, .int .i64 o.t, .int .i64 o.k, .int .i64 o.n] 47)) (fun x => x))
        have HOI := Lib.hid ho; have HXI := Lib.hid hx
        have hnb : (wr.alloc (.cells #[.int .i64 o.d, .int .i64 o.t, .int .i64 o.k, .int .i64 o.n] 47)).heap[wr.heap.size]? = some (.cells #[.int .i64 o.d, .int .i64 o.t, .int .i64 o.k, .int .i64 o.n] 47) := heap_alloc_new wr _
        clear hN hN2r hWn hOw hne hx ho hSTART
        go_upto_region 15 with fail
        generalize wr.alloc _ = w6 at *
        generalize wr.heap.size = nb at *
        have m0 : w6.cell? ⟨nb, 0, none⟩ = some (.int .i64 o.d) := by simp [World.cell?, hnb]
        have m1 : w6.cell? ⟨nb, 1, none⟩ = some (.int .i64 o.t) := by simp [World.cell?, hnb]
        have hnbl : nb < w6.heap.size := (Array.getElem?_eq_some_iff.1 hnb).1
        have hg2l : g2 < w6.heap.size := World.block_lt_of_cell? w6 _ a0
        clear x0 x1 x2 x3 hnb
        by_cases he : xe = 0
        · subst he
          by_cases hd : o.d = 4
          · by_cases hn : xn = 0
            · have HOT1 := Lib.hid (HOT.out i o _ HOI.out HXI.out (fun h => h.2.2 hn))
              go_wp2_with fail
              refine ⟨⟨i + 1, gn, cn, by omega, by rw [HOT1.out]; omega, by go_num, by rw [HOT1.out], rfl, by rw [HOT1.out]; exact HWN.out, HN.out⟩, by simp [intOf]; omega⟩
            · obtain ⟨e1, e2, e3, e4⟩ := HMA.out i o _ HOI.out HXI.out hd rfl hn
              dsimp only at e1
              subst e1
              have HE2 := Lib.hid e2; have HE4 := Lib.hid e4
              have HAQ := Lib.hid (HATW.out w6 (HN25.out.trans HN.out) (N i) e3)
              clear e2 e4
              obtain ⟨q, hq⟩ : ∃ q, N i = q := ⟨_, rfl⟩
              rw [hq] at hn a1 HE2 HE4 HAQ HWN HXI hNi ⊢
              go_upto_region 19 with ((with_reducible refine HAQ.out.mono ?_); rintro e w7 ⟨b7, c7, rfl, hN7, hb7, hW7⟩; have n1 : w7.cell? ⟨nb, 1, none⟩ = some (.int .i64 o.t) := (hN7.cell (a := ⟨nb, 1, none⟩) hnbl (fun x => x)).trans m1; have a1' : w7.cell? ⟨g2, i * 2 + 1, none⟩ = some (.int .i64 q) := (hN7.cell (a := ⟨g2, i * 2 + 1, none⟩) hg2l (fun x => x)).trans a1; have a0' : w7.cell? ⟨g2, i * 2, none⟩ = some (.int .i64 0) := (hN7.cell (a := ⟨g2, i * 2, none⟩) hg2l (fun x => x)).trans a0; have HW7 := Lib.hid hW7; have HN7 := Lib.hid hN7; clear hW7 hN7)
              have HWN7 := Lib.hid (HWN.out.kept HN7.out (fun x => x))
              have hN27 := (HN25.out.trans HN.out).trans HN7.out
              have hlt' : (ops.take i).length = i := by rw [List.length_take]; omega
              have HOF : Hid (∀ Wd, New w7 Wd → Calls Try.prog 27 #[.slice (some ⟨g1, 0, none⟩) i c1, .slice (some ⟨g2, 0, none⟩) ops.length c2, .int .i64 o.t] Wd fun e w' => ∃ v1 v2, e = .returned (.tuple #[v1, v2]) ∧ New Wd w' ∧
                  w'.ownsRow 0 47 4 v1 (own1 o.t ((ops.take i).zip (ans ops))).length (opRow (own1 o.t ((ops.take i).zip (ans ops)))) ∧ w'.ownsRow 0 49 2 v2 (ownA o.t ((ops.take i).zip (ans ops))).length (ansRow (ownA o.t ((ops.take i).zip (ans ops)))) ∧
                  (∀ g, v1.ownBlock = some g → Wd.heap.size ≤ g) ∧ ∀ g, v2.ownBlock = some g → Wd.heap.size ≤ g) := fun Wd hWd => by
                have h1 := of_law (some ⟨g1, 0, none⟩) (some ⟨g2, 0, none⟩) g1 g2 0 0 c1 c2 ops.length (ops.take i) (ans ops) o.t ((HO2.out.kept (hN27.trans hWd) (fun x => x)).take i) (HA2.out.kept (hN27.trans hWd)) HLL.out (by omega) (by omega) hlo2
                rw [hlt'] at h1
                exact h1
              have hic : (i : Int) ≤ (c1 : Int) := by omega
              clear hlt' hN27
              go_region_law (first | (go_simp; go_at_call 27; refine (HOF.out _ ((Chg.refl _ w7).drew)).mono ?_; rintro e w8 ⟨v8, v9, rfl, hN8, hr8, hr9, hg8, hg9⟩; obtain ⟨a8, g8, c8, rfl, hO8, _⟩ := row_len_ops hr8; obtain ⟨a9, c9, rfl⟩ := row_shape hr9; have HO8 := Lib.hid hO8; have HN8 : Hid (New w7 w8) := (Chg.refl (fun _ => False) w7).drew.trans hN8; clear hr8 hr9 hO8 hN8))
              all_goals
                obtain ⟨L, hL⟩ : ∃ L, own1 o.t ((ops.take i).zip (ans ops)) = L := ⟨_, rfl⟩
                have hLl : (own1 o.t ((ops.take i).zip (ans ops))).length ≤ 200 := by
                  have := length_own1 o.t ((ops.take i).zip (ans ops))
                  rw [List.length_zip, List.length_take] at this
                  omega
                have HMW : Hid (∀ (M : List (Int × Bool)) (k : Int), Marks M L → wroteAt ops i o.t k → mget k M = some true) := fun M k h1 h2 => by rw [← hL] at h1; exact marks_wrote h1 h2
                rw [hL] at HO8 hLl ⊢
                have hL2 : (L.length : Int) ≤ 200 := by omega
                have HW8 := Lib.hid (HW7.out.kept HN8.out (fun x => x)); have HWN8 := Lib.hid (HWN7.out.kept HN8.out (fun x => x))
                have HN58 : Hid (New w5 w8) := (HN.out.trans HN7.out).trans HN8.out
                clear hL HOF HAQ HOI HXI a0 a1 a0' a1' m0 m1 n1 HWN HWN7 HW7
                go_wp2_with fail
                have hmB : MapIs ekInt Value.bool (w8.alloc (.map #[] 0)) w8.heap.size [] := MapIs.new w8
                generalize hmb : w8.heap.size = mb at *
                go_loopw [126] (fun v wy => ∃ (j : Nat) (M : List (Int × Bool)), j ≤ L.length ∧ v = .int .i64 j ∧ New w8 wy ∧ MapIs ekInt Value.bool wy mb M ∧ Marks M (L.take j)) (fun v _ => L.length - (intOf v).toNat)
                case atStart => exact ⟨0, [], by omega, rfl, (Chg.refl _ w8).alloc _, hmB, fun y hy => by simp at hy⟩
                case round =>
                  obtain ⟨j, M, hj, rfl, hNy, hMy, hMk⟩ := hrel
                  by_cases hlt2 : j < L.length
                  · obtain ⟨y, hy⟩ : ∃ y, L[j]? = some y := ⟨_, List.getElem?_eq_getElem hlt2⟩
                    obtain rfl := HO8.out.ptr (fun e => by rw [e] at hlt2; simp at hlt2)
                    have hOy := HO8.out.kept hNy (fun x => x)
                    have x0 : wr.cell? ⟨g8, j * 4, none⟩ = some (.int .i64 y.d) := by have := hOy.cell j y hy 0 (by omega); rwa [Nat.zero_add] at this
                    have x1 : wr.cell? ⟨g8, j * 4 + 1, none⟩ = some (.int .i64 y.t) := by have := hOy.cell j y hy 1 (by omega); rwa [Nat.zero_add] at this
                    have x2 : wr.cell? ⟨g8, j * 4 + 2, none⟩ = some (.int .i64 y.k) := by have := hOy.cell j y hy 2 (by omega); rwa [Nat.zero_add] at this
                    have x3 : wr.cell? ⟨g8, j * 4 + 3, none⟩ = some (.int .i64 y.n) := by have := hOy.cell j y hy 3 (by omega); rwa [Nat.zero_add] at this
                    have b5 : (0 : Int) ≤ (j : Int) := by omega
                    have b6 : (j : Int) < (L.length : Int) := by omega
                    have hM3 : MapIs ekInt Value.bool (wr.alloc (.cells #[.int .i64 y.d, .int .i64 y.t, .int .i64 y.k, .int .i64 y.n] 47)) mb M := hMy.kept (Below.heap_alloc _ _ _ hMy.lt)
                    have hlk := run_lookup_map (ev := Value.bool) key_int Try.underlying53 hM3 (zero4 _) y.k false
                    obtain ⟨B, hB, hBt⟩ : ∃ B : Bool, ((mget y.k M).map Value.bool).getD (.bool false) = .bool B ∧ (mget y.k M = some true → B = true) := by
                      cases mget y.k M with
                      | none => exact ⟨false, rfl, fun h => by cases h⟩
                      | some v => exact ⟨v, rfl, fun h => by cases h; rfl⟩
                    simp only [Bool.false_eq_true, if_false, hB, ekInt] at hlk
                    have HMS : Hid (∀ Bn : Bool, (B = true → Bn = true) → (y.d = 2 ∨ y.d = 3 → Bn = true) → Marks (mput y.k Bn M) (L.take (j + 1))) := fun Bn h1 h2 => by
                      rw [List.take_succ_eq_append_getElem hlt2, (List.getElem?_eq_some_iff.1 hy).2]
                      exact hMk.step y Bn (fun h => h1 (hBt h)) h2
                    have HM3 := Lib.hid hM3
                    have HNY := Lib.hid (hNy.alloc (.cells #[.int .i64 y.d, .int .i64 y.t, .int .i64 y.k, .int .i64 y.n] 47))
                    have m0' : (wr.alloc (.cells #[.int .i64 y.d, .int .i64 y.t, .int .i64 y.k, .int .i64 y.n] 47)).cell? ⟨wr.heap.size, 0, none⟩ = some (.int .i64 y.d) := by rw [World.cell?_alloc_new]; rfl
                    have m2' : (wr.alloc (.cells #[.int .i64 y.d, .int .i64 y.t, .int .i64 y.k, .int .i64 y.n] 47)).cell? ⟨wr.heap.size, 2, none⟩ = some (.int .i64 y.k) := by rw [World.cell?_alloc_new]; rfl
                    clear hOy hM3 hB hBt hMy hMk hNy hy hmB
                    go_upto_region 24 with fail
                    generalize wr.alloc _ = wz at *
                    generalize wr.heap.size = nz at *
                    clear x0 x1 x2 x3
                    cases B
                    · by_cases d2 : y.d = 2
                      · go_wp2_with (refine wpList_mapUpd _ rfl _ _ _ 53 rfl key_int Try.underlying53 mb M y.k true rfl rfl rfl HM3.out ?_; intro w9 hM9 hC9)
                        exact ⟨⟨j + 1, _, by omega, by go_num, HNY.out.then hC9 (fun k hk e => by omega), hM9, HMS.out true (fun _ => rfl) (fun _ => rfl)⟩, by simp [intOf]; omega⟩
                      · by_cases d3 : y.d = 3
                        · go_wp2_with (refine wpList_mapUpd _ rfl _ _ _ 53 rfl key_int Try.underlying53 mb M y.k true rfl rfl rfl HM3.out ?_; intro w9 hM9 hC9)
                          exact ⟨⟨j + 1, _, by omega, by go_num, HNY.out.then hC9 (fun k hk e => by omega), hM9, HMS.out true (fun _ => rfl) (fun _ => rfl)⟩, by simp [intOf]; omega⟩
                        · go_wp2_with (refine wpList_mapUpd _ rfl _ _ _ 53 rfl key_int Try.underlying53 mb M y.k (y.d == 2 || y.d == 3) rfl rfl rfl HM3.out ?_; intro w9 hM9 hC9)
                          exact ⟨⟨j + 1, _, by omega, by go_num, HNY.out.then hC9 (fun k hk e => by omega), hM9, HMS.out _ (fun h => by cases h) (fun h => by omega)⟩, by simp [intOf]; omega⟩
                    · go_wp2_with (refine wpList_mapUpd _ rfl _ _ _ 53 rfl key_int Try.underlying53 mb M y.k true rfl rfl rfl HM3.out ?_; intro w9 hM9 hC9)
                      exact ⟨⟨j + 1, _, by omega, by go_num, HNY.out.then hC9 (fun k hk e => by omega), hM9, HMS.out true (fun _ => rfl) (fun _ => rfl)⟩, by simp [intOf]; omega⟩
                  · obtain rfl : j = L.length := by omega
                    rw [List.take_length] at hMk
                    have HMK := Lib.hid hMk; have HMY := Lib.hid hMy
                    have HW9 := Lib.hid (HW8.out.kept hNy (fun x => x)); have HWN9 := Lib.hid (HWN8.out.kept hNy (fun x => x))
                    have HN59 := Lib.hid (HN58.out.trans hNy)
                    clear hMk hMy hNy hmB hlt2 hj
                    go_wp2_with fail
                    go_loopw [150] (fun v wz => ∃ k : Nat, k ≤ 16 ∧ v = .int .i64 k ∧ wz = wr) (fun v _ => 16 - (intOf v).toNat)
                    case atStart => exact ⟨0, by omega, rfl, rfl⟩
                    case round =>
                      obtain ⟨k, hk, rfl, rfl⟩ := hrel
                      by_cases hk2 : k < 16
                      · obtain ⟨u, hu⟩ : ∃ u, (W q)[k]? = some u := ⟨_, List.getElem?_eq_getElem (by rw [HW16.out]; exact hk2)⟩
                        obtain ⟨u', hu'⟩ : ∃ u', (W (q - 1))[k]? = some u' := ⟨_, List.getElem?_eq_getElem (by rw [HW16.out]; exact hk2)⟩
                        have z0 := HW9.out.cell k u hu
                        have z1 := HWN9.out.cell k u' hu'
                        have b5 : (0 : Int) ≤ (k : Int) := by omega
                        have b6 : (k : Int) < 16 := by omega
                        have HU := Lib.hid hu; have HU' := Lib.hid hu'
                        clear hu hu'
                        by_cases huu : u = u'
                        · subst huu
                          go_wp2_with fail
                          exact ⟨⟨k + 1, by omega, by go_num, (by first | rfl | trivial)⟩, by simp [intOf]; omega⟩
                        · have hmt := HMW.out M k HMK.out (HE4.out k u u' HU.out HU'.out huu)
                          have hlk := run_lookup_map (ev := Value.bool) key_int Try.underlying53 HMY.out (zero4 _) (k : Int) false
                          rw [hmt] at hlk
                          simp only [Bool.false_eq_true, if_false, Option.map_some, Option.getD_some, ekInt] at hlk
                          clear hmt
                          go_wp2_with fail
                          exact ⟨⟨k + 1, by omega, by go_num, (by first | rfl | trivial)⟩, by simp [intOf]; omega⟩
                      · obtain rfl : k = 16 := by omega
                        clear hk2 hk
                        go_wp2_with fail
                        refine ⟨⟨i + 1, b7, c7, by omega, by rw [HE2.out]; omega, by go_num, by rw [HE2.out]; go_num, rfl, ?_, HN59.out⟩, by simp [intOf]; omega⟩
                        rw [HE2.out, Nat.add_sub_cancel]
                        exact HW9.out
          · have HOT1 := Lib.hid (HOT.out i o _ HOI.out HXI.out (fun h => hd h.1))
            go_wp2_with fail
            refine ⟨⟨i + 1, gn, cn, by omega, by rw [HOT1.out]; omega, by go_num, by rw [HOT1.out], rfl, by rw [HOT1.out]; exact HWN.out, HN.out⟩, by simp [intOf]; omega⟩
        · have HOT1 := Lib.hid (HOT.out i o _ HOI.out HXI.out (fun h => he h.2.1))
          go_wp2_with fail
          refine ⟨⟨i + 1, gn, cn, by omega, by rw [HOT1.out]; omega, by go_num, by rw [HOT1.out], rfl, by rw [HOT1.out]; exact HWN.out, HN.out⟩, by simp [intOf]; omega⟩
      · obtain rfl : i = ops.length := by omega
        rw [hnl] at hWn hNi ⊢
        have hLa : (1 : Int) ≤ (LEN : Int) := by have h1 := HLE.out; omega
        have hLb : (LEN : Int) ≤ 201 := by omega
        have HQ := Lib.hid (words_equal (c := cn) (c' := c3) hWn (HIL.out.kept hN))
        have HWn := Lib.hid hWn; have HN := Lib.hid hN
        have HOU := Lib.hid (HOUT.out _ (HN25.out.trans hN))
        have HQ2 : Hid (∀ w', New wr w' → Calls Try.prog 23 #[.slice (some ⟨gn, 0, none⟩) 16 cn, .slice (some ⟨b3, 0, none⟩) 16 c3] w' fun e w'' => e = .returned (.bool true) ∧ New w' w'') := fun w' hw => words_equal (HWn.out.kept hw (fun x => x)) ((HIL.out.kept HN.out).kept hw)
        clear hWn hN hSTART HQ
        go_wp2_with (first
          | ((with_reducible refine HOU.out.mono ?_); rintro e w7 ⟨rfl, hN7⟩)
          | ((with_reducible refine (HQ2.out _ hN7).mono ?_); rintro e w8 ⟨rfl, hN8⟩)
          | ((with_reducible refine (awake_any _).mono ?_); rintro e w9 ⟨rfl, hN9⟩))
        go_ret
        exact ⟨rfl, (((HN0.out.trans HN25.out).trans HN.out).trans (hN7.trans hN8)).trans hN9⟩
end
end Go.Proofs.Yteaeflmglppcdaa
