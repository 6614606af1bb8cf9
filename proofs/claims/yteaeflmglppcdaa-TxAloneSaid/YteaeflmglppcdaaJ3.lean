/- The walk of TxSums. -/
import Derived.Test.YteaeflmglppcdaaJ2
import Derived.Test.YteaeflmglppcdaaW0
import Derived.Test.YteaeflmglppcdaaN6
import Derived.Deep.DeepCutAuto
namespace Go.Proofs.Yteaeflmglppcdaa
open Go.RowKit Tx

def fixOp (o : Tx.Op) : Tx.Op := if o.d = 2 then { o with d := 3 } else o
def fixTo (ops : List Tx.Op) (i : Nat) : List Tx.Op := (ops.take i).map fixOp ++ ops.drop i
theorem length_fixTo (ops : List Tx.Op) (i : Nat) : (fixTo ops i).length = ops.length := by
  unfold fixTo
  rw [List.length_append, List.length_map, List.length_take, List.length_drop]
  omega
theorem fixTo_at {ops : List Tx.Op} {i : Nat} {o : Tx.Op} (h : ops[i]? = some o) : (fixTo ops i)[i]? = some o := by
  have hlt := (List.getElem?_eq_some_iff.1 h).1
  have hl : ((ops.take i).map fixOp).length = i := by rw [List.length_map, List.length_take]; omega
  unfold fixTo
  rw [List.getElem?_append_right (by omega), hl, Nat.sub_self, List.getElem?_drop, Nat.add_zero]
  exact h
theorem fixTo_succ {ops : List Tx.Op} {i : Nat} {o : Tx.Op} (h : ops[i]? = some o) : fixTo ops (i + 1) = (fixTo ops i).set i (fixOp o) := by
  have hlt := (List.getElem?_eq_some_iff.1 h).1
  have hl : ((ops.take i).map fixOp).length = i := by rw [List.length_map, List.length_take]; omega
  unfold fixTo
  rw [List.set_append_right _ _ (by omega), hl, Nat.sub_self, List.take_succ_eq_append_getElem hlt, (List.getElem?_eq_some_iff.1 h).2, List.map_append]
  rw [List.drop_eq_getElem_cons (i := i) hlt, List.append_assoc]
  rfl
theorem fix_all (ops : List Tx.Op) : ∀ o ∈ fixTo ops ops.length, o.d ≠ 2 := by
  intro o ho
  unfold fixTo at ho
  rw [List.take_length, List.drop_length, List.append_nil, List.mem_map] at ho
  obtain ⟨x, _, rfl⟩ := ho
  unfold fixOp
  split
  · show (3 : Int) ≠ 2; decide
  · assumption
theorem OpsAt.setD {w : World} {a : Option Addr} {b : Nat} {l : List Tx.Op} {i : Nat} {o : Tx.Op} (h : OpsAt w a b 0 l) (hi : l[i]? = some o) (d : Int) : OpsAt (w.setCell ⟨b, i * 4, none⟩ (.int .i64 d)) a b 0 (l.set i { o with d := d }) := by
  have hlt := (List.getElem?_eq_some_iff.1 hi).1
  refine ⟨by rw [List.length_set]; exact h.len, fun hne => h.ptr (fun e => by subst e; simp at hlt), fun j x hj q hq => ?_⟩
  rw [List.getElem?_set] at hj
  by_cases e : i = j
  · subst e
    rw [if_pos rfl, if_pos hlt] at hj
    cases hj
    have hc := h.cell i o hi q hq
    by_cases e0 : q = 0
    · subst e0
      rw [Nat.zero_add, Nat.add_zero] at hc ⊢
      rw [World.cell?_setCell_same _ _ _ (by rw [hc])]
      rfl
    · rw [World.cell?_setCell_other _ _ _ _ (fun e => by have := congrArg Addr.off e; simp at this; omega), hc]
      unfold opCell
      simp [e0]
  · rw [if_neg e] at hj
    have hc := h.cell j x hj q hq
    rw [World.cell?_setCell_other _ _ _ _ (fun e' => by have := congrArg Addr.off e'; simp at this; omega), hc]
theorem own1_ownL (t : Int) (z : List (Tx.Op × Ans)) : own1 t z = ownL t z := rfl
theorem blk_ints {w : World} {b : Nat} {f : Nat → Int} (h : Blk w b 3 16 (fun k => .int .i64 (f k))) : IntsAt w (some ⟨b, 0, none⟩) b 0 ((List.range 16).map f) := by
  refine ⟨by simp [maxLen], fun _ => rfl, fun i x hi => ?_⟩
  have hlt := (List.getElem?_eq_some_iff.1 hi).1
  rw [List.length_map, List.length_range] at hlt
  rw [List.getElem?_map, List.getElem?_range hlt] at hi
  cases hi
  rw [Nat.zero_add]
  exact h.cell hlt
theorem ser_ints {w : World} {a : Option Addr} {g c : Nat} {ops : List Tx.Op} (hO : OpsAt w a g 0 ops) (hl : ops.length ≤ 200) :
    Calls Try.prog 18 #[.slice a ops.length c] w fun e w' => ∃ a b c, e = .returned (.tuple #[.slice a (serial (Tx.run St.zero ops).2).length c, .int .i64 0]) ∧ New w w' ∧ IntsAt w' a b 0 (serial (Tx.run St.zero ops).2) ∧ (serial (Tx.run St.zero ops).2).length ≤ 401 := by
  refine (serial_yes a g 0 c ops hO hl).mono ?_
  rintro e w' ⟨v, rfl, hN', hown, _⟩
  obtain ⟨a, c, rfl⟩ := row_shape hown
  obtain ⟨g, hA, _⟩ := ints_row hown rfl
  have hG : Good (Tx.run St.zero ops).2 (0 + ops.length) := Good.zero.run
  have h1 := hG.insts
  have h2 := hG.readers
  have h3 := length_serial2 (Tx.run St.zero ops).2
  exact ⟨a, g, c, rfl, hN', hA, by omega⟩
theorem row_free {w : World} {B : Nat} {T : TypeId} {sz n : Nat} {v : Value} {xs : List Value} (h : w.ownsRow B T sz v n xs) : ∀ g, v.ownBlock = some g → ∀ k, w.frozen? ⟨g, k, none⟩ = false := by
  intro g hg k
  rcases h.2 with ⟨rfl, _⟩ | ⟨g', cap, cur, rfl, _, hb, _⟩
  · simp [Value.ownBlock] at hg
  · simp [Value.ownBlock] at hg
    subst hg
    simp [World.frozen?, hb]
section
variable {w : World}
set_option maxRecDepth 100000 in
set_option maxHeartbeats 4000000 in
theorem sums_walk (a : Option Addr) (b off c : Nat) (xs : List Int) (hU : U32At w a b off xs) (hc : xs.length ≤ c) (hc3 : c ≤ maxLen) :
    Calls Try.prog 9 #[.slice a xs.length c] w fun e w' => e = .returned (.bool true) ∧ New w w' := by
  by_cases hbig : 200 < xs.length
  · have hb2 : ¬ (xs.length : Int) ≤ 200 := by omega
    clear hU
    go_enter Try.func9, Try.ntmps9
    go_wp2_with ((with_reducible refine (awake_any _).mono ?_); rintro e w9 ⟨rfl, hN9⟩)
    go_ret
    exact ⟨rfl, hN9⟩
  · have hl : xs.length ≤ 200 := by omega
    have hl2 : (xs.length : Int) ≤ 200 := by omega
    have HM := Lib.hid (made_any a b off c xs hU hl hc hc3)
    have hmk := make16
    clear hU
    go_enter Try.func9, Try.ntmps9
    go_wp2_with ((with_reducible refine HM.out.mono ?_); rintro e w1 ⟨ops, v1, rfl, hN1, hlo, hr1, hg1⟩; have hlo2 : ops.length ≤ 200 := (by omega); have hlo3 : (ops.length : Int) ≤ 200 := (by omega); obtain ⟨a1, c1, rfl⟩ := row_shape hr1; clear hlo)
    obtain ⟨g1, hO1, hp1⟩ := ops_row hr1 rfl
    have hfz : ops ≠ [] → ∀ k, w1.frozen? ⟨g1, k, none⟩ = false := fun hne k => by
      have := hp1 (List.length_pos_iff.2 hne)
      subst this
      exact row_free hr1 g1 rfl k
    have hgw : ops ≠ [] → w.heap.size ≤ g1 := fun hne => by
      have := hp1 (List.length_pos_iff.2 hne)
      subst this
      exact hg1 g1 rfl
    have HGW := Lib.hid hgw
    clear hg1 hr1 hp1 HM hgw
    go_loopw [27] (fun v wr => ∃ i : Nat, i ≤ ops.length ∧ v = .int .i64 i ∧ New w wr ∧ OpsAt wr a1 g1 0 (fixTo ops i) ∧ (ops ≠ [] → ∀ k, wr.frozen? ⟨g1, k, none⟩ = false)) (fun v _ => ops.length - (intOf v).toNat)
    case atStart => exact ⟨0, by omega, rfl, hN1, hO1, hfz⟩
    case round =>
      obtain ⟨i, hi, rfl, hN, hO, hf⟩ := hrel
      by_cases hlt : i < ops.length
      · obtain ⟨o, ho⟩ : ∃ o, ops[i]? = some o := ⟨_, List.getElem?_eq_getElem hlt⟩
        have hne : ops ≠ [] := fun e => by rw [e] at hlt; simp at hlt
        have hat := fixTo_at ho
        obtain rfl := hO.ptr (fun e => by rw [e] at hat; simp at hat)
        have x0 : wr.cell? ⟨g1, i * 4, none⟩ = some (.int .i64 o.d) := by have := hO.cell i o hat 0 (by omega); rwa [Nat.zero_add] at this
        have f0 := hf hne (i * 4)
        have b3 : (0 : Int) ≤ (i : Int) := by omega
        have b4 : (i : Int) < (ops.length : Int) := by omega
        have HS := Lib.hid (fixTo_succ ho)
        have HO := Lib.hid hO; have HN := Lib.hid hN; have HF := Lib.hid hf; have HAT := Lib.hid hat; have HNE := Lib.hid hne
        clear hO hN hf hat ho hne hN1 hO1 hfz
        by_cases hd : o.d = 2
        · have HD : Hid (fixOp o = { o with d := 3 }) := if_pos hd
          go_wp2_with fail
          refine ⟨⟨i + 1, by omega, by go_num, HN.out.setCell (fun h => by have h' : g1 < w.heap.size := h; have := HGW.out HNE.out; omega) _, ?_, fun _ k => by rw [World.frozen?_setCell]; exact HF.out HNE.out k⟩, by simp [intOf]; omega⟩
          rw [HS.out, HD.out]
          exact HO.out.setD HAT.out 3
        · have HD : Hid (fixOp o = o) := if_neg hd
          go_wp2_with fail
          refine ⟨⟨i + 1, by omega, by go_num, HN.out, ?_, HF.out⟩, by simp [intOf]; omega⟩
          have hse : (fixTo ops i).set i o = fixTo ops i := by
            obtain ⟨h1, h2⟩ := List.getElem?_eq_some_iff.1 HAT.out
            rw [← h2]; exact List.set_getElem_self h1
          rw [HS.out, HD.out, hse]
          exact HO.out
      · obtain rfl : i = ops.length := by omega
        obtain ⟨ops2, hop2⟩ : ∃ ops2, fixTo ops ops.length = ops2 := ⟨_, rfl⟩
        have hd2 : ∀ o ∈ ops2, o.d ≠ 2 := by rw [← hop2]; exact fix_all ops
        have hl2 : ops.length = ops2.length := by rw [← hop2, length_fixTo]
        rw [hop2] at hO
        have hb1 : g1 < wr.heap.size ∨ ops2 = [] := by
          by_cases e : ops2 = []
          · exact .inr e
          · exact .inl (hO.lt e)
        rw [hl2] at hlo2 hlo3
        clear hop2 hf HGW hlt hi hN1 hO1 hfz
        rw [hl2]
        clear hl2
        have hb9 : ¬ (ops2.length : Int) < (ops2.length : Int) := by omega
        have HA := Lib.hid (answered_any a1 g1 0 c1 ops2 hO hb1 hlo2)
        have HLW : Hid (∀ w', New wr w' → Calls Try.prog 16 #[.slice a1 ops2.length c1] w' fun e w'' => ∃ b c, e = .returned (.tuple #[.int .i64 (last (Tx.run St.zero ops2).2 : Int), .slice (some ⟨b, 0, none⟩) 16 c, .int .i64 0]) ∧ New w' w'' ∧ IntsAt w'' (some ⟨b, 0, none⟩) b 0 (wordsI ((Tx.run St.zero ops2).2.inst (last (Tx.run St.zero ops2).2)))) :=
          fun w' hw => last_words (hO.kept hw (fun x => x)) hlo2 rfl rfl
        have HSE : Hid (∀ w', New wr w' → Calls Try.prog 18 #[.slice a1 ops2.length c1] w' fun e w'' => ∃ a b c, e = .returned (.tuple #[.slice a (serial (Tx.run St.zero ops2).2).length c, .int .i64 0]) ∧ New w' w'' ∧ IntsAt w'' a b 0 (serial (Tx.run St.zero ops2).2) ∧ (serial (Tx.run St.zero ops2).2).length ≤ 401) :=
          fun w' hw => ser_ints (hO.kept hw (fun x => x)) hlo2
        have HO := Lib.hid hO; have HN := Lib.hid hN
        have hll : (ans ops2).length = ops2.length := length_run ops2 St.zero
        have HLL := Lib.hid hll
        obtain ⟨sr, hsr⟩ : ∃ sr, serial (Tx.run St.zero ops2).2 = sr := ⟨_, rfl⟩
        have HX : Hid (∀ k : Nat, k < 16 → sr.foldl (fun acc t => sumk t (ops2.zip (ans ops2)) k acc) 0 = ((Tx.run St.zero ops2).2.inst (last (Tx.run St.zero ops2).2)).words k) := fun k hk => by
          rw [← hsr]; exact sums_all ops2 hd2 k hk
        have HKB : Hid (∀ p ∈ ops2.zip (ans ops2), p.2.e = 0 → p.1.d = 3 → 0 ≤ p.1.k ∧ p.1.k ≤ 15) := fun p hp => add_key hp
        rw [hsr] at HSE
        generalize (last (Tx.run St.zero ops2).2 : Int) = NN at *
        clear hO hN hd2 hb1 hll hsr
        go_wp2_with (first
          | ((with_reducible refine HA.out.mono ?_); rintro e w2 ⟨v2, rfl, hN2, hr2, _⟩; obtain ⟨a2, g2, c2, rfl, hA2⟩ := row_len_ans hr2 HLL.out; change AnsAt w2 a2 g2 0 (ans ops2) at hA2; have HA2 := Lib.hid hA2; clear hr2 hA2 HA)
          | ((with_reducible refine (HLW.out _ hN2).mono ?_); rintro e w3 ⟨b3, c3, rfl, hN3, hI3⟩; have hN23 := hN2.trans hN3; clear HLW)
          | ((with_reducible refine (HSE.out _ hN23).mono ?_); rintro e w4 ⟨a4, g4, c4, rfl, hN4, hI4, hsl⟩; have hsl2 : (sr.length : Int) ≤ 401 := (by omega); clear HSE))
        have hN24 := hN23.trans hN4
        have HN4 := Lib.hid ((HN.out.trans hN24).alloc (.cells zeros16 3))
        have hwb : w.heap.size ≤ w4.heap.size := (HN.out.trans hN24).size
        have HOA : Hid (∀ W, Chg (fun k => k = w4.heap.size) (w4.alloc (.cells zeros16 3)) W → OpsAt W a1 g1 0 ops2) := fun W hW => by
          by_cases e : ops2 = []
          · subst e; exact ⟨by decide, fun h => absurd rfl h, fun i o hi => by simp at hi⟩
          · have h1 := HO.out.kept hN24 (fun x => x)
            exact (h1.kept ((Chg.refl (fun _ => False) w4).alloc _) (fun x => x)).kept hW (fun e' => by have := h1.lt e; omega)
        have HAAt : Hid (∀ W, Chg (fun k => k = w4.heap.size) (w4.alloc (.cells zeros16 3)) W → AnsAt W a2 g2 0 (ans ops2)) := fun W hW => by
          have h1 := (HA2.out.kept (hN3.trans hN4))
          refine ⟨h1.len, h1.ptr, fun i x hi => ?_⟩
          obtain ⟨e0, e1⟩ := h1.cell i x hi
          have hb := World.block_lt_of_cell? w4 _ e0
          have hC : Chg (fun k => k = w4.heap.size) w4 W := ((Chg.refl (fun k => k = w4.heap.size) w4).alloc _).trans hW
          exact ⟨(hC.cell (a := ⟨g2, 0 + i * 2, none⟩) hb (fun (e : g2 = w4.heap.size) => by have hb' : g2 < w4.heap.size := hb; omega)).trans e0, (hC.cell (a := ⟨g2, 0 + i * 2 + 1, none⟩) hb (fun (e : g2 = w4.heap.size) => by have hb' : g2 < w4.heap.size := hb; omega)).trans e1⟩
        have HIA : Hid (∀ W, Chg (fun k => k = w4.heap.size) (w4.alloc (.cells zeros16 3)) W → IntsAt W a4 g4 0 sr) := fun W hW => by
          refine ⟨hI4.len, hI4.ptr, fun i x hi => ?_⟩
          have e0 := hI4.cell i x hi
          have hb := World.block_lt_of_cell? w4 _ e0
          have hC : Chg (fun k => k = w4.heap.size) w4 W := ((Chg.refl (fun k => k = w4.heap.size) w4).alloc _).trans hW
          exact (hC.cell (a := ⟨g4, 0 + i, none⟩) hb (fun (e : g4 = w4.heap.size) => by have hb' : g4 < w4.heap.size := hb; omega)).trans e0
        have HIW : Hid (∀ W, Chg (fun k => k = w4.heap.size) (w4.alloc (.cells zeros16 3)) W → IntsAt W (some ⟨b3, 0, none⟩) b3 0 (wordsI ((Tx.run St.zero ops2).2.inst (last (Tx.run St.zero ops2).2)))) := fun W hW => by
          have h1 := hI3.kept hN4
          refine ⟨h1.len, h1.ptr, fun i x hi => ?_⟩
          have e0 := h1.cell i x hi
          have hb := World.block_lt_of_cell? w4 _ e0
          have hC : Chg (fun k => k = w4.heap.size) w4 W := ((Chg.refl (fun k => k = w4.heap.size) w4).alloc _).trans hW
          exact (hC.cell (a := ⟨b3, 0 + i, none⟩) hb (fun (e : b3 = w4.heap.size) => by have hb' : b3 < w4.heap.size := hb; omega)).trans e0
        have hBk : Blk (w4.alloc (.cells zeros16 3)) w4.heap.size 3 16 (fun _ => .int .i64 0) := Blk.new w4 zeros16 3 (fun _ => .int .i64 0) rfl (fun i hi => by
          have : i = 0 ∨ i = 1 ∨ i = 2 ∨ i = 3 ∨ i = 4 ∨ i = 5 ∨ i = 6 ∨ i = 7 ∨ i = 8 ∨ i = 9 ∨ i = 10 ∨ i = 11 ∨ i = 12 ∨ i = 13 ∨ i = 14 ∨ i = 15 := by omega
          rcases this with rfl | rfl | rfl | rfl | rfl | rfl | rfl | rfl | rfl | rfl | rfl | rfl | rfl | rfl | rfl | rfl <;> rfl)
        have hsb : w4.heap.size < (w4.alloc (.cells zeros16 3)).heap.size := by simp
        have HXL : Hid (wordsI ((Tx.run St.zero ops2).2.inst (last (Tx.run St.zero ops2).2)) = (List.range 16).map (fun k : Nat => sr.foldl (fun acc t => sumk t (ops2.zip (ans ops2)) (k : Int) acc) 0)) := by
          show _ = _
          unfold wordsI
          exact List.map_congr_left fun k hk => (HX.out k (by simpa using hk)).symm
        clear hI3 hI4 hN2 hN3 hN4 hN23 hN24 HX HA2 HO HN
        generalize w4.alloc (.cells zeros16 3) = W6 at *
        generalize w4.heap.size = bs at *
        generalize wordsI ((Tx.run St.zero ops2).2.inst (last (Tx.run St.zero ops2).2)) = XX at *
        go_loopw [71] (fun v wr => ∃ i : Nat, i ≤ sr.length ∧ v = .int .i64 i ∧ Chg (fun k => k = bs) W6 wr ∧ Blk wr bs 3 16 (fun k => .int .i64 ((sr.take i).foldl (fun acc t => sumk t (ops2.zip (ans ops2)) k acc) 0))) (fun v _ => sr.length - (intOf v).toNat)
        case atStart => exact ⟨0, by omega, rfl, Chg.refl _ _, hBk⟩
        case round =>
          obtain ⟨i, hi, rfl, hC, hB⟩ := hrel
          by_cases hlt : i < sr.length
          · obtain ⟨t, ht⟩ : ∃ t, sr[i]? = some t := ⟨_, List.getElem?_eq_getElem hlt⟩
            have hIA := HIA.out _ hC
            obtain rfl := hIA.ptr (fun e => by rw [e] at hlt; simp at hlt)
            have x0 : wr.cell? ⟨g4, i, none⟩ = some (.int .i64 t) := by have := hIA.cell i t ht; rwa [Nat.zero_add] at this
            have b3 : (0 : Int) ≤ (i : Int) := by omega
            have b4 : (i : Int) < (sr.length : Int) := by omega
            have hOF := Lib.hid (of_law a1 a2 g1 g2 0 0 c1 c2 ops2.length ops2 (ans ops2) t (HOA.out _ hC) (HAAt.out _ hC) HLL.out (Nat.le_refl _) hlo2 hlo2)
            have hfo : ∀ k : Nat, (sr.take (i + 1)).foldl (fun acc t => sumk t (ops2.zip (ans ops2)) k acc) 0 = sumk t (ops2.zip (ans ops2)) k ((sr.take i).foldl (fun acc t => sumk t (ops2.zip (ans ops2)) k acc) 0) := fun k => by
              rw [List.take_succ_eq_append_getElem hlt, List.foldl_append, (List.getElem?_eq_some_iff.1 ht).2]
              rfl
            have HFO := Lib.hid hfo
            have hml : (own1 t (ops2.zip (ans ops2))).length ≤ 200 := by have := length_own1 t (ops2.zip (ans ops2)); rw [List.length_zip] at this; omega
            have HKB2 : Hid (∀ x ∈ own1 t (ops2.zip (ans ops2)), x.d = 3 → 0 ≤ x.k ∧ x.k ≤ 15) := fun x hx hd => by
              unfold own1 at hx
              rw [List.mem_map] at hx
              obtain ⟨p, hp, rfl⟩ := hx
              rw [List.mem_filter] at hp
              have h2 := hp.2
              simp at h2
              exact HKB.out p hp.1 h2.2 hd
            have HC := Lib.hid hC; have HB := Lib.hid hB
            have hbw := hB.lt
            clear hIA hC hB ht hfo hBk
            go_wp2_with ((with_reducible refine hOF.out.mono ?_); rintro e w7 ⟨v7, v8, rfl, hN7, hr7, hr8, hg7, hg8⟩; obtain ⟨a7, g7, c7, rfl, hO7, _⟩ := row_len_ops hr7; obtain ⟨a8, c8, rfl⟩ := row_shape hr8)
            obtain ⟨L, hL⟩ : ∃ L, own1 t (ops2.zip (ans ops2)) = L := ⟨_, rfl⟩
            have HSU : Hid (∀ k base, sumk t (ops2.zip (ans ops2)) k base = L.foldl (addk k) base) := fun k base => by rw [← hL]; rfl
            rw [hL] at hO7 hml HKB2 ⊢
            have hge7 : L ≠ [] → bs < g7 := fun hne => by
              have := hO7.ptr hne
              subst this
              have := hg7 g7 rfl
              omega
            have HGE := Lib.hid hge7
            have HC7 := Lib.hid (HC.out.trans ((hN7.mono (fun _ _ x => x.elim)) : Chg (fun k => k = bs) wr w7))
            have HB7 := Lib.hid (hN7.blk HB.out (fun x => x))
            have HO7 := Lib.hid hO7
            have hml2 : (L.length : Int) ≤ 200 := by omega
            clear hO7 hr7 hr8 hg7 hg8 hN7 hL hge7 hOF x0
            go_loopw [84] (fun v wy => ∃ j : Nat, j ≤ L.length ∧ v = .int .i64 j ∧ Chg (fun k => k = bs) w7 wy ∧ Blk wy bs 3 16 (fun k => .int .i64 ((L.take j).foldl (addk k) ((sr.take i).foldl (fun acc t => sumk t (ops2.zip (ans ops2)) k acc) 0)))) (fun v _ => L.length - (intOf v).toNat)
            case atStart => exact ⟨0, by omega, rfl, Chg.refl _ _, HB7.out⟩
            case round =>
              obtain ⟨j, hj, rfl, hC, hB⟩ := hrel
              by_cases hlt2 : j < L.length
              · obtain ⟨x, hx⟩ : ∃ x, L[j]? = some x := ⟨_, List.getElem?_eq_getElem hlt2⟩
                have hne : L ≠ [] := fun e => by rw [e] at hlt2; simp at hlt2
                obtain rfl := HO7.out.ptr hne
                have hgb := HGE.out hne
                have hO := HO7.out.kept hC (fun e => by omega)
                have x0 : wr.cell? ⟨g7, j * 4, none⟩ = some (.int .i64 x.d) := by have := hO.cell j x hx 0 (by omega); rwa [Nat.zero_add] at this
                have x1 : wr.cell? ⟨g7, j * 4 + 1, none⟩ = some (.int .i64 x.t) := by have := hO.cell j x hx 1 (by omega); rwa [Nat.zero_add] at this
                have x2 : wr.cell? ⟨g7, j * 4 + 2, none⟩ = some (.int .i64 x.k) := by have := hO.cell j x hx 2 (by omega); rwa [Nat.zero_add] at this
                have x3 : wr.cell? ⟨g7, j * 4 + 3, none⟩ = some (.int .i64 x.n) := by have := hO.cell j x hx 3 (by omega); rwa [Nat.zero_add] at this
                have b5 : (0 : Int) ≤ (j : Int) := by omega
                have b6 : (j : Int) < (L.length : Int) := by omega
                have m0 : (wr.alloc (.cells #[.int .i64 x.d, .int .i64 x.t, .int .i64 x.k, .int .i64 x.n] 47)).cell? ⟨wr.heap.size, 0, none⟩ = some (.int .i64 x.d) := by rw [World.cell?_alloc_new]; rfl
                have m2 : (wr.alloc (.cells #[.int .i64 x.d, .int .i64 x.t, .int .i64 x.k, .int .i64 x.n] 47)).cell? ⟨wr.heap.size, 2, none⟩ = some (.int .i64 x.k) := by rw [World.cell?_alloc_new]; rfl
                have m3 : (wr.alloc (.cells #[.int .i64 x.d, .int .i64 x.t, .int .i64 x.k, .int .i64 x.n] 47)).cell? ⟨wr.heap.size, 3, none⟩ = some (.int .i64 x.n) := by rw [World.cell?_alloc_new]; rfl
                have HC9 := Lib.hid (hC.alloc (.cells #[.int .i64 x.d, .int .i64 x.t, .int .i64 x.k, .int .i64 x.n] 47))
                have HB9 := Lib.hid (hB.alloc (.cells #[.int .i64 x.d, .int .i64 x.t, .int .i64 x.k, .int .i64 x.n] 47))
                have HTK : Hid (∀ k acc, (L.take (j + 1)).foldl (addk k) acc = addk k ((L.take j).foldl (addk k) acc) x) := fun k acc => by
                  rw [List.take_succ_eq_append_getElem hlt2, List.foldl_append, (List.getElem?_eq_some_iff.1 hx).2]
                  rfl
                have HKK : Hid (x.d = 3 → 0 ≤ x.k ∧ x.k ≤ 15) := HKB2.out x (List.mem_of_getElem? hx)
                clear hO hC hB hx hne
                go_upto_region 23 with fail
                generalize wr.alloc _ = wz at *
                generalize wr.heap.size = nb at *
                clear x0 x1 x2 x3
                by_cases hd : x.d = 3
                · obtain ⟨k0, k1⟩ := HKK.out hd
                  have k2 : x.k < 16 := by omega
                  have cs := HB9.out.cell (i := x.k.toNat) (by omega)
                  have fs := HB9.out.free x.k.toNat
                  obtain ⟨acc, hacc⟩ : ∃ acc, (L.take j).foldl (addk (x.k.toNat : Nat)) ((sr.take i).foldl (fun acc t => sumk t (ops2.zip (ans ops2)) (x.k.toNat : Nat) acc) 0) = acc := ⟨_, rfl⟩
                  rw [hacc] at cs
                  have HAC := Lib.hid hacc
                  clear hacc
                  go_upto_region 24 with fail
                  go_region_law (first | (go_simp; go_at_call 28; refine (word_any _ _).mono ?_; rintro e w1 ⟨rfl, rfl⟩))
                  all_goals
                    have hwv : w32 (IntKind.i64.wrap (acc + x.n)) = w32 (acc + x.n) := w32_wrap _
                    rw [hwv]
                    have HC8 : Hid (Chg (fun k => k = bs) w7 (wz.setCell ⟨bs, x.k.toNat, none⟩ (.int .i64 (w32 (acc + x.n)))).drew) := (HC9.out.setCell (fun _ => rfl) _).drew
                    have HB8 : Hid (Blk (wz.setCell ⟨bs, x.k.toNat, none⟩ (.int .i64 (w32 (acc + x.n)))).drew bs 3 16 (fun k => .int .i64 ((L.take (j + 1)).foldl (addk k) ((sr.take i).foldl (fun acc t => sumk t (ops2.zip (ans ops2)) k acc) 0)))) := (HB9.out.set x.k.toNat (.int .i64 (w32 (acc + x.n)))).drew.congr fun q hq => by
                      unfold upd
                      rw [HTK.out]
                      split
                      · rename_i e
                        subst e
                        rw [HAC.out, show addk ((x.k.toNat : Nat) : Int) acc x = w32 (acc + x.n) from if_pos ⟨hd, by omega⟩]
                      · rename_i e
                        rw [show ∀ acc : Int, addk ((q : Nat) : Int) acc x = acc from fun acc => if_neg (fun h => e (by omega))]
                    clear hwv HC9 HB9 cs fs m0 m2 m3
                    go_wp2_with fail
                    exact ⟨⟨j + 1, by omega, by go_num, HC8.out, HB8.out⟩, by simp [intOf]; omega⟩
                · go_wp2_with fail
                  refine ⟨⟨j + 1, by omega, by go_num, HC9.out, HB9.out.congr fun k hk => ?_⟩, by simp [intOf]; omega⟩
                  rw [HTK.out]
                  unfold addk
                  rw [if_neg (fun h => hd h.1)]
              · obtain rfl : j = L.length := by omega
                rw [List.take_length] at hB
                have HC9 := Lib.hid hC; have HB9 := Lib.hid hB
                clear hC hB hlt2 hj
                go_wp2_with fail
                refine ⟨⟨i + 1, by omega, by go_num, HC7.out.trans HC9.out, HB9.out.congr fun k hk => ?_⟩, by simp [intOf]; omega⟩
                rw [HFO.out, HSU.out]
          · obtain rfl : i = sr.length := by omega
            rw [List.take_length] at hB
            have hIs := blk_ints hB
            have hIW := HIW.out _ hC
            rw [HXL.out] at hIW
            have HQ : Hid (Calls Try.prog 23 #[.slice (some ⟨bs, 0, none⟩) 16 16, .slice (some ⟨b3, 0, none⟩) 16 c3] wr fun e w' => e = .returned (.bool true) ∧ New wr w') := by
              have h := equal_new (c := 16) (c' := c3) hIs hIW
              rw [List.length_map, List.length_range, decide_eq_true rfl] at h
              exact h
            have HF : Hid (∀ w9, New wr w9 → New w w9) := fun w9 h9 => HN4.out.then (hC.then (S := fun k => k = bs) h9 (fun _ _ x => x.elim)) (fun k hk e => by omega)
            clear hIs hIW hB hC hBk
            go_wp2_with (first
              | ((with_reducible refine HQ.out.mono ?_); rintro e w8 ⟨rfl, hN8⟩)
              | ((with_reducible refine (awake_any _).mono ?_); rintro e w9 ⟨rfl, hN9⟩))
            go_ret
            exact ⟨rfl, HF.out _ (hN8.trans hN9)⟩
end
end Go.Proofs.Yteaeflmglppcdaa
