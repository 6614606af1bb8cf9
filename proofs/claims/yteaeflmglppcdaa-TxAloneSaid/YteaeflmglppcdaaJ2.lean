/- The walk of TxNobody. -/
import Derived.Test.YteaeflmglppcdaaJ0
import Derived.Test.YteaeflmglppcdaaJ1
import Derived.Test.YteaeflmglppcdaaN0
import Derived.Test.YteaeflmglppcdaaN3
namespace Go.Proofs.Yteaeflmglppcdaa
open Go.RowKit Tx

theorem row_len_ops {w : World} {v : Value} {ops : List Tx.Op} (h : w.ownsRow 0 47 4 v ops.length (opRow ops)) : ∃ a g c, v = .slice a ops.length c ∧ OpsAt w a g 0 ops ∧ (g < w.heap.size ∨ ops = []) := by
  obtain ⟨a, c, rfl⟩ := row_shape h
  obtain ⟨g, hO, _⟩ := ops_row h rfl
  refine ⟨a, g, c, rfl, hO, ?_⟩
  by_cases e : ops = []
  · exact .inr e
  · exact .inl (hO.lt e)
theorem row_len_ans {w : World} {v : Value} {n : Nat} {l : List Ans} (h : w.ownsRow 0 49 2 v n (ansRow l)) (hl : l.length = n) : ∃ a g c, v = .slice a n c ∧ AnsAt w a g 0 l := by
  obtain ⟨a, c, rfl⟩ := row_shape h
  obtain ⟨g, hO, _⟩ := ans_row h hl
  exact ⟨a, g, c, rfl, hO⟩
theorem others_take {t : Nat} {z : List (Tx.Op × Ans)} {j : Nat} {p : Tx.Op × Ans} (h : z[j]? = some p) : others t (z.take (j + 1)) = others t (z.take j) ++ if p.1.t ≠ (t : Int) then [p] else [] := by
  have hlt := (List.getElem?_eq_some_iff.1 h).1
  unfold others
  rw [List.take_succ_eq_append_getElem hlt, List.filter_append, (List.getElem?_eq_some_iff.1 h).2]
  by_cases h1 : p.1.t = (t : Int) <;> simp [h1]
theorem last_words {w : World} {a : Option Addr} {g c : Nat} {ops : List Tx.Op} {N : Int} {X : List Int} (hO : OpsAt w a g 0 ops) (hl : ops.length ≤ 200) (hN : (last (Tx.run St.zero ops).2 : Int) = N)
    (hX : wordsI ((Tx.run St.zero ops).2.inst (last (Tx.run St.zero ops).2)) = X) :
    Calls Try.prog 16 #[.slice a ops.length c] w fun e w' => ∃ b c, e = .returned (.tuple #[.int .i64 N, .slice (some ⟨b, 0, none⟩) 16 c, .int .i64 0]) ∧ New w w' ∧ IntsAt w' (some ⟨b, 0, none⟩) b 0 X := by
  refine (last_yes a g 0 c ops hO hl).mono ?_
  rintro e w' ⟨v, rfl, hN', hown, _⟩
  obtain ⟨a, c, rfl⟩ := row_shape hown
  rw [wordsL_intRow, hX] at hown
  obtain ⟨g, hA, ha⟩ := ints_row hown (by rw [← hX]; simp [wordsI])
  obtain rfl := ha (by decide)
  rw [hN]
  exact ⟨g, c, rfl, hN', hA⟩
section
variable {w : World}
set_option maxRecDepth 100000 in
set_option maxHeartbeats 4000000 in
theorem nobody_walk (a : Option Addr) (b off c : Nat) (xs : List Int) (n : Int) (hU : U32At w a b off xs) (hc : xs.length ≤ c) (hc3 : c ≤ maxLen) (n0 : 0 ≤ n) (n1 : n ≤ 255) :
    Calls Try.prog 8 #[.slice a xs.length c, .int .u8 n] w fun e w' => e = .returned (.bool true) ∧ New w w' := by
  by_cases hbig : 200 < xs.length
  · have hb2 : ¬ (xs.length : Int) ≤ 200 := by omega
    clear hU
    go_enter Try.func8, Try.ntmps8
    go_wp2_with ((with_reducible refine (awake_any _).mono ?_); rintro e w9 ⟨rfl, hN9⟩)
    go_ret
    exact ⟨rfl, hN9⟩
  · have hl : xs.length ≤ 200 := by omega
    have hl2 : (xs.length : Int) ≤ 200 := by omega
    have HM := Lib.hid (made_any a b off c xs hU hl hc hc3)
    have hT : (wrap64 n).tmod 16 = ((n.toNat % 16 : Nat) : Int) := by
      have : wrap64 n = n := by simp [wrap64, IntKind.wrap]; omega
      rw [this, Int.tmod_eq_emod_of_nonneg n0]
      omega
    clear hU
    go_enter Try.func8, Try.ntmps8
    go_wp2_with (first
      | ((with_reducible refine HM.out.mono ?_); rintro e w1 ⟨ops, v1, rfl, hN1, hlo, hr1, hg1⟩; obtain ⟨a1, g1, c1, rfl, hO1, hb1⟩ := row_len_ops hr1; have hlo2 : ops.length ≤ 200 := (by omega); have hlo3 : (ops.length : Int) ≤ 200 := (by omega); have HA := Lib.hid (answered_any a1 g1 0 c1 ops hO1 hb1 hlo2); clear hr1 hlo)
      | ((with_reducible refine HA.out.mono ?_); rintro e w2 ⟨v2, rfl, hN2, hr2, hg2⟩; obtain ⟨a2, g2, c2, rfl, hA2⟩ := row_len_ans hr2 (length_run ops St.zero); clear hr2))
    obtain ⟨T, hTT⟩ : ∃ T : Nat, n % 16 = (T : Int) := ⟨(n % 16).toNat, by omega⟩
    rw [hTT]
    clear hT hTT
    have HO := Lib.hid (hO1.kept hN2 (fun x => x)); have HAA := Lib.hid hA2; have HB1 : Hid (g1 < w2.heap.size ∨ ops = []) := hb1.imp (fun h => Nat.lt_of_lt_of_le h hN2.size) id
    have HN2 := Lib.hid (hN1.trans hN2)
    have hll : (ans ops).length = ops.length := length_run ops St.zero
    clear hO1 hA2 hb1 hN1 hN2 hg1 hg2 HM HA hl2
    change Hid (AnsAt w2 a2 g2 0 (ans ops)) at HAA
    have HLL := Lib.hid hll
    go_loopw [42] (fun v wr => ∃ i : Nat, i ≤ ops.length ∧ v = .int .i64 i ∧ New w2 wr ∧ ∀ p ∈ (ops.zip (ans ops)).take i, p.1.t = (T : Int) → p.1.d = 4 → p.2.e ≠ 0) (fun v _ => ops.length - (intOf v).toNat)
    case atStart => exact ⟨0, by omega, rfl, Chg.refl _ _, fun p hp => by simp at hp⟩
    case round =>
      obtain ⟨i, hi, rfl, hN, hcom⟩ := hrel
      by_cases hlt : i < ops.length
      · obtain ⟨o, ho⟩ : ∃ o, ops[i]? = some o := ⟨_, List.getElem?_eq_getElem hlt⟩
        obtain ⟨x, hx⟩ : ∃ x, (ans ops)[i]? = some x := ⟨_, List.getElem?_eq_getElem (by omega)⟩
        have hp : (ops.zip (ans ops))[i]? = some (o, x) := by rw [List.getElem?_zip_eq_some]; exact ⟨ho, hx⟩
        obtain rfl := HO.out.ptr (fun e => by rw [e] at hlt; simp at hlt)
        obtain rfl := HAA.out.ptr (fun e => by rw [e] at hx; simp at hx)
        have hOw := HO.out.kept hN (fun x => x)
        have x0 : wr.cell? ⟨g1, i * 4, none⟩ = some (.int .i64 o.d) := by have := hOw.cell i o ho 0 (by omega); rwa [Nat.zero_add] at this
        have x1 : wr.cell? ⟨g1, i * 4 + 1, none⟩ = some (.int .i64 o.t) := by have := hOw.cell i o ho 1 (by omega); rwa [Nat.zero_add] at this
        have x2 : wr.cell? ⟨g1, i * 4 + 2, none⟩ = some (.int .i64 o.k) := by have := hOw.cell i o ho 2 (by omega); rwa [Nat.zero_add] at this
        have x3 : wr.cell? ⟨g1, i * 4 + 3, none⟩ = some (.int .i64 o.n) := by have := hOw.cell i o ho 3 (by omega); rwa [Nat.zero_add] at this
        have b3 : (0 : Int) ≤ (i : Int) := by omega
        have b4 : (i : Int) < (ops.length : Int) := by omega
        obtain ⟨a0, a1⟩ := ((HAA.out.kept hN).kept ((Chg.refl _ wr).alloc (.cells #[.int .i64 o.d, .int .i64 o.t, .int .i64 o.k, .int .i64 o.n] 47))).cell i x hx
        rw [Nat.zero_add] at a0 a1
        have HN := Lib.hid (hN.alloc (.cells #[.int .i64 o.d, .int .i64 o.t, .int .i64 o.k, .int .i64 o.n] 47))
        have HCOM := Lib.hid hcom
        have hlp := (List.getElem?_eq_some_iff.1 hp).1
        have HTK : Hid ((ops.zip (ans ops)).take (i + 1) = (ops.zip (ans ops)).take i ++ [(o, x)]) := by
          show _ = _
          rw [List.take_succ_eq_append_getElem hlp, (List.getElem?_eq_some_iff.1 hp).2]
        have m0 : (wr.alloc (.cells #[.int .i64 o.d, .int .i64 o.t, .int .i64 o.k, .int .i64 o.n] 47)).cell? ⟨wr.heap.size, 0, none⟩ = some (.int .i64 o.d) := by rw [World.cell?_alloc_new]; rfl
        have m1 : (wr.alloc (.cells #[.int .i64 o.d, .int .i64 o.t, .int .i64 o.k, .int .i64 o.n] 47)).cell? ⟨wr.heap.size, 1, none⟩ = some (.int .i64 o.t) := by rw [World.cell?_alloc_new]; rfl
        clear hN hcom hOw hp hx ho hlp hll
        go_upto_region 11 with fail
        generalize wr.alloc _ = w3 at *
        generalize wr.heap.size = nb at *
        clear x0 x1 x2 x3
        by_cases hh : o.t = (T : Int) ∧ o.d = 4 ∧ x.e = 0
        · obtain ⟨h1, h2, h3⟩ := hh
          go_wp2_with ((with_reducible refine (awake_any _).mono ?_); rintro e w9 ⟨rfl, hN9⟩)
          go_ret
          exact ⟨rfl, (HN2.out.trans HN.out).trans hN9⟩
        · have HH := Lib.hid hh
          clear hh
          go_wp2_with fail
          all_goals first
            | (exfalso; exact HH.out ⟨by assumption, by assumption, eq_of_beq (by assumption)⟩)
            | (refine ⟨⟨i + 1, by omega, by go_num, HN.out, ?_⟩, by simp [intOf]; omega⟩
               rw [HTK.out]
               intro p hp h1 h2 h3
               rcases List.mem_append.1 hp with hp | hp
               · exact HCOM.out p hp h1 h2 h3
               · obtain rfl : p = (o, x) := by simpa using hp
                 exact HH.out ⟨h1, h2, h3⟩)
      · obtain rfl : i = ops.length := by omega
        rw [List.take_of_length_le (by rw [List.length_zip]; omega)] at hcom
        have HCOM := Lib.hid hcom
        have HN := Lib.hid hN
        clear hcom hN hlt hi hll
        go_wp2_with fail
        go_loopw [11, 12, 68] (fun v11 v12 v wx => ∃ j : Nat, j ≤ ops.length ∧ v = .int .i64 j ∧ New w2 wx ∧ wx.ownsRow 0 47 4 v11 (others T ((ops.zip (ans ops)).take j)).length (opRow ((others T ((ops.zip (ans ops)).take j)).map Prod.fst)) ∧
            wx.ownsRow 0 49 2 v12 (others T ((ops.zip (ans ops)).take j)).length (ansRow ((others T ((ops.zip (ans ops)).take j)).map Prod.snd)) ∧ (∀ g, v11.ownBlock = some g → w2.heap.size ≤ g) ∧ ∀ g, v12.ownBlock = some g → w2.heap.size ≤ g) (fun _ _ v _ => ops.length - (intOf v).toNat)
        case atStart => exact ⟨0, by omega, rfl, HN.out, World.ownsRow_nil _ _ _ _, World.ownsRow_nil _ _ _ _, fun g hg => by simp [Value.ownBlock] at hg, fun g hg => by simp [Value.ownBlock] at hg⟩
        case round =>
          obtain ⟨j, hj, rfl, hN, hr6, hr7, hg6, hg7⟩ := hrel
          by_cases hlt : j < ops.length
          · obtain ⟨o, ho⟩ : ∃ o, ops[j]? = some o := ⟨_, List.getElem?_eq_getElem hlt⟩
            obtain ⟨⟨xe, xn⟩, hx⟩ : ∃ x, (ans ops)[j]? = some x := ⟨_, List.getElem?_eq_getElem (by rw [HLL.out]; omega)⟩
            have hp : (ops.zip (ans ops))[j]? = some (o, ⟨xe, xn⟩) := by rw [List.getElem?_zip_eq_some]; exact ⟨ho, hx⟩
            have HTK := Lib.hid (others_take (t := T) hp)
            obtain rfl := HO.out.ptr (fun e => by rw [e] at hlt; simp at hlt)
            obtain rfl := HAA.out.ptr (fun e => by rw [e] at hx; simp at hx)
            have hOw := HO.out.kept hN (fun x => x)
            have x0 : wr.cell? ⟨g1, j * 4, none⟩ = some (.int .i64 o.d) := by have := hOw.cell j o ho 0 (by omega); rwa [Nat.zero_add] at this
            have x1 : wr.cell? ⟨g1, j * 4 + 1, none⟩ = some (.int .i64 o.t) := by have := hOw.cell j o ho 1 (by omega); rwa [Nat.zero_add] at this
            have x2 : wr.cell? ⟨g1, j * 4 + 2, none⟩ = some (.int .i64 o.k) := by have := hOw.cell j o ho 2 (by omega); rwa [Nat.zero_add] at this
            have x3 : wr.cell? ⟨g1, j * 4 + 3, none⟩ = some (.int .i64 o.n) := by have := hOw.cell j o ho 3 (by omega); rwa [Nat.zero_add] at this
            have b3 : (0 : Int) ≤ (j : Int) := by omega
            have b4 : (j : Int) < (ops.length : Int) := by omega
            obtain ⟨a0, a1⟩ := ((HAA.out.kept hN).kept ((Chg.refl _ wr).alloc (.cells #[.int .i64 o.d, .int .i64 o.t, .int .i64 o.k, .int .i64 o.n] 47))).cell j _ hx
            rw [Nat.zero_add] at a0 a1
            dsimp only at a0 a1
            have hbb : g2 < w2.heap.size := World.block_lt_of_cell? w2 _ (HAA.out.cell j _ hx).1
            have hl6 : (others T ((ops.zip (ans ops)).take j)).length ≤ 200 := by
              have h1 := List.length_filter_le (fun p : Tx.Op × Ans => decide (p.1.t ≠ (T : Int))) ((ops.zip (ans ops)).take j)
              rw [List.length_take] at h1
              unfold others; omega
            clear hOw hp ho hx
            generalize others T ((ops.zip (ans ops)).take j) = L at *
            obtain ⟨i0, hi0, hz0, hz1, hz2⟩ := info_parts Try.info47
            obtain ⟨i1, hi1, hy0, hy1, hy2⟩ := info_parts Try.info49
            have HI := Lib.hid hi0; have HZ0 := Lib.hid hz0; have HZ1 := Lib.hid hz1; have HZ2 := Lib.hid hz2
            have HJ := Lib.hid hi1; have HY0 := Lib.hid hy0; have HY1 := Lib.hid hy1; have HY2 := Lib.hid hy2
            have HN := Lib.hid (hN.alloc (.cells #[.int .i64 o.d, .int .i64 o.t, .int .i64 o.k, .int .i64 o.n] 47))
            have HR6 := Lib.hid (hr6.alloc (.cells #[.int .i64 o.d, .int .i64 o.t, .int .i64 o.k, .int .i64 o.n] 47))
            have HR7 := Lib.hid (hr7.alloc (.cells #[.int .i64 o.d, .int .i64 o.t, .int .i64 o.k, .int .i64 o.n] 47))
            clear hi0 hz0 hz1 hz2 hi1 hy0 hy1 hy2 hN hr6 hr7
            have m0 : (wr.alloc (.cells #[.int .i64 o.d, .int .i64 o.t, .int .i64 o.k, .int .i64 o.n] 47)).cell? ⟨wr.heap.size, 0, none⟩ = some (.int .i64 o.d) := by rw [World.cell?_alloc_new]; rfl
            have m1 : (wr.alloc (.cells #[.int .i64 o.d, .int .i64 o.t, .int .i64 o.k, .int .i64 o.n] 47)).cell? ⟨wr.heap.size, 1, none⟩ = some (.int .i64 o.t) := by rw [World.cell?_alloc_new]; rfl
            have m2 : (wr.alloc (.cells #[.int .i64 o.d, .int .i64 o.t, .int .i64 o.k, .int .i64 o.n] 47)).cell? ⟨wr.heap.size, 2, none⟩ = some (.int .i64 o.k) := by rw [World.cell?_alloc_new]; rfl
            have m3 : (wr.alloc (.cells #[.int .i64 o.d, .int .i64 o.t, .int .i64 o.k, .int .i64 o.n] 47)).cell? ⟨wr.heap.size, 3, none⟩ = some (.int .i64 o.n) := by rw [World.cell?_alloc_new]; rfl
            have hw2 : w2.heap.size ≤ wr.heap.size + 1 := by have := HN.out.size; rw [World.size_alloc] at this; exact this
            have hsz : (wr.alloc (.cells #[.int .i64 o.d, .int .i64 o.t, .int .i64 o.k, .int .i64 o.n] 47)).heap.size = wr.heap.size + 1 := World.size_alloc _ _
            go_upto_region 19 with fail
            generalize wr.alloc _ = w3 at *
            generalize wr.heap.size = nb at *
            by_cases hh : o.t = (T : Int)
            · have HTK' := HTK.out
              rw [if_neg (fun h => h hh), List.append_nil] at HTK'
              clear HTK
              go_wp2_with fail
              refine ⟨⟨j + 1, by omega, by go_num, HN.out, ?_, ?_, hg6, hg7⟩, by simp [intOf]; omega⟩
              · rw [HTK']; exact HR6.out
              · rw [HTK']; exact HR7.out
            · have HTK' := HTK.out
              rw [if_pos hh] at HTK'
              clear HTK
              go_upto_region 20 with fail
              have ho6 : ∀ g, u11.ownBlock = some g → g < w3.heap.size := fun g hg => (HR6.out.lt g hg).2
              have hs2 : w3.drew.heap.size = nb + 1 := hsz
              have h47 := heap_alloc_new w3.drew (.cells #[.int .i64 o.d, .int .i64 o.t, .int .i64 o.k, .int .i64 o.n] 47)
              have h49 := heap_alloc_new w3.drew (.cells #[.int .i64 xe, .int .i64 xn] 49)
              rw [hs2] at h47 h49
              have hs47 : (w3.drew.alloc (.cells #[.int .i64 o.d, .int .i64 o.t, .int .i64 o.k, .int .i64 o.n] 47)).heap.size = nb + 1 + 1 := by rw [World.size_alloc, hs2]
              have hs49 : (w3.drew.alloc (.cells #[.int .i64 xe, .int .i64 xn] 49)).heap.size = nb + 1 + 1 := by rw [World.size_alloc, hs2]
              have q2 := heap_alloc_new (w3.drew.alloc (.cells #[.int .i64 o.d, .int .i64 o.t, .int .i64 o.k, .int .i64 o.n] 47)) (.cells #[.int .i64 xe, .int .i64 xn] 49)
              have q3 := heap_alloc_new (w3.drew.alloc (.cells #[.int .i64 xe, .int .i64 xn] 49)) (.cells #[.int .i64 o.d, .int .i64 o.t, .int .i64 o.k, .int .i64 o.n] 47)
              rw [hs47] at q2; rw [hs49] at q3
              have q2' : ((w3.drew.alloc (.cells #[.int .i64 o.d, .int .i64 o.t, .int .i64 o.k, .int .i64 o.n] 47)).alloc (.cells #[.int .i64 xe, .int .i64 xn] 49)).heap[nb + 1]? = some (.cells #[.int .i64 o.d, .int .i64 o.t, .int .i64 o.k, .int .i64 o.n] 47) := (Below.heap_alloc _ _ _ (by omega)).trans h47
              have q3' : ((w3.drew.alloc (.cells #[.int .i64 xe, .int .i64 xn] 49)).alloc (.cells #[.int .i64 o.d, .int .i64 o.t, .int .i64 o.k, .int .i64 o.n] 47)).heap[nb + 1]? = some (.cells #[.int .i64 xe, .int .i64 xn] 49) := (Below.heap_alloc _ _ _ (by omega)).trans h49
              have N1 := Lib.hid (World.news_of_block h47); have N2 := Lib.hid (World.news_of_block q2'); have N3 := Lib.hid (World.news_of_block q3)
              have Q2 := Lib.hid q2; have Q3 := Lib.hid q3'
              have R1 : Hid ((w3.drew.alloc (.cells #[.int .i64 o.d, .int .i64 o.t, .int .i64 o.k, .int .i64 o.n] 47)).ownsRow 0 47 4 u11 L.length (opRow (L.map Prod.fst))) := World.ownsRow.alloc (World.ownsRow.drew HR6.out) _
              have R2 : Hid (((w3.drew.alloc (.cells #[.int .i64 o.d, .int .i64 o.t, .int .i64 o.k, .int .i64 o.n] 47)).alloc (.cells #[.int .i64 xe, .int .i64 xn] 49)).ownsRow 0 47 4 u11 L.length (opRow (L.map Prod.fst))) := World.ownsRow.alloc R1.out _
              have R3 : Hid (((w3.drew.alloc (.cells #[.int .i64 xe, .int .i64 xn] 49)).alloc (.cells #[.int .i64 o.d, .int .i64 o.t, .int .i64 o.k, .int .i64 o.n] 47)).ownsRow 0 47 4 u11 L.length (opRow (L.map Prod.fst))) := World.ownsRow.alloc (World.ownsRow.alloc (World.ownsRow.drew HR6.out) _) _
              have Z2 : Hid (nb + 1 + 1 < ((w3.drew.alloc (.cells #[.int .i64 o.d, .int .i64 o.t, .int .i64 o.k, .int .i64 o.n] 47)).alloc (.cells #[.int .i64 xe, .int .i64 xn] 49)).heap.size) := by show _ < _; rw [World.size_alloc, hs47]; omega
              have Z3 : Hid (nb + 1 < ((w3.drew.alloc (.cells #[.int .i64 xe, .int .i64 xn] 49)).alloc (.cells #[.int .i64 o.d, .int .i64 o.t, .int .i64 o.k, .int .i64 o.n] 47)).heap.size) := by show _ < _; rw [World.size_alloc, hs49]; omega
              have Z1 : Hid (nb + 1 ≤ (w3.drew.alloc (.cells #[.int .i64 o.d, .int .i64 o.t, .int .i64 o.k, .int .i64 o.n] 47)).heap.size) := by show _ ≤ _; rw [hs47]; omega
              have Z2L : Hid (nb + 1 ≤ ((w3.drew.alloc (.cells #[.int .i64 o.d, .int .i64 o.t, .int .i64 o.k, .int .i64 o.n] 47)).alloc (.cells #[.int .i64 xe, .int .i64 xn] 49)).heap.size) := Nat.le_of_lt (Nat.lt_of_succ_lt Z2.out)
              have Z3L : Hid (nb + 1 ≤ ((w3.drew.alloc (.cells #[.int .i64 xe, .int .i64 xn] 49)).alloc (.cells #[.int .i64 o.d, .int .i64 o.t, .int .i64 o.k, .int .i64 o.n] 47)).heap.size) := Nat.le_of_lt Z3.out
              have NE2 : Hid (some (nb + 1 + 1) ≠ u11.ownBlock) := fun e => by have := ho6 _ e.symm; omega
              have NE3 : Hid (some (nb + 1) ≠ u11.ownBlock) := fun e => by have := ho6 _ e.symm; omega
              have HB7 : Hid (∀ k, u11.ownBlock = some k → k ≠ g2) := fun k hk e => by have := hg6 _ hk; omega
              have HBL : Hid (g2 < w3.heap.size) := by show _ < _; omega
              have RA := Lib.hid (rows_apart HR6.out HR7.out (by decide))
              have e0 : (w3.alloc (.cells #[.int .i64 o.d, .int .i64 o.t, .int .i64 o.k, .int .i64 o.n] 47)).cell? ⟨g2, j * 2, none⟩ = some (.int .i64 xe) := (World.cell?_alloc_lt _ _ _ HBL.out).trans a0
              have e1 : (w3.alloc (.cells #[.int .i64 o.d, .int .i64 o.t, .int .i64 o.k, .int .i64 o.n] 47)).cell? ⟨g2, j * 2 + 1, none⟩ = some (.int .i64 xn) := (World.cell?_alloc_lt _ _ _ HBL.out).trans a1
              clear h47 h49 q2 q3 q2' q3'
              go_region_law (first
                | (refine step_append_lies _ rfl _ _ 22 rfl 0 47 i0 zero47 4 32 Try.underlying22 HI.out HZ0.out HZ1.out HZ2.out rfl (by decide) u11 L.length (opRow (L.map Prod.fst)) rfl (by first | exact R1.out | exact R2.out | exact R3.out) ⟨_, 0, none⟩ 1 1 [.int .i64 o.d, .int .i64 o.t, .int .i64 o.k, .int .i64 o.n] rfl rfl (by first | exact N1.out | exact N2.out | exact N3.out) (oneCell_ops [o]) (by decide) (by unfold maxLen; omega) (by omega) (Nat.zero_le _) _ rfl ?_; intro g5 cap5 w6 hown5 hg5 hat5 hlt5; have hC6 : Chg (fun k => u11.ownBlock = some k) w3 w6 := (by first | exact ((Chg.refl _ w3).drew.alloc _).grown hg5 (fun k hk _ => hk) | exact (((Chg.refl _ w3).drew.alloc _).alloc _).grown hg5 (fun k hk _ => hk)); have R7 := Lib.hid (hC6.ownsRow HR7.out (fun k hk e => RA.out k e hk)); have a0' : w6.cell? ⟨g2, j * 2, none⟩ = some (.int .i64 xe) := (hC6.cell (a := ⟨g2, j * 2, none⟩) HBL.out (fun e => HB7.out _ e rfl)).trans a0; have a1' : w6.cell? ⟨g2, j * 2 + 1, none⟩ = some (.int .i64 xn) := (hC6.cell (a := ⟨g2, j * 2 + 1, none⟩) HBL.out (fun e => HB7.out _ e rfl)).trans a1; have HC6 := Lib.hid hC6; have HW5 := Lib.hid hown5; have HT5 := Lib.hid hat5; (first | have N38 : Hid (∀ j u, [.int .i64 xe, .int .i64 xn][j]? = some u → w6.cell? ((⟨nb + 1 + 1, 0, none⟩ : Addr).add j) = some u) := Lib.hid (World.news_of_block (cs := #[.int .i64 xe, .int .i64 xn]) ((hg5.block (nb + 1 + 1) Z2.out NE2.out).trans Q2.out)) | have N38 : Hid (∀ j u, [.int .i64 xe, .int .i64 xn][j]? = some u → w6.cell? ((⟨nb + 1, 0, none⟩ : Addr).add j) = some u) := Lib.hid (World.news_of_block (cs := #[.int .i64 xe, .int .i64 xn]) ((hg5.block (nb + 1) Z3.out NE3.out).trans Q3.out)) | skip); clear hC6 hown5 hat5 hg5)
                | (refine step_append_lies _ rfl _ _ 24 rfl 0 49 i1 (.agg #[.int .i64 0, .int .i64 0]) 2 16 Try.underlying24 HJ.out HY0.out HY1.out HY2.out rfl (by decide) u12 L.length (ansRow (L.map Prod.snd)) rfl (by first | exact R7.out | exact R7.out.alloc _) ⟨_, 0, none⟩ 1 1 [.int .i64 xe, .int .i64 xn] rfl rfl (by first | exact N38.out | exact news_alloc w6 #[.int .i64 xe, .int .i64 xn] _) (oneCell_ans ⟨xe, xn⟩) (by decide) (by unfold maxLen; omega) (by omega) (Nat.zero_le _) _ rfl ?_; intro g7 cap7 w7 hown7 hg7' hat7 hlt7; have hC7 : Chg (fun k => u12.ownBlock = some k) w6 w7 := (by first | exact (Chg.refl _ w6).grown hg7' (fun k hk _ => hk) | exact ((Chg.refl _ w6).alloc _).grown hg7' (fun k hk _ => hk)); have HC7 := Lib.hid hC7; have HW7 := Lib.hid hown7; have HT7 : Hid (u12.ownBlock = some g7 ∨ w6.heap.size ≤ g7) := hat7.imp id (fun e => by rw [e]; simp); clear hC7 hown7 hat7 hg7'))
              all_goals
                have hNF : New w2 w7 := (HN.out.then HC6.out (fun k hk e => by have := hg6 k e; omega)).then HC7.out (fun k hk e => by have := hg7 k e; omega)
                have hF6 := HC7.out.ownsRow HW5.out (fun k hk e => rows_apart HW5.out R7.out (by decide) k hk e)
                have hgg5 : w2.heap.size ≤ g5 := HT5.out.elim (hg6 _) (fun e => by rw [e]; simp [World.size_alloc]; omega)
                have hgg7 : w2.heap.size ≤ g7 := HT7.out.elim (hg7 _) (fun e => by have := HN.out.size; have := HC6.out.size; omega)
                have HNF := Lib.hid hNF; have HF6 := Lib.hid hF6
                clear hNF hF6 HC6 HC7 HW5 HT5 HT7 R7 R1 R2 R3 N1 N2 N3 Q2 Q3 Z2 Z3 NE2 NE3 RA HR6 HR7 HN e0 e1 m0 m1 m2 m3 a0 a1 x0 x1 x2 x3
                go_wp2_with fail
                refine ⟨⟨j + 1, by omega, by go_num, HNF.out, ?_, ?_, fun g hg => ?_, fun g hg => ?_⟩, by simp [intOf]; omega⟩
                · rw [HTK', List.map_append, opRow_append, List.length_append]; exact HF6.out
                · rw [HTK', List.map_append, List.length_append, show ansRow (L.map Prod.snd ++ [(o, (⟨xe, xn⟩ : Ans))].map Prod.snd) = ansRow (L.map Prod.snd) ++ [.int .i64 xe, .int .i64 xn] by simp [ansRow, ansCells]]; exact HW7.out
                · simp [Value.ownBlock] at hg; omega
                · simp [Value.ownBlock] at hg; omega
          · obtain rfl : j = ops.length := by omega
            rw [List.take_of_length_le (by rw [List.length_zip]; omega)] at hr6 hr7
            have hnb := nobody T ops St.zero St.zero (Sim.refl T St.zero) (fun p hp => HCOM.out p hp)
            change (Tx.run St.zero ((others T (ops.zip (ans ops))).map Prod.fst)).1 = (others T (ops.zip (ans ops))).map Prod.snd ∧ Sim T (Tx.run St.zero ops).2 (Tx.run St.zero ((others T (ops.zip (ans ops))).map Prod.fst)).2 at hnb
            have hll6 : (others T (ops.zip (ans ops))).length ≤ 200 := by
              have h1 := List.length_filter_le (fun p : Tx.Op × Ans => decide (p.1.t ≠ (T : Int))) (ops.zip (ans ops))
              rw [List.length_zip] at h1
              unfold others; omega
            obtain ⟨left, want, hle, hwl, hq6, hq7, hrun, hins⟩ : ∃ (left : List Tx.Op) (want : List Ans), left.length ≤ 200 ∧ want.length = left.length ∧ wr.ownsRow 0 47 4 u11 left.length (opRow left) ∧ wr.ownsRow 0 49 2 u12 left.length (ansRow want) ∧ (Tx.run St.zero left).1 = want ∧ (Tx.run St.zero ops).2.insts = (Tx.run St.zero left).2.insts :=
              ⟨(others T (ops.zip (ans ops))).map Prod.fst, (others T (ops.zip (ans ops))).map Prod.snd, by rw [List.length_map]; exact hll6, by rw [List.length_map, List.length_map], by rw [List.length_map]; exact hr6, by rw [List.length_map]; exact hr7, hnb.1, hnb.2.insts⟩
            clear hnb hr6 hr7 hll6 HCOM
            obtain ⟨a3, g3, c3, rfl, hO3, hb3⟩ := row_len_ops hq6
            obtain ⟨a4, g4, c4, rfl, hA4⟩ := row_len_ans hq7 hwl
            have hx1 : (last (Tx.run St.zero left).2 : Int) = (last (Tx.run St.zero ops).2 : Int) := by unfold Tx.last; rw [hins]
            have hx2 : wordsI ((Tx.run St.zero left).2.inst (last (Tx.run St.zero left).2)) = wordsI ((Tx.run St.zero ops).2.inst (last (Tx.run St.zero ops).2)) := by unfold Tx.last St.inst; rw [hins]
            have HAN := Lib.hid (answered_any a3 g3 0 c3 left hO3 hb3 hle)
            have HLA : Hid (∀ w', New wr w' → Calls Try.prog 16 #[.slice a1 ops.length c1] w' fun e w'' => ∃ b c, e = .returned (.tuple #[.int .i64 (last (Tx.run St.zero ops).2 : Int), .slice (some ⟨b, 0, none⟩) 16 c, .int .i64 0]) ∧ New w' w'' ∧ IntsAt w'' (some ⟨b, 0, none⟩) b 0 (wordsI ((Tx.run St.zero ops).2.inst (last (Tx.run St.zero ops).2)))) :=
              fun w' hw => last_words ((HO.out.kept hN (fun x => x)).kept hw (fun x => x)) hlo2 rfl rfl
            have HLB : Hid (∀ w', New wr w' → Calls Try.prog 16 #[.slice a3 left.length c3] w' fun e w'' => ∃ b c, e = .returned (.tuple #[.int .i64 (last (Tx.run St.zero ops).2 : Int), .slice (some ⟨b, 0, none⟩) 16 c, .int .i64 0]) ∧ New w' w'' ∧ IntsAt w'' (some ⟨b, 0, none⟩) b 0 (wordsI ((Tx.run St.zero ops).2.inst (last (Tx.run St.zero ops).2)))) :=
              fun w' hw => last_words (hO3.kept hw (fun x => x)) hle hx1 hx2
            have HA4 := Lib.hid hA4; have HN4 := Lib.hid hN; have HRUN := Lib.hid hrun; have HWL := Lib.hid hwl
            generalize (last (Tx.run St.zero ops).2 : Int) = NN at *
            have hxl : (wordsI ((Tx.run St.zero ops).2.inst (last (Tx.run St.zero ops).2))).length = 16 := by simp [wordsI]
            generalize wordsI ((Tx.run St.zero ops).2.inst (last (Tx.run St.zero ops).2)) = XX at *
            have HEQ : Hid (∀ (w : World) (b6 c6 b7 c7 : Nat), IntsAt w (some ⟨b6, 0, none⟩) b6 0 XX → IntsAt w (some ⟨b7, 0, none⟩) b7 0 XX → Calls Try.prog 23 #[.slice (some ⟨b6, 0, none⟩) 16 c6, .slice (some ⟨b7, 0, none⟩) 16 c7] w fun e w' => e = .returned (.bool true) ∧ New w w') := fun w b6 c6 b7 c7 h1 h2 => by
              have h := equal_new (c := c6) (c' := c7) h1 h2
              rw [hxl, decide_eq_true (rfl : XX = XX)] at h
              exact h
            have hle2 : (left.length : Int) ≤ 200 := by omega
            clear hO3 hb3 hA4 hN hrun hins hx1 hx2 hq6 hq7 hwl hxl hg6 hg7 hlt hj HN
            go_wp2_with (first
              | ((with_reducible refine HAN.out.mono ?_); rintro e w5 ⟨v5, rfl, hN5, hr5, _⟩; rw [HRUN.out] at hr5; obtain ⟨a5, g5, c5, rfl, hA5⟩ := row_len_ans hr5 HWL.out; have HA5 := Lib.hid hA5; clear hr5 hA5)
              | ((with_reducible refine (HLA.out _ hN5).mono ?_); rintro e w6 ⟨b6, c6, rfl, hN6, hI6⟩; have hN56 := hN5.trans hN6; clear HLA)
              | ((with_reducible refine (HLB.out _ hN56).mono ?_); rintro e w7 ⟨b7, c7, rfl, hN7, hI7⟩; have HQ := Lib.hid (HEQ.out w7 b6 c6 b7 c7 (hI6.kept hN7) hI7))
              | ((with_reducible refine HQ.out.mono ?_); rintro e w8 ⟨rfl, hN8⟩; have HN8 := Lib.hid ((hN6.trans hN7).trans hN8); have HN58 := Lib.hid (hN56.trans (hN7.trans hN8)); clear hN8))
            have HB4 := Lib.hid (HA4.out.kept HN58.out)
            have HB5 := Lib.hid (HA5.out.kept HN8.out)
            have HN9 := Lib.hid ((HN2.out.trans HN4.out).trans HN58.out)
            clear hI6 hI7 hN5 hN6 hN7 hN56
            go_loopw [130] (fun v wx => ∃ j : Nat, j ≤ left.length ∧ v = .int .i64 j ∧ New w8 wx) (fun v _ => left.length - (intOf v).toNat)
            case atStart => exact ⟨0, by omega, rfl, Chg.refl _ _⟩
            case round =>
              obtain ⟨j, hj, rfl, hN⟩ := hrel
              by_cases hlt : j < left.length
              · obtain ⟨x, hx⟩ : ∃ x, want[j]? = some x := ⟨_, List.getElem?_eq_getElem (by rw [HWL.out]; omega)⟩
                obtain rfl := HB4.out.ptr (fun e => by rw [e] at hx; simp at hx)
                obtain rfl := HB5.out.ptr (fun e => by rw [e] at hx; simp at hx)
                obtain ⟨y0, y1⟩ := (HB4.out.kept hN).cell j x hx
                obtain ⟨z0, z1⟩ := (HB5.out.kept hN).cell j x hx
                rw [Nat.zero_add] at y0 y1 z0 z1
                have b3 : (0 : Int) ≤ (j : Int) := by omega
                have b4 : (j : Int) < (left.length : Int) := by omega
                have hnq := neq49 x x
                have HN := Lib.hid hN
                clear hN hx
                go_upto_region 30 with fail
                go_quiet (fail)
                go_wp2_with fail
                refine ⟨⟨j + 1, by omega, by go_num, HN.out.drewN _⟩, by simp [intOf]; omega⟩
              · obtain rfl : j = left.length := by omega
                have HN := Lib.hid hN
                clear hN
                go_wp2_with ((with_reducible refine (awake_any _).mono ?_); rintro e w9 ⟨rfl, hNa⟩)
                go_ret
                exact ⟨rfl, (HN9.out.trans HN.out).trans hNa⟩
end
end Go.Proofs.Yteaeflmglppcdaa
