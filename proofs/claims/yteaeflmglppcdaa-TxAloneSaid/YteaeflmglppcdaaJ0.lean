/- The contract of made: a script of as many operations as there are numbers. -/
import Derived.Test.YteaeflmglppcdaaI0
import Derived.Test.YteaeflmglppcdaaR2
namespace Go.Proofs.Yteaeflmglppcdaa
open Go.RowKit Tx

/-- A list of numbers of 32 bits lies in memory. -/
structure U32At (w : World) (a : Option Addr) (b off : Nat) (xs : List Int) : Prop where
  len : xs.length ≤ maxLen
  ptr : xs ≠ [] → a = some ⟨b, off, none⟩
  cell : ∀ (i : Nat) (x : Int), xs[i]? = some x → w.cell? ⟨b, off + i, none⟩ = some (.int .u32 x)
theorem U32At.kept {w w' : World} {a : Option Addr} {b off : Nat} {xs : List Int} (h : U32At w a b off xs) (hc : New w w') : U32At w' a b off xs :=
  ⟨h.len, h.ptr, fun i x hi => by
    have := h.cell i x hi
    rw [hc.cell (World.block_lt_of_cell? w _ this) (fun x => x)]; exact this⟩
theorem make_map53 (w : World) : (Instr.makeMap 53 none).run Try.prog w = .ok (.map (some w.heap.size)) (w.alloc (.map #[] 0)) := by kernel_rfl
theorem zero4 (w : World) : (zeroValue 4).run Try.prog w = .ok (.bool false) w := by kernel_rfl
theorem row_map {K V : Type} {ek : K → Value} {ev : V → Value} {w : World} {B : Nat} {T : TypeId} {sz n m : Nat} {v : Value} {xs : List Value} {M : List (K × V)} (h : w.ownsRow B T sz v n xs) (hM : MapIs ek ev w m M) : ∀ k, v.ownBlock = some k → k ≠ m := by
  intro k hk e
  subst e
  obtain ⟨es, c, hb, _⟩ := hM
  rcases h.2 with ⟨rfl, _⟩ | ⟨g, cap, cur, rfl, _, hg, _⟩
  · simp [Value.ownBlock] at hk
  · simp [Value.ownBlock] at hk
    subst hk
    rw [hg] at hb
    cases hb
section
variable {w : World}
set_option maxRecDepth 100000 in
set_option maxHeartbeats 2000000 in
theorem made_any (a : Option Addr) (b off c : Nat) (xs : List Int) (hU : U32At w a b off xs) (hl : xs.length ≤ 200) (hc : xs.length ≤ c) (hc3 : c ≤ maxLen) :
    Calls Try.prog 25 #[.slice a xs.length c, .int .i64 200] w fun e w' => ∃ ops v, e = .returned v ∧ New w w' ∧ ops.length = xs.length ∧
      w'.ownsRow 0 47 4 v ops.length (opRow ops) ∧ ∀ g, v.ownBlock = some g → w.heap.size ≤ g := by
  have hmk := make_map53
  have hl2 : (xs.length : Int) ≤ 200 := by omega
  have hl3 : (0 : Int) ≤ (xs.length : Int) := by omega
  have hc2 : (xs.length : Int) ≤ (c : Int) := by omega
  have hsl : (if c = 0 then a else Option.map (fun x => x.add 0) a) = a := by
    split
    · rfl
    · cases a with
      | none => rfl
      | some p => simp [Addr.add]
  have HU := Lib.hid hU
  clear hU
  go_enter Try.func25, Try.ntmps25
  go_wp2
  have hz4 := zero4
  go_loopw [5, 18] (fun v5 v wr => ∃ (j : Nat) (ops : List Tx.Op) (M : List (Int × Bool)), j ≤ xs.length ∧ v = .int .i64 j ∧ New w wr ∧ ops.length = j ∧ wr.ownsRow 0 47 4 v5 ops.length (opRow ops) ∧ (∀ g, v5.ownBlock = some g → w.heap.size ≤ g) ∧ MapIs ekInt Value.bool wr w.heap.size M) (fun _ v _ => xs.length - (intOf v).toNat)
  case atStart => exact ⟨0, [], [], by omega, rfl, (Chg.refl _ w).alloc _, rfl, World.ownsRow_nil _ _ _ _, fun g hg => by simp [Value.ownBlock] at hg, MapIs.new w⟩
  case round =>
    obtain ⟨_, ops, M, hj, rfl, hN, rfl, hr, hge, hM⟩ := hrel
    by_cases hlt : ops.length < xs.length
    · obtain ⟨x, hx⟩ : ∃ x, xs[ops.length]? = some x := ⟨_, List.getElem?_eq_getElem hlt⟩
      obtain rfl := HU.out.ptr (fun e => by rw [e] at hlt; simp at hlt)
      have x0 := (HU.out.kept hN).cell ops.length x hx
      have b3 : (0 : Int) ≤ (ops.length : Int) := by omega
      have b4 : (ops.length : Int) < (xs.length : Int) := by omega
      have HN := Lib.hid hN; have HR := Lib.hid hr; have HM := Lib.hid hM
      clear hN hr hM hx hsl
      go_upto_if 41 with fail
      have hf : ∀ (A : Array Value), (wr.alloc (.cells A 47)).frozen? ⟨wr.heap.size, 1, none⟩ = false := fun A => by
        have := heap_alloc_new wr (.cells A 47)
        unfold World.frozen?
        rw [this]
        rfl
      generalize (wrap64 (x / 16)).tmod 6 = d at *
      generalize (wrap64 (x / 256)).tmod 5 = t at *
      generalize (wrap64 (x / 4096)).tmod 4 = k at *
      generalize wrap64 (wrap32 x) / 65536 = n at *
      generalize (bits BinOp.and IntKind.u32 x 15 == 15) = bb at *
      go_cut [] (fun wx => ∃ t' : Int, wx = wr.alloc (.cells #[.int .i64 d, .int .i64 t', .int .i64 k, .int .i64 n] 47))
      case first =>
        cases bb
        · go_wp2
          go_meet
          exact ⟨_, rfl⟩
        · go_wp2
          go_meet
          exact ⟨_, rfl⟩
      case rest =>
        obtain ⟨t', rfl⟩ := hcut
        have hM2 : MapIs ekInt Value.bool (wr.alloc (.cells #[.int .i64 d, .int .i64 t', .int .i64 k, .int .i64 n] 47)) w.heap.size M := HM.out.kept (Below.heap_alloc _ _ _ HM.out.lt)
        have hlk := run_lookup_map (ev := Value.bool) key_int Try.underlying53 hM2 (zero4 _) t' false
        obtain ⟨B, hB⟩ : ∃ B : Bool, ((mget t' M).map Value.bool).getD (.bool false) = .bool B := by
          cases mget t' M with
          | none => exact ⟨false, rfl⟩
          | some v => exact ⟨v, rfl⟩
        simp only [Bool.false_eq_true, if_false, hB, ekInt] at hlk
        clear hM2 hB
        go_upto_if 51 with fail
        go_cut [] (fun wx => ∃ d' : Int, wx = wr.alloc (.cells #[.int .i64 d', .int .i64 t', .int .i64 k, .int .i64 n] 47))
        case first =>
          cases B
          · go_wp2
            go_meet
            exact ⟨_, rfl⟩
          · go_wp2
            all_goals
              go_meet
              exact ⟨_, rfl⟩
        case rest =>
          obtain ⟨d', rfl⟩ := hcut
          have hM2 : MapIs ekInt Value.bool (wr.alloc (.cells #[.int .i64 d', .int .i64 t', .int .i64 k, .int .i64 n] 47)) w.heap.size M := HM.out.kept (Below.heap_alloc _ _ _ HM.out.lt)
          have HM2 := Lib.hid hM2
          have hmw : w.heap.size < wr.heap.size := HM.out.lt
          have HN2 := Lib.hid (HN.out.alloc (.cells #[.int .i64 d', .int .i64 t', .int .i64 k, .int .i64 n] 47))
          have HR2 := Lib.hid (HR.out.alloc (.cells #[.int .i64 d', .int .i64 t', .int .i64 k, .int .i64 n] 47))
          have hol : ops.length ≤ 200 := by omega
          have HNE : Hid (∀ k, u5.ownBlock = some k → k ≠ w.heap.size) := fun k hk e => row_map HR.out HM.out k hk e
          obtain ⟨i0, hi0, hz0, hz1, hz2⟩ := info_parts Try.info47
          have HI := Lib.hid hi0; have HZ0 := Lib.hid hz0; have HZ1 := Lib.hid hz1; have HZ2 := Lib.hid hz2
          clear hM2 hlk hf hi0 hz0 hz1 hz2
          go_upto_region 13 with fail
          go_wp2_with (first
            | (refine wpList_mapUpd _ rfl _ _ _ 53 rfl key_int Try.underlying53 w.heap.size M t' true rfl rfl rfl HM2.out ?_; intro w6 hM6 hC6; have y0 : w6.cell? ⟨wr.heap.size, 0, none⟩ = some (.int .i64 d') := (hC6.cell (a := ⟨wr.heap.size, 0, none⟩) (by simp) (fun e => by simp at e; omega)).trans (by rw [World.cell?_alloc_new]; rfl); have y1 : w6.cell? ⟨wr.heap.size, 1, none⟩ = some (.int .i64 t') := (hC6.cell (a := ⟨wr.heap.size, 1, none⟩) (by simp) (fun e => by simp at e; omega)).trans (by rw [World.cell?_alloc_new]; rfl); have y2 : w6.cell? ⟨wr.heap.size, 2, none⟩ = some (.int .i64 k) := (hC6.cell (a := ⟨wr.heap.size, 2, none⟩) (by simp) (fun e => by simp at e; omega)).trans (by rw [World.cell?_alloc_new]; rfl); have y3 : w6.cell? ⟨wr.heap.size, 3, none⟩ = some (.int .i64 n) := (hC6.cell (a := ⟨wr.heap.size, 3, none⟩) (by simp) (fun e => by simp at e; omega)).trans (by rw [World.cell?_alloc_new]; rfl); have HM6 := Lib.hid hM6; have HC6 := Lib.hid hC6; have HR6 := Lib.hid (hC6.ownsRow HR2.out (fun k hk e => HNE.out k hk e)); clear hM6 hC6)
            | (refine wpList_append_lies _ rfl _ _ 22 rfl 0 47 i0 zero47 4 32 Try.underlying22 HI.out HZ0.out HZ1.out HZ2.out rfl (by decide) u5 ops.length (opRow ops) rfl (HR6.out.alloc _) ⟨_, 0, none⟩ 1 1 [.int .i64 d', .int .i64 t', .int .i64 k, .int .i64 n] rfl rfl (news_alloc _ #[.int .i64 d', .int .i64 t', .int .i64 k, .int .i64 n] _) (oneCell_ops [⟨d', t', k, n⟩]) (by decide) (by unfold maxLen; omega) (by omega) (Nat.zero_le _) _ rfl ?_; intro g7 cap7 w7 hown7 hg7 hat7 hlt7))
          have hC67 : Chg (fun i => u5.ownBlock = some i) w6 w7 := ((Chg.refl _ w6).alloc _).grown hg7 (fun i hi _ => hi)
          have hN6 : New w w6 := HN2.out.then HC6.out (fun i hi e => by omega)
          refine ⟨⟨ops.length + 1, ops ++ [⟨d', t', k, n⟩], mput t' true M, by omega, by go_num, hN6.then hC67 (fun i hi e => by have := hge i e; omega), by simp, ?_, fun g hg => ?_, ?_⟩, by simp [intOf]; omega⟩
          · rw [opRow_append, List.length_append]; exact hown7
          · simp [Value.ownBlock] at hg
            subst hg
            rcases hat7 with h | h
            · exact hge _ h
            · have h1 := hN6.size
              rw [h]; simp; omega
          · exact HM6.out.kept (hC67.block _ HM6.out.lt (fun e => HNE.out _ e rfl))
    · have hlo : ops.length = xs.length := by omega
      have HN := Lib.hid hN; have HR := Lib.hid hr; have HL := Lib.hid hlo
      clear hN hr hM hlo
      have b9 : ¬ (ops.length : Int) < (xs.length : Int) := by omega
      clear hlt hj
      go_wp2
      go_ret
      exact ⟨ops, _, rfl, HN.out, HL.out, HR.out, hge⟩
end
end Go.Proofs.Yteaeflmglppcdaa
