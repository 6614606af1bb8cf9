/-
  No cell of these rows narrows 'for every input' (looked for: loops, veiled, ifaces, maps, wideKeys, modest, calm, conditions, laid).
  DERIVED. THE GIVEN ROWS OF THIS SEAT. 8 by the template 'for every input the law returns true; each argument reads behind the call as it read before'; 0 by the template 'total and deterministic' (their statements: YteaeflmglppcdaaTotals.lean).
  GIVEN WITH THE SEED: the statements are not yours to turn. If you find one false, say at which input.
  Laid BY PROGRAM, IN A SANDBOX (cutbox-rows.mjs): the forced cells as the released guide's own fill.sh prints them over the translation 491ad1bf9f6eba77… (all of the seat's roots in one cut). By AI agents, Wed Nov 11 2026. No macro, syntax, notation, axiom, sorry.
-/
import Derived.Test.YteaeflmglppcdaaChecked
import GoSem.Claim
import GoSem.ClaimJoined
import GoSem.ClaimMapViews
import Derived.JoinedTies
import Derived.KernelRfl
namespace Go.Proofs.Yteaeflmglppcdaa
/- THE CELL 'sum', in the pinned program and in every row, IS THE sha256 OF THE DUMP (.gsa) THAT YteaeflmglppcdaaProg.lean LOADS. Nothing in Lean hashes anything: it is a label: what it is worth is what the hold of that sum in a sandbox is worth. -/
noncomputable def Try.pinned : Pinned := { name := "yteaeflmglppcdaa", sum := "491ad1bf9f6eba775a07e05e33f0f6195e378ff4cdd6b6242514379109ca1d94", checked := Try.checked }
namespace Rows
def none {H : Type} : Left H := { results := [], args := [] }

/-- 'deltaworkslaw27.TxTells': WHATEVER THE INPUT: true; the input reads as it did. -/
def txTellsSpec : ChangeSpec := { name := "txTells", fn := fun _ => fun
  | [d1, d2] => { results := [.lit (.bool true)], args := [d1, d2] }
  | _ => none }
def txTellsRow : OpenClaim := { program := "yteaeflmglppcdaa", sum := "491ad1bf9f6eba775a07e05e33f0f6195e378ff4cdd6b6242514379109ca1d94", func := "deltaworks/deltaworkslaw27.TxTells", spec := "txTells", unfollowed := true, recurses := true, plainKeys := false, apart := false }
def TxTellsSaid : Prop := txTellsRow.holds Try.pinned (OpenSpec.ofChange txTellsSpec)

/-- ITS FALSE NEIGHBOUR: 'it returns false'. Refute it at one input. -/
def txTellsWrong : ChangeSpec := { name := "txTells", fn := fun _ => fun
  | [d1, d2] => { results := [.lit (.bool false)], args := [d1, d2] }
  | _ => none }
def TxTellsWrongFalsely : Prop := txTellsRow.holds Try.pinned (OpenSpec.ofChange txTellsWrong)

/-- 'deltaworkslaw27.TxAlone': WHATEVER THE INPUT: true; the input reads as it did. -/
def txAloneSpec : ChangeSpec := { name := "txAlone", fn := fun _ => fun
  | [d] => { results := [.lit (.bool true)], args := [d] }
  | _ => none }
def txAloneRow : OpenClaim := { program := "yteaeflmglppcdaa", sum := "491ad1bf9f6eba775a07e05e33f0f6195e378ff4cdd6b6242514379109ca1d94", func := "deltaworks/deltaworkslaw27.TxAlone", spec := "txAlone", unfollowed := true, recurses := true, plainKeys := false, apart := false }
def TxAloneSaid : Prop := txAloneRow.holds Try.pinned (OpenSpec.ofChange txAloneSpec)

/-- ITS FALSE NEIGHBOUR: 'it returns false'. Refute it at one input. -/
def txAloneWrong : ChangeSpec := { name := "txAlone", fn := fun _ => fun
  | [d] => { results := [.lit (.bool false)], args := [d] }
  | _ => none }
def TxAloneWrongFalsely : Prop := txAloneRow.holds Try.pinned (OpenSpec.ofChange txAloneWrong)

/-- 'deltaworkslaw27.TxSees': WHATEVER THE INPUT: true; the input reads as it did. -/
def txSeesSpec : ChangeSpec := { name := "txSees", fn := fun _ => fun
  | [d] => { results := [.lit (.bool true)], args := [d] }
  | _ => none }
def txSeesRow : OpenClaim := { program := "yteaeflmglppcdaa", sum := "491ad1bf9f6eba775a07e05e33f0f6195e378ff4cdd6b6242514379109ca1d94", func := "deltaworks/deltaworkslaw27.TxSees", spec := "txSees", unfollowed := true, recurses := true, plainKeys := false, apart := false }
def TxSeesSaid : Prop := txSeesRow.holds Try.pinned (OpenSpec.ofChange txSeesSpec)

/-- ITS FALSE NEIGHBOUR: 'it returns false'. Refute it at one input. -/
def txSeesWrong : ChangeSpec := { name := "txSees", fn := fun _ => fun
  | [d] => { results := [.lit (.bool false)], args := [d] }
  | _ => none }
def TxSeesWrongFalsely : Prop := txSeesRow.holds Try.pinned (OpenSpec.ofChange txSeesWrong)

/-- 'deltaworkslaw27.TxInstants': WHATEVER THE INPUT: true; the input reads as it did. -/
def txInstantsSpec : ChangeSpec := { name := "txInstants", fn := fun _ => fun
  | [d] => { results := [.lit (.bool true)], args := [d] }
  | _ => none }
def txInstantsRow : OpenClaim := { program := "yteaeflmglppcdaa", sum := "491ad1bf9f6eba775a07e05e33f0f6195e378ff4cdd6b6242514379109ca1d94", func := "deltaworks/deltaworkslaw27.TxInstants", spec := "txInstants", unfollowed := true, recurses := true, plainKeys := false, apart := false }
def TxInstantsSaid : Prop := txInstantsRow.holds Try.pinned (OpenSpec.ofChange txInstantsSpec)

/-- ITS FALSE NEIGHBOUR: 'it returns false'. Refute it at one input. -/
def txInstantsWrong : ChangeSpec := { name := "txInstants", fn := fun _ => fun
  | [d] => { results := [.lit (.bool false)], args := [d] }
  | _ => none }
def TxInstantsWrongFalsely : Prop := txInstantsRow.holds Try.pinned (OpenSpec.ofChange txInstantsWrong)

/-- 'deltaworkslaw27.TxLoses': WHATEVER THE INPUT: true; the input reads as it did. -/
def txLosesSpec : ChangeSpec := { name := "txLoses", fn := fun _ => fun
  | [d] => { results := [.lit (.bool true)], args := [d] }
  | _ => none }
def txLosesRow : OpenClaim := { program := "yteaeflmglppcdaa", sum := "491ad1bf9f6eba775a07e05e33f0f6195e378ff4cdd6b6242514379109ca1d94", func := "deltaworks/deltaworkslaw27.TxLoses", spec := "txLoses", unfollowed := true, recurses := true, plainKeys := false, apart := false }
def TxLosesSaid : Prop := txLosesRow.holds Try.pinned (OpenSpec.ofChange txLosesSpec)

/-- ITS FALSE NEIGHBOUR: 'it returns false'. Refute it at one input. -/
def txLosesWrong : ChangeSpec := { name := "txLoses", fn := fun _ => fun
  | [d] => { results := [.lit (.bool false)], args := [d] }
  | _ => none }
def TxLosesWrongFalsely : Prop := txLosesRow.holds Try.pinned (OpenSpec.ofChange txLosesWrong)

/-- 'deltaworkslaw27.TxNobody': WHATEVER THE INPUT: true; the input reads as it did. -/
def txNobodySpec : ChangeSpec := { name := "txNobody", fn := fun _ => fun
  | [d1, d2] => { results := [.lit (.bool true)], args := [d1, d2] }
  | _ => none }
def txNobodyRow : OpenClaim := { program := "yteaeflmglppcdaa", sum := "491ad1bf9f6eba775a07e05e33f0f6195e378ff4cdd6b6242514379109ca1d94", func := "deltaworks/deltaworkslaw27.TxNobody", spec := "txNobody", unfollowed := true, recurses := true, plainKeys := false, apart := false }
def TxNobodySaid : Prop := txNobodyRow.holds Try.pinned (OpenSpec.ofChange txNobodySpec)

/-- ITS FALSE NEIGHBOUR: 'it returns false'. Refute it at one input. -/
def txNobodyWrong : ChangeSpec := { name := "txNobody", fn := fun _ => fun
  | [d1, d2] => { results := [.lit (.bool false)], args := [d1, d2] }
  | _ => none }
def TxNobodyWrongFalsely : Prop := txNobodyRow.holds Try.pinned (OpenSpec.ofChange txNobodyWrong)

/-- 'deltaworkslaw27.TxSums': WHATEVER THE INPUT: true; the input reads as it did. -/
def txSumsSpec : ChangeSpec := { name := "txSums", fn := fun _ => fun
  | [d] => { results := [.lit (.bool true)], args := [d] }
  | _ => none }
def txSumsRow : OpenClaim := { program := "yteaeflmglppcdaa", sum := "491ad1bf9f6eba775a07e05e33f0f6195e378ff4cdd6b6242514379109ca1d94", func := "deltaworks/deltaworkslaw27.TxSums", spec := "txSums", unfollowed := true, recurses := true, plainKeys := false, apart := false }
def TxSumsSaid : Prop := txSumsRow.holds Try.pinned (OpenSpec.ofChange txSumsSpec)

/-- ITS FALSE NEIGHBOUR: 'it returns false'. Refute it at one input. -/
def txSumsWrong : ChangeSpec := { name := "txSums", fn := fun _ => fun
  | [d] => { results := [.lit (.bool false)], args := [d] }
  | _ => none }
def TxSumsWrongFalsely : Prop := txSumsRow.holds Try.pinned (OpenSpec.ofChange txSumsWrong)

/-- 'deltaworkslaw27.TxNames': WHATEVER THE INPUT: true; the input reads as it did. -/
def txNamesSpec : ChangeSpec := { name := "txNames", fn := fun _ => fun
  | [] => { results := [.lit (.bool true)], args := [] }
  | _ => none }
def txNamesRow : OpenClaim := { program := "yteaeflmglppcdaa", sum := "491ad1bf9f6eba775a07e05e33f0f6195e378ff4cdd6b6242514379109ca1d94", func := "deltaworks/deltaworkslaw27.TxNames", spec := "txNames", unfollowed := true, recurses := true, plainKeys := false, apart := false }
def TxNamesSaid : Prop := txNamesRow.holds Try.pinned (OpenSpec.ofChange txNamesSpec)

/-- ITS FALSE NEIGHBOUR: 'it returns false'. Refute it at one input. -/
def txNamesWrong : ChangeSpec := { name := "txNames", fn := fun _ => fun
  | [] => { results := [.lit (.bool false)], args := [] }
  | _ => none }
def TxNamesWrongFalsely : Prop := txNamesRow.holds Try.pinned (OpenSpec.ofChange txNamesWrong)

/- THE SECOND FORM. 'bulk': how many values and letters a reading holds, each counted each time it is reached (what is shared counts as often as it is met; a slice's spare places count too). A statement '..UptoSaid' is the law's where the arguments, and the package variables that the reading takes, are together of bulk at most 1048576: NARROWER than '..Said'. Prove '..Said' where nothing that the law and all that it calls make is longer than what came in: it says more and counts as full. Else prove '..UptoSaid'. A law counts once. -/
mutual
def uptoBulk {H : Type} : DataW H → Nat
  | .lit (.string bytes) => bytes.length + 1
  | .lit _ => 1
  | .nil => 1
  | .ptr d => uptoBulk d + 1
  | .slice elems spare => uptoBulkAll elems + uptoBulkAll spare + 1
  | .agg parts => uptoBulkAll parts + 1
  | .iface _ d => uptoBulk d + 1
  | .map entries => uptoBulkEntries entries + 1
  | .held _ => 1
def uptoBulkAll {H : Type} : List (DataW H) → Nat
  | [] => 0
  | d :: r => uptoBulk d + uptoBulkAll r
def uptoBulkEntries {H : Type} : List (Lit × DataW H) → Nat
  | [] => 0
  | x :: r => uptoBulkEntry x + uptoBulkEntries r
def uptoBulkEntry {H : Type} : Lit × DataW H → Nat
  | (.string bytes, d) => bytes.length + uptoBulk d + 1
  | (_, d) => uptoBulk d + 1
 end
def uptoSmall : (H : Type) → List (DataW H) → Bool := fun _ ds => decide (uptoBulkAll ds ≤ 1048576)
def OpenSpec.upto (s : _root_.Go.ChangeSpec) : _root_.Go.OpenSpec := { _root_.Go.OpenSpec.ofChange s with cond := some uptoSmall }

/-- 'deltaworkslaw27.TxTells', WHERE WHAT IT READS IS OF BULK AT MOST 1048576: true; the input reads as it did. -/
def txTellsUptoRow : OpenClaim := { program := "yteaeflmglppcdaa", sum := "491ad1bf9f6eba775a07e05e33f0f6195e378ff4cdd6b6242514379109ca1d94", func := "deltaworks/deltaworkslaw27.TxTells", spec := "txTells", unfollowed := true, recurses := true, plainKeys := false, apart := false, narrowed := true }
def TxTellsUptoSaid : Prop := txTellsUptoRow.holds Try.pinned (OpenSpec.upto txTellsSpec)

/-- 'deltaworkslaw27.TxAlone', WHERE WHAT IT READS IS OF BULK AT MOST 1048576: true; the input reads as it did. -/
def txAloneUptoRow : OpenClaim := { program := "yteaeflmglppcdaa", sum := "491ad1bf9f6eba775a07e05e33f0f6195e378ff4cdd6b6242514379109ca1d94", func := "deltaworks/deltaworkslaw27.TxAlone", spec := "txAlone", unfollowed := true, recurses := true, plainKeys := false, apart := false, narrowed := true }
def TxAloneUptoSaid : Prop := txAloneUptoRow.holds Try.pinned (OpenSpec.upto txAloneSpec)

/-- 'deltaworkslaw27.TxSees', WHERE WHAT IT READS IS OF BULK AT MOST 1048576: true; the input reads as it did. -/
def txSeesUptoRow : OpenClaim := { program := "yteaeflmglppcdaa", sum := "491ad1bf9f6eba775a07e05e33f0f6195e378ff4cdd6b6242514379109ca1d94", func := "deltaworks/deltaworkslaw27.TxSees", spec := "txSees", unfollowed := true, recurses := true, plainKeys := false, apart := false, narrowed := true }
def TxSeesUptoSaid : Prop := txSeesUptoRow.holds Try.pinned (OpenSpec.upto txSeesSpec)

/-- 'deltaworkslaw27.TxInstants', WHERE WHAT IT READS IS OF BULK AT MOST 1048576: true; the input reads as it did. -/
def txInstantsUptoRow : OpenClaim := { program := "yteaeflmglppcdaa", sum := "491ad1bf9f6eba775a07e05e33f0f6195e378ff4cdd6b6242514379109ca1d94", func := "deltaworks/deltaworkslaw27.TxInstants", spec := "txInstants", unfollowed := true, recurses := true, plainKeys := false, apart := false, narrowed := true }
def TxInstantsUptoSaid : Prop := txInstantsUptoRow.holds Try.pinned (OpenSpec.upto txInstantsSpec)

/-- 'deltaworkslaw27.TxLoses', WHERE WHAT IT READS IS OF BULK AT MOST 1048576: true; the input reads as it did. -/
def txLosesUptoRow : OpenClaim := { program := "yteaeflmglppcdaa", sum := "491ad1bf9f6eba775a07e05e33f0f6195e378ff4cdd6b6242514379109ca1d94", func := "deltaworks/deltaworkslaw27.TxLoses", spec := "txLoses", unfollowed := true, recurses := true, plainKeys := false, apart := false, narrowed := true }
def TxLosesUptoSaid : Prop := txLosesUptoRow.holds Try.pinned (OpenSpec.upto txLosesSpec)

/-- 'deltaworkslaw27.TxNobody', WHERE WHAT IT READS IS OF BULK AT MOST 1048576: true; the input reads as it did. -/
def txNobodyUptoRow : OpenClaim := { program := "yteaeflmglppcdaa", sum := "491ad1bf9f6eba775a07e05e33f0f6195e378ff4cdd6b6242514379109ca1d94", func := "deltaworks/deltaworkslaw27.TxNobody", spec := "txNobody", unfollowed := true, recurses := true, plainKeys := false, apart := false, narrowed := true }
def TxNobodyUptoSaid : Prop := txNobodyUptoRow.holds Try.pinned (OpenSpec.upto txNobodySpec)

/-- 'deltaworkslaw27.TxSums', WHERE WHAT IT READS IS OF BULK AT MOST 1048576: true; the input reads as it did. -/
def txSumsUptoRow : OpenClaim := { program := "yteaeflmglppcdaa", sum := "491ad1bf9f6eba775a07e05e33f0f6195e378ff4cdd6b6242514379109ca1d94", func := "deltaworks/deltaworkslaw27.TxSums", spec := "txSums", unfollowed := true, recurses := true, plainKeys := false, apart := false, narrowed := true }
def TxSumsUptoSaid : Prop := txSumsUptoRow.holds Try.pinned (OpenSpec.upto txSumsSpec)

/-- 'deltaworkslaw27.TxNames', WHERE WHAT IT READS IS OF BULK AT MOST 1048576: true; the input reads as it did. -/
def txNamesUptoRow : OpenClaim := { program := "yteaeflmglppcdaa", sum := "491ad1bf9f6eba775a07e05e33f0f6195e378ff4cdd6b6242514379109ca1d94", func := "deltaworks/deltaworkslaw27.TxNames", spec := "txNames", unfollowed := true, recurses := true, plainKeys := false, apart := false, narrowed := true }
def TxNamesUptoSaid : Prop := txNamesUptoRow.holds Try.pinned (OpenSpec.upto txNamesSpec)

end Rows
end Go.Proofs.Yteaeflmglppcdaa
