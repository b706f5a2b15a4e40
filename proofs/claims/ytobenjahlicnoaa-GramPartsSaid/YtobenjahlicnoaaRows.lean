/-
  No cell of these rows narrows 'for every input' (looked for: loops, veiled, ifaces, maps, wideKeys, modest, calm, conditions, laid).
  DERIVED. THE GIVEN ROWS OF THIS SEAT. 7 by the template 'for every input the law returns true; each argument reads behind the call as it read before'; 0 by the template 'total and deterministic' (their statements: YtobenjahlicnoaaTotals.lean).
  GIVEN WITH THE SEED: the statements are not yours to turn. If you find one false, say at which input.
  Laid BY PROGRAM, IN A SANDBOX (cutbox-rows.mjs): the forced cells as the released guide's own fill.sh prints them over the translation 2d22dc0f02c92f1e… (all of the seat's roots in one cut). By AI agents, Wed Nov 11 2026. No macro, syntax, notation, axiom, sorry.
-/
import Derived.Test.YtobenjahlicnoaaChecked
import GoSem.Claim
import GoSem.ClaimJoined
import GoSem.ClaimMapViews
import Derived.JoinedTies
import Derived.KernelRfl
namespace Go.Proofs.Ytobenjahlicnoaa
/- THE CELL 'sum', in the pinned program and in every row, IS THE sha256 OF THE DUMP (.gsa) THAT YtobenjahlicnoaaProg.lean LOADS. Nothing in Lean hashes anything: it is a label: what it is worth is what the hold of that sum in a sandbox is worth. -/
noncomputable def Try.pinned : Pinned := { name := "ytobenjahlicnoaa", sum := "2d22dc0f02c92f1ef5c8532085f4d700cd2d36277c497ac48ead85a5f8fd9ec6", checked := Try.checked }
namespace Rows
def none {H : Type} : Left H := { results := [], args := [] }

/-- 'evermorekeep.LearnBlind': WHATEVER THE INPUT: true; the input reads as it did. -/
def learnBlindSpec : ChangeSpec := { name := "learnBlind", fn := fun _ => fun
  | [d1, d2] => { results := [.lit (.bool true)], args := [d1, d2] }
  | _ => none }
def learnBlindRow : OpenClaim := { program := "ytobenjahlicnoaa", sum := "2d22dc0f02c92f1ef5c8532085f4d700cd2d36277c497ac48ead85a5f8fd9ec6", func := "evermore/evermorekeep.LearnBlind", spec := "learnBlind", inPlace := ["internal/bytealg.IndexByteString", "internal/abi.NoEscape"], unfollowed := true, recurses := true, plainKeys := false, apart := false }
def LearnBlindSaid : Prop := learnBlindRow.holds Try.pinned (OpenSpec.ofChange learnBlindSpec)

/-- ITS FALSE NEIGHBOUR: 'it returns false'. Refute it at one input. -/
def learnBlindWrong : ChangeSpec := { name := "learnBlind", fn := fun _ => fun
  | [d1, d2] => { results := [.lit (.bool false)], args := [d1, d2] }
  | _ => none }
def LearnBlindWrongFalsely : Prop := learnBlindRow.holds Try.pinned (OpenSpec.ofChange learnBlindWrong)

/-- 'evermorekeep.GramParts': WHATEVER THE INPUT: true; the input reads as it did. -/
def gramPartsSpec : ChangeSpec := { name := "gramParts", fn := fun _ => fun
  | [d1, d2] => { results := [.lit (.bool true)], args := [d1, d2] }
  | _ => none }
def gramPartsRow : OpenClaim := { program := "ytobenjahlicnoaa", sum := "2d22dc0f02c92f1ef5c8532085f4d700cd2d36277c497ac48ead85a5f8fd9ec6", func := "evermore/evermorekeep.GramParts", spec := "gramParts", unfollowed := true, recurses := true, plainKeys := false, apart := false }
def GramPartsSaid : Prop := gramPartsRow.holds Try.pinned (OpenSpec.ofChange gramPartsSpec)

/-- ITS FALSE NEIGHBOUR: 'it returns false'. Refute it at one input. -/
def gramPartsWrong : ChangeSpec := { name := "gramParts", fn := fun _ => fun
  | [d1, d2] => { results := [.lit (.bool false)], args := [d1, d2] }
  | _ => none }
def GramPartsWrongFalsely : Prop := gramPartsRow.holds Try.pinned (OpenSpec.ofChange gramPartsWrong)

/-- 'evermorekeep.LogicLaws': WHATEVER THE INPUT: true; the input reads as it did. -/
def logicLawsSpec : ChangeSpec := { name := "logicLaws", fn := fun _ => fun
  | [d1, d2] => { results := [.lit (.bool true)], args := [d1, d2] }
  | _ => none }
def logicLawsRow : OpenClaim := { program := "ytobenjahlicnoaa", sum := "2d22dc0f02c92f1ef5c8532085f4d700cd2d36277c497ac48ead85a5f8fd9ec6", func := "evermore/evermorekeep.LogicLaws", spec := "logicLaws", inPlace := ["internal/bytealg.IndexByteString"], unfollowed := true, recurses := true, plainKeys := false, apart := false }
def LogicLawsSaid : Prop := logicLawsRow.holds Try.pinned (OpenSpec.ofChange logicLawsSpec)

/-- ITS FALSE NEIGHBOUR: 'it returns false'. Refute it at one input. -/
def logicLawsWrong : ChangeSpec := { name := "logicLaws", fn := fun _ => fun
  | [d1, d2] => { results := [.lit (.bool false)], args := [d1, d2] }
  | _ => none }
def LogicLawsWrongFalsely : Prop := logicLawsRow.holds Try.pinned (OpenSpec.ofChange logicLawsWrong)

/-- 'evermoretop.TopFirst': WHATEVER THE INPUT: true; the input reads as it did. -/
def topFirstSpec : ChangeSpec := { name := "topFirst", fn := fun _ => fun
  | [d] => { results := [.lit (.bool true)], args := [d] }
  | _ => none }
def topFirstRow : OpenClaim := { program := "ytobenjahlicnoaa", sum := "2d22dc0f02c92f1ef5c8532085f4d700cd2d36277c497ac48ead85a5f8fd9ec6", func := "evermore/evermoretop.TopFirst", spec := "topFirst", inPlace := ["internal/bytealg.IndexByteString"], unfollowed := true, recurses := true, plainKeys := false, apart := false }
def TopFirstSaid : Prop := topFirstRow.holds Try.pinned (OpenSpec.ofChange topFirstSpec)

/-- ITS FALSE NEIGHBOUR: 'it returns false'. Refute it at one input. -/
def topFirstWrong : ChangeSpec := { name := "topFirst", fn := fun _ => fun
  | [d] => { results := [.lit (.bool false)], args := [d] }
  | _ => none }
def TopFirstWrongFalsely : Prop := topFirstRow.holds Try.pinned (OpenSpec.ofChange topFirstWrong)

/-- 'evermoretop.TopGame': WHATEVER THE INPUT: true; the input reads as it did. -/
def topGameSpec : ChangeSpec := { name := "topGame", fn := fun _ => fun
  | [d1, d2, d3] => { results := [.lit (.bool true)], args := [d1, d2, d3] }
  | _ => none }
def topGameRow : OpenClaim := { program := "ytobenjahlicnoaa", sum := "2d22dc0f02c92f1ef5c8532085f4d700cd2d36277c497ac48ead85a5f8fd9ec6", func := "evermore/evermoretop.TopGame", spec := "topGame", inPlace := ["internal/bytealg.IndexByteString"], unfollowed := true, recurses := true, plainKeys := false, apart := false }
def TopGameSaid : Prop := topGameRow.holds Try.pinned (OpenSpec.ofChange topGameSpec)

/-- ITS FALSE NEIGHBOUR: 'it returns false'. Refute it at one input. -/
def topGameWrong : ChangeSpec := { name := "topGame", fn := fun _ => fun
  | [d1, d2, d3] => { results := [.lit (.bool false)], args := [d1, d2, d3] }
  | _ => none }
def TopGameWrongFalsely : Prop := topGameRow.holds Try.pinned (OpenSpec.ofChange topGameWrong)

/-- 'evermorekeep.SumsLaws': WHATEVER THE INPUT: true; the input reads as it did. -/
def sumsLawsSpec : ChangeSpec := { name := "sumsLaws", fn := fun _ => fun
  | [d1, d2] => { results := [.lit (.bool true)], args := [d1, d2] }
  | _ => none }
def sumsLawsRow : OpenClaim := { program := "ytobenjahlicnoaa", sum := "2d22dc0f02c92f1ef5c8532085f4d700cd2d36277c497ac48ead85a5f8fd9ec6", func := "evermore/evermorekeep.SumsLaws", spec := "sumsLaws", unfollowed := true, recurses := true, plainKeys := false, apart := false }
def SumsLawsSaid : Prop := sumsLawsRow.holds Try.pinned (OpenSpec.ofChange sumsLawsSpec)

/-- ITS FALSE NEIGHBOUR: 'it returns false'. Refute it at one input. -/
def sumsLawsWrong : ChangeSpec := { name := "sumsLaws", fn := fun _ => fun
  | [d1, d2] => { results := [.lit (.bool false)], args := [d1, d2] }
  | _ => none }
def SumsLawsWrongFalsely : Prop := sumsLawsRow.holds Try.pinned (OpenSpec.ofChange sumsLawsWrong)

/-- 'evermorekeep.CoverGrows': WHATEVER THE INPUT: true; the input reads as it did. -/
def coverGrowsSpec : ChangeSpec := { name := "coverGrows", fn := fun _ => fun
  | [d1, d2, d3, d4] => { results := [.lit (.bool true)], args := [d1, d2, d3, d4] }
  | _ => none }
def coverGrowsRow : OpenClaim := { program := "ytobenjahlicnoaa", sum := "2d22dc0f02c92f1ef5c8532085f4d700cd2d36277c497ac48ead85a5f8fd9ec6", func := "evermore/evermorekeep.CoverGrows", spec := "coverGrows", unfollowed := true, recurses := true, plainKeys := false, apart := false }
def CoverGrowsSaid : Prop := coverGrowsRow.holds Try.pinned (OpenSpec.ofChange coverGrowsSpec)

/-- ITS FALSE NEIGHBOUR: 'it returns false'. Refute it at one input. -/
def coverGrowsWrong : ChangeSpec := { name := "coverGrows", fn := fun _ => fun
  | [d1, d2, d3, d4] => { results := [.lit (.bool false)], args := [d1, d2, d3, d4] }
  | _ => none }
def CoverGrowsWrongFalsely : Prop := coverGrowsRow.holds Try.pinned (OpenSpec.ofChange coverGrowsWrong)

/- THE SECOND FORM. 'bulk': how many values and letters a reading holds, each counted each time it is reached (what is shared counts as often as it is met; a slice's spare places count too). A statement '..UptoSaid' is the law's where the arguments, and the package variables that the reading takes, are together of bulk at most 1048576: NARROWER than '..Said'. Prove '..Said' where nothing that the law and all that it calls make is longer than what came in: it says more and counts as full. Else prove '..UptoSaid'. A law counts once. -/
mutual
def uptoBulk {H : Type} : DataW H → Nat
  | .lit (.string bytes) => bytes.length + 1
  | .lit _ => 1
  | .nil => 1
  | .ptr d => uptoBulk d + 1
  | .slice elems spare => uptoBulkAll elems + uptoBulkAll spare + 1
  | .agg parts => uptoBulkAll parts + 1
  | .iface _ d => uptoBulk d + 1
  | .map entries => uptoBulkEntries entries + 1
  | .held _ => 1
def uptoBulkAll {H : Type} : List (DataW H) → Nat
  | [] => 0
  | d :: r => uptoBulk d + uptoBulkAll r
def uptoBulkEntries {H : Type} : List (Lit × DataW H) → Nat
  | [] => 0
  | x :: r => uptoBulkEntry x + uptoBulkEntries r
def uptoBulkEntry {H : Type} : Lit × DataW H → Nat
  | (.string bytes, d) => bytes.length + uptoBulk d + 1
  | (_, d) => uptoBulk d + 1
 end
def uptoSmall : (H : Type) → List (DataW H) → Bool := fun _ ds => decide (uptoBulkAll ds ≤ 1048576)
def OpenSpec.upto (s : _root_.Go.ChangeSpec) : _root_.Go.OpenSpec := { _root_.Go.OpenSpec.ofChange s with cond := some uptoSmall }

/-- 'evermorekeep.LearnBlind', WHERE WHAT IT READS IS OF BULK AT MOST 1048576: true; the input reads as it did. -/
def learnBlindUptoRow : OpenClaim := { program := "ytobenjahlicnoaa", sum := "2d22dc0f02c92f1ef5c8532085f4d700cd2d36277c497ac48ead85a5f8fd9ec6", func := "evermore/evermorekeep.LearnBlind", spec := "learnBlind", inPlace := ["internal/bytealg.IndexByteString", "internal/abi.NoEscape"], unfollowed := true, recurses := true, plainKeys := false, apart := false, narrowed := true }
def LearnBlindUptoSaid : Prop := learnBlindUptoRow.holds Try.pinned (OpenSpec.upto learnBlindSpec)

/-- 'evermorekeep.GramParts', WHERE WHAT IT READS IS OF BULK AT MOST 1048576: true; the input reads as it did. -/
def gramPartsUptoRow : OpenClaim := { program := "ytobenjahlicnoaa", sum := "2d22dc0f02c92f1ef5c8532085f4d700cd2d36277c497ac48ead85a5f8fd9ec6", func := "evermore/evermorekeep.GramParts", spec := "gramParts", unfollowed := true, recurses := true, plainKeys := false, apart := false, narrowed := true }
def GramPartsUptoSaid : Prop := gramPartsUptoRow.holds Try.pinned (OpenSpec.upto gramPartsSpec)

/-- 'evermorekeep.LogicLaws', WHERE WHAT IT READS IS OF BULK AT MOST 1048576: true; the input reads as it did. -/
def logicLawsUptoRow : OpenClaim := { program := "ytobenjahlicnoaa", sum := "2d22dc0f02c92f1ef5c8532085f4d700cd2d36277c497ac48ead85a5f8fd9ec6", func := "evermore/evermorekeep.LogicLaws", spec := "logicLaws", inPlace := ["internal/bytealg.IndexByteString"], unfollowed := true, recurses := true, plainKeys := false, apart := false, narrowed := true }
def LogicLawsUptoSaid : Prop := logicLawsUptoRow.holds Try.pinned (OpenSpec.upto logicLawsSpec)

/-- 'evermoretop.TopFirst', WHERE WHAT IT READS IS OF BULK AT MOST 1048576: true; the input reads as it did. -/
def topFirstUptoRow : OpenClaim := { program := "ytobenjahlicnoaa", sum := "2d22dc0f02c92f1ef5c8532085f4d700cd2d36277c497ac48ead85a5f8fd9ec6", func := "evermore/evermoretop.TopFirst", spec := "topFirst", inPlace := ["internal/bytealg.IndexByteString"], unfollowed := true, recurses := true, plainKeys := false, apart := false, narrowed := true }
def TopFirstUptoSaid : Prop := topFirstUptoRow.holds Try.pinned (OpenSpec.upto topFirstSpec)

/-- 'evermoretop.TopGame', WHERE WHAT IT READS IS OF BULK AT MOST 1048576: true; the input reads as it did. -/
def topGameUptoRow : OpenClaim := { program := "ytobenjahlicnoaa", sum := "2d22dc0f02c92f1ef5c8532085f4d700cd2d36277c497ac48ead85a5f8fd9ec6", func := "evermore/evermoretop.TopGame", spec := "topGame", inPlace := ["internal/bytealg.IndexByteString"], unfollowed := true, recurses := true, plainKeys := false, apart := false, narrowed := true }
def TopGameUptoSaid : Prop := topGameUptoRow.holds Try.pinned (OpenSpec.upto topGameSpec)

/-- 'evermorekeep.SumsLaws', WHERE WHAT IT READS IS OF BULK AT MOST 1048576: true; the input reads as it did. -/
def sumsLawsUptoRow : OpenClaim := { program := "ytobenjahlicnoaa", sum := "2d22dc0f02c92f1ef5c8532085f4d700cd2d36277c497ac48ead85a5f8fd9ec6", func := "evermore/evermorekeep.SumsLaws", spec := "sumsLaws", unfollowed := true, recurses := true, plainKeys := false, apart := false, narrowed := true }
def SumsLawsUptoSaid : Prop := sumsLawsUptoRow.holds Try.pinned (OpenSpec.upto sumsLawsSpec)

/-- 'evermorekeep.CoverGrows', WHERE WHAT IT READS IS OF BULK AT MOST 1048576: true; the input reads as it did. -/
def coverGrowsUptoRow : OpenClaim := { program := "ytobenjahlicnoaa", sum := "2d22dc0f02c92f1ef5c8532085f4d700cd2d36277c497ac48ead85a5f8fd9ec6", func := "evermore/evermorekeep.CoverGrows", spec := "coverGrows", unfollowed := true, recurses := true, plainKeys := false, apart := false, narrowed := true }
def CoverGrowsUptoSaid : Prop := coverGrowsUptoRow.holds Try.pinned (OpenSpec.upto coverGrowsSpec)

end Rows
end Go.Proofs.Ytobenjahlicnoaa
