/-
  No cell of these rows narrows 'for every input' (looked for: loops, veiled, ifaces, maps, wideKeys, modest, calm, conditions, laid).
  DERIVED. THE GIVEN ROWS OF THIS SEAT. 12 by the template 'for every input the law returns true; each argument reads behind the call as it read before'; 0 by the template 'total and deterministic' (their statements: YtapnmjeadbhffaaTotals.lean).
  GIVEN WITH THE SEED: the statements are not yours to turn. If you find one false, say at which input.
  Laid BY PROGRAM, IN A SANDBOX (cutbox-rows.mjs): the forced cells as the released guide's own fill.sh prints them over the translation 640c85837667d3ec… (all of the seat's roots in one cut). By AI agents, Wed Nov 11 2026. No macro, syntax, notation, axiom, sorry.
-/
import Derived.Test.YtapnmjeadbhffaaChecked
import GoSem.Claim
import GoSem.ClaimJoined
import GoSem.ClaimMapViews
import Derived.JoinedTies
import Derived.KernelRfl
namespace Go.Proofs.Ytapnmjeadbhffaa
/- THE CELL 'sum', in the pinned program and in every row, IS THE sha256 OF THE DUMP (.gsa) THAT YtapnmjeadbhffaaProg.lean LOADS. Nothing in Lean hashes anything: it is a label: what it is worth is what the hold of that sum in a sandbox is worth. -/
noncomputable def Try.pinned : Pinned := { name := "ytapnmjeadbhffaa", sum := "640c85837667d3ec85b482b730d43264379723cdcc24dc97227c065d502c14dc", checked := Try.checked }
namespace Rows
def none {H : Type} : Left H := { results := [], args := [] }

/-- 'evermorekeep.StackGoes': WHATEVER THE INPUT: true; the input reads as it did. -/
def stackGoesSpec : ChangeSpec := { name := "stackGoes", fn := fun _ => fun
  | [d1, d2, d3, d4] => { results := [.lit (.bool true)], args := [d1, d2, d3, d4] }
  | _ => none }
def stackGoesRow : OpenClaim := { program := "ytapnmjeadbhffaa", sum := "640c85837667d3ec85b482b730d43264379723cdcc24dc97227c065d502c14dc", func := "evermore/evermorekeep.StackGoes", spec := "stackGoes", unfollowed := true, recurses := true, plainKeys := false, apart := false }
def StackGoesSaid : Prop := stackGoesRow.holds Try.pinned (OpenSpec.ofChange stackGoesSpec)

/-- ITS FALSE NEIGHBOUR: 'it returns false'. Refute it at one input. -/
def stackGoesWrong : ChangeSpec := { name := "stackGoes", fn := fun _ => fun
  | [d1, d2, d3, d4] => { results := [.lit (.bool false)], args := [d1, d2, d3, d4] }
  | _ => none }
def StackGoesWrongFalsely : Prop := stackGoesRow.holds Try.pinned (OpenSpec.ofChange stackGoesWrong)

/-- 'evermorekeep.CoverGrows': WHATEVER THE INPUT: true; the input reads as it did. -/
def coverGrowsSpec : ChangeSpec := { name := "coverGrows", fn := fun _ => fun
  | [d1, d2, d3, d4] => { results := [.lit (.bool true)], args := [d1, d2, d3, d4] }
  | _ => none }
def coverGrowsRow : OpenClaim := { program := "ytapnmjeadbhffaa", sum := "640c85837667d3ec85b482b730d43264379723cdcc24dc97227c065d502c14dc", func := "evermore/evermorekeep.CoverGrows", spec := "coverGrows", unfollowed := true, recurses := true, plainKeys := false, apart := false }
def CoverGrowsSaid : Prop := coverGrowsRow.holds Try.pinned (OpenSpec.ofChange coverGrowsSpec)

/-- ITS FALSE NEIGHBOUR: 'it returns false'. Refute it at one input. -/
def coverGrowsWrong : ChangeSpec := { name := "coverGrows", fn := fun _ => fun
  | [d1, d2, d3, d4] => { results := [.lit (.bool false)], args := [d1, d2, d3, d4] }
  | _ => none }
def CoverGrowsWrongFalsely : Prop := coverGrowsRow.holds Try.pinned (OpenSpec.ofChange coverGrowsWrong)

/-- 'evermorekeep.SameOrder': WHATEVER THE INPUT: true; the input reads as it did. -/
def sameOrderSpec : ChangeSpec := { name := "sameOrder", fn := fun _ => fun
  | [d] => { results := [.lit (.bool true)], args := [d] }
  | _ => none }
def sameOrderRow : OpenClaim := { program := "ytapnmjeadbhffaa", sum := "640c85837667d3ec85b482b730d43264379723cdcc24dc97227c065d502c14dc", func := "evermore/evermorekeep.SameOrder", spec := "sameOrder", unfollowed := true, recurses := true, plainKeys := false, apart := false }
def SameOrderSaid : Prop := sameOrderRow.holds Try.pinned (OpenSpec.ofChange sameOrderSpec)

/-- ITS FALSE NEIGHBOUR: 'it returns false'. Refute it at one input. -/
def sameOrderWrong : ChangeSpec := { name := "sameOrder", fn := fun _ => fun
  | [d] => { results := [.lit (.bool false)], args := [d] }
  | _ => none }
def SameOrderWrongFalsely : Prop := sameOrderRow.holds Try.pinned (OpenSpec.ofChange sameOrderWrong)

/-- 'evermorekeep.TimeLaws': WHATEVER THE INPUT: true; the input reads as it did. -/
def timeLawsSpec : ChangeSpec := { name := "timeLaws", fn := fun _ => fun
  | [d1, d2, d3] => { results := [.lit (.bool true)], args := [d1, d2, d3] }
  | _ => none }
def timeLawsRow : OpenClaim := { program := "ytapnmjeadbhffaa", sum := "640c85837667d3ec85b482b730d43264379723cdcc24dc97227c065d502c14dc", func := "evermore/evermorekeep.TimeLaws", spec := "timeLaws", unfollowed := true, recurses := true, plainKeys := false, apart := false }
def TimeLawsSaid : Prop := timeLawsRow.holds Try.pinned (OpenSpec.ofChange timeLawsSpec)

/-- ITS FALSE NEIGHBOUR: 'it returns false'. Refute it at one input. -/
def timeLawsWrong : ChangeSpec := { name := "timeLaws", fn := fun _ => fun
  | [d1, d2, d3] => { results := [.lit (.bool false)], args := [d1, d2, d3] }
  | _ => none }
def TimeLawsWrongFalsely : Prop := timeLawsRow.holds Try.pinned (OpenSpec.ofChange timeLawsWrong)

/-- 'evermoretop.TopSame': WHATEVER THE INPUT: true; the input reads as it did. -/
def topSameSpec : ChangeSpec := { name := "topSame", fn := fun _ => fun
  | [d1, d2] => { results := [.lit (.bool true)], args := [d1, d2] }
  | _ => none }
def topSameRow : OpenClaim := { program := "ytapnmjeadbhffaa", sum := "640c85837667d3ec85b482b730d43264379723cdcc24dc97227c065d502c14dc", func := "evermore/evermoretop.TopSame", spec := "topSame", unfollowed := true, recurses := true, plainKeys := false, apart := false }
def TopSameSaid : Prop := topSameRow.holds Try.pinned (OpenSpec.ofChange topSameSpec)

/-- ITS FALSE NEIGHBOUR: 'it returns false'. Refute it at one input. -/
def topSameWrong : ChangeSpec := { name := "topSame", fn := fun _ => fun
  | [d1, d2] => { results := [.lit (.bool false)], args := [d1, d2] }
  | _ => none }
def TopSameWrongFalsely : Prop := topSameRow.holds Try.pinned (OpenSpec.ofChange topSameWrong)

/-- 'evermorekeep.BranchTurns': WHATEVER THE INPUT: true; the input reads as it did. -/
def branchTurnsSpec : ChangeSpec := { name := "branchTurns", fn := fun _ => fun
  | [d1, d2, d3] => { results := [.lit (.bool true)], args := [d1, d2, d3] }
  | _ => none }
def branchTurnsRow : OpenClaim := { program := "ytapnmjeadbhffaa", sum := "640c85837667d3ec85b482b730d43264379723cdcc24dc97227c065d502c14dc", func := "evermore/evermorekeep.BranchTurns", spec := "branchTurns", unfollowed := true, recurses := true, plainKeys := false, apart := false }
def BranchTurnsSaid : Prop := branchTurnsRow.holds Try.pinned (OpenSpec.ofChange branchTurnsSpec)

/-- ITS FALSE NEIGHBOUR: 'it returns false'. Refute it at one input. -/
def branchTurnsWrong : ChangeSpec := { name := "branchTurns", fn := fun _ => fun
  | [d1, d2, d3] => { results := [.lit (.bool false)], args := [d1, d2, d3] }
  | _ => none }
def BranchTurnsWrongFalsely : Prop := branchTurnsRow.holds Try.pinned (OpenSpec.ofChange branchTurnsWrong)

/-- 'evermorekeep.RegularSums': WHATEVER THE INPUT: true; the input reads as it did. -/
def regularSumsSpec : ChangeSpec := { name := "regularSums", fn := fun _ => fun
  | [d1, d2] => { results := [.lit (.bool true)], args := [d1, d2] }
  | _ => none }
def regularSumsRow : OpenClaim := { program := "ytapnmjeadbhffaa", sum := "640c85837667d3ec85b482b730d43264379723cdcc24dc97227c065d502c14dc", func := "evermore/evermorekeep.RegularSums", spec := "regularSums", inPlace := ["internal/bytealg.IndexByteString"], unfollowed := true, recurses := true, plainKeys := false, apart := false }
def RegularSumsSaid : Prop := regularSumsRow.holds Try.pinned (OpenSpec.ofChange regularSumsSpec)

/-- ITS FALSE NEIGHBOUR: 'it returns false'. Refute it at one input. -/
def regularSumsWrong : ChangeSpec := { name := "regularSums", fn := fun _ => fun
  | [d1, d2] => { results := [.lit (.bool false)], args := [d1, d2] }
  | _ => none }
def RegularSumsWrongFalsely : Prop := regularSumsRow.holds Try.pinned (OpenSpec.ofChange regularSumsWrong)

/-- 'evermorekeep.FixUnfolds': WHATEVER THE INPUT: true; the input reads as it did. -/
def fixUnfoldsSpec : ChangeSpec := { name := "fixUnfolds", fn := fun _ => fun
  | [d1, d2] => { results := [.lit (.bool true)], args := [d1, d2] }
  | _ => none }
def fixUnfoldsRow : OpenClaim := { program := "ytapnmjeadbhffaa", sum := "640c85837667d3ec85b482b730d43264379723cdcc24dc97227c065d502c14dc", func := "evermore/evermorekeep.FixUnfolds", spec := "fixUnfolds", unfollowed := true, recurses := true, plainKeys := false, apart := false }
def FixUnfoldsSaid : Prop := fixUnfoldsRow.holds Try.pinned (OpenSpec.ofChange fixUnfoldsSpec)

/-- ITS FALSE NEIGHBOUR: 'it returns false'. Refute it at one input. -/
def fixUnfoldsWrong : ChangeSpec := { name := "fixUnfolds", fn := fun _ => fun
  | [d1, d2] => { results := [.lit (.bool false)], args := [d1, d2] }
  | _ => none }
def FixUnfoldsWrongFalsely : Prop := fixUnfoldsRow.holds Try.pinned (OpenSpec.ofChange fixUnfoldsWrong)

/-- 'evermorekeep.DetLaws': WHATEVER THE INPUT: true; the input reads as it did. -/
def detLawsSpec : ChangeSpec := { name := "detLaws", fn := fun _ => fun
  | [d1, d2] => { results := [.lit (.bool true)], args := [d1, d2] }
  | _ => none }
def detLawsRow : OpenClaim := { program := "ytapnmjeadbhffaa", sum := "640c85837667d3ec85b482b730d43264379723cdcc24dc97227c065d502c14dc", func := "evermore/evermorekeep.DetLaws", spec := "detLaws", inPlace := ["internal/bytealg.IndexByteString"], unfollowed := true, recurses := true, plainKeys := false, apart := false }
def DetLawsSaid : Prop := detLawsRow.holds Try.pinned (OpenSpec.ofChange detLawsSpec)

/-- ITS FALSE NEIGHBOUR: 'it returns false'. Refute it at one input. -/
def detLawsWrong : ChangeSpec := { name := "detLaws", fn := fun _ => fun
  | [d1, d2] => { results := [.lit (.bool false)], args := [d1, d2] }
  | _ => none }
def DetLawsWrongFalsely : Prop := detLawsRow.holds Try.pinned (OpenSpec.ofChange detLawsWrong)

/-- 'evermorekeep.MonoidPowers': WHATEVER THE INPUT: true; the input reads as it did. -/
def monoidPowersSpec : ChangeSpec := { name := "monoidPowers", fn := fun _ => fun
  | [d1, d2] => { results := [.lit (.bool true)], args := [d1, d2] }
  | _ => none }
def monoidPowersRow : OpenClaim := { program := "ytapnmjeadbhffaa", sum := "640c85837667d3ec85b482b730d43264379723cdcc24dc97227c065d502c14dc", func := "evermore/evermorekeep.MonoidPowers", spec := "monoidPowers", inPlace := ["internal/bytealg.IndexByteString"], unfollowed := true, recurses := true, plainKeys := false, apart := false }
def MonoidPowersSaid : Prop := monoidPowersRow.holds Try.pinned (OpenSpec.ofChange monoidPowersSpec)

/-- ITS FALSE NEIGHBOUR: 'it returns false'. Refute it at one input. -/
def monoidPowersWrong : ChangeSpec := { name := "monoidPowers", fn := fun _ => fun
  | [d1, d2] => { results := [.lit (.bool false)], args := [d1, d2] }
  | _ => none }
def MonoidPowersWrongFalsely : Prop := monoidPowersRow.holds Try.pinned (OpenSpec.ofChange monoidPowersWrong)

/-- 'evermorekeep.LearnBlind': WHATEVER THE INPUT: true; the input reads as it did. -/
def learnBlindSpec : ChangeSpec := { name := "learnBlind", fn := fun _ => fun
  | [d1, d2] => { results := [.lit (.bool true)], args := [d1, d2] }
  | _ => none }
def learnBlindRow : OpenClaim := { program := "ytapnmjeadbhffaa", sum := "640c85837667d3ec85b482b730d43264379723cdcc24dc97227c065d502c14dc", func := "evermore/evermorekeep.LearnBlind", spec := "learnBlind", inPlace := ["internal/bytealg.IndexByteString", "internal/abi.NoEscape"], unfollowed := true, recurses := true, plainKeys := false, apart := false }
def LearnBlindSaid : Prop := learnBlindRow.holds Try.pinned (OpenSpec.ofChange learnBlindSpec)

/-- ITS FALSE NEIGHBOUR: 'it returns false'. Refute it at one input. -/
def learnBlindWrong : ChangeSpec := { name := "learnBlind", fn := fun _ => fun
  | [d1, d2] => { results := [.lit (.bool false)], args := [d1, d2] }
  | _ => none }
def LearnBlindWrongFalsely : Prop := learnBlindRow.holds Try.pinned (OpenSpec.ofChange learnBlindWrong)

/-- 'evermorekeep.GramParts': WHATEVER THE INPUT: true; the input reads as it did. -/
def gramPartsSpec : ChangeSpec := { name := "gramParts", fn := fun _ => fun
  | [d1, d2] => { results := [.lit (.bool true)], args := [d1, d2] }
  | _ => none }
def gramPartsRow : OpenClaim := { program := "ytapnmjeadbhffaa", sum := "640c85837667d3ec85b482b730d43264379723cdcc24dc97227c065d502c14dc", func := "evermore/evermorekeep.GramParts", spec := "gramParts", unfollowed := true, recurses := true, plainKeys := false, apart := false }
def GramPartsSaid : Prop := gramPartsRow.holds Try.pinned (OpenSpec.ofChange gramPartsSpec)

/-- ITS FALSE NEIGHBOUR: 'it returns false'. Refute it at one input. -/
def gramPartsWrong : ChangeSpec := { name := "gramParts", fn := fun _ => fun
  | [d1, d2] => { results := [.lit (.bool false)], args := [d1, d2] }
  | _ => none }
def GramPartsWrongFalsely : Prop := gramPartsRow.holds Try.pinned (OpenSpec.ofChange gramPartsWrong)

/- THE SECOND FORM. 'bulk': how many values and letters a reading holds, each counted each time it is reached (what is shared counts as often as it is met; a slice's spare places count too). A statement '..UptoSaid' is the law's where the arguments, and the package variables that the reading takes, are together of bulk at most 1048576: NARROWER than '..Said'. Prove '..Said' where nothing that the law and all that it calls make is longer than what came in: it says more and counts as full. Else prove '..UptoSaid'. A law counts once. -/
mutual
def uptoBulk {H : Type} : DataW H → Nat
  | .lit (.string bytes) => bytes.length + 1
  | .lit _ => 1
  | .nil => 1
  | .ptr d => uptoBulk d + 1
  | .slice elems spare => uptoBulkAll elems + uptoBulkAll spare + 1
  | .agg parts => uptoBulkAll parts + 1
  | .iface _ d => uptoBulk d + 1
  | .map entries => uptoBulkEntries entries + 1
  | .held _ => 1
def uptoBulkAll {H : Type} : List (DataW H) → Nat
  | [] => 0
  | d :: r => uptoBulk d + uptoBulkAll r
def uptoBulkEntries {H : Type} : List (Lit × DataW H) → Nat
  | [] => 0
  | x :: r => uptoBulkEntry x + uptoBulkEntries r
def uptoBulkEntry {H : Type} : Lit × DataW H → Nat
  | (.string bytes, d) => bytes.length + uptoBulk d + 1
  | (_, d) => uptoBulk d + 1
 end
def uptoSmall : (H : Type) → List (DataW H) → Bool := fun _ ds => decide (uptoBulkAll ds ≤ 1048576)
def OpenSpec.upto (s : _root_.Go.ChangeSpec) : _root_.Go.OpenSpec := { _root_.Go.OpenSpec.ofChange s with cond := some uptoSmall }

/-- 'evermorekeep.StackGoes', WHERE WHAT IT READS IS OF BULK AT MOST 1048576: true; the input reads as it did. -/
def stackGoesUptoRow : OpenClaim := { program := "ytapnmjeadbhffaa", sum := "640c85837667d3ec85b482b730d43264379723cdcc24dc97227c065d502c14dc", func := "evermore/evermorekeep.StackGoes", spec := "stackGoes", unfollowed := true, recurses := true, plainKeys := false, apart := false, narrowed := true }
def StackGoesUptoSaid : Prop := stackGoesUptoRow.holds Try.pinned (OpenSpec.upto stackGoesSpec)

/-- 'evermorekeep.CoverGrows', WHERE WHAT IT READS IS OF BULK AT MOST 1048576: true; the input reads as it did. -/
def coverGrowsUptoRow : OpenClaim := { program := "ytapnmjeadbhffaa", sum := "640c85837667d3ec85b482b730d43264379723cdcc24dc97227c065d502c14dc", func := "evermore/evermorekeep.CoverGrows", spec := "coverGrows", unfollowed := true, recurses := true, plainKeys := false, apart := false, narrowed := true }
def CoverGrowsUptoSaid : Prop := coverGrowsUptoRow.holds Try.pinned (OpenSpec.upto coverGrowsSpec)

/-- 'evermorekeep.SameOrder', WHERE WHAT IT READS IS OF BULK AT MOST 1048576: true; the input reads as it did. -/
def sameOrderUptoRow : OpenClaim := { program := "ytapnmjeadbhffaa", sum := "640c85837667d3ec85b482b730d43264379723cdcc24dc97227c065d502c14dc", func := "evermore/evermorekeep.SameOrder", spec := "sameOrder", unfollowed := true, recurses := true, plainKeys := false, apart := false, narrowed := true }
def SameOrderUptoSaid : Prop := sameOrderUptoRow.holds Try.pinned (OpenSpec.upto sameOrderSpec)

/-- 'evermorekeep.TimeLaws', WHERE WHAT IT READS IS OF BULK AT MOST 1048576: true; the input reads as it did. -/
def timeLawsUptoRow : OpenClaim := { program := "ytapnmjeadbhffaa", sum := "640c85837667d3ec85b482b730d43264379723cdcc24dc97227c065d502c14dc", func := "evermore/evermorekeep.TimeLaws", spec := "timeLaws", unfollowed := true, recurses := true, plainKeys := false, apart := false, narrowed := true }
def TimeLawsUptoSaid : Prop := timeLawsUptoRow.holds Try.pinned (OpenSpec.upto timeLawsSpec)

/-- 'evermoretop.TopSame', WHERE WHAT IT READS IS OF BULK AT MOST 1048576: true; the input reads as it did. -/
def topSameUptoRow : OpenClaim := { program := "ytapnmjeadbhffaa", sum := "640c85837667d3ec85b482b730d43264379723cdcc24dc97227c065d502c14dc", func := "evermore/evermoretop.TopSame", spec := "topSame", unfollowed := true, recurses := true, plainKeys := false, apart := false, narrowed := true }
def TopSameUptoSaid : Prop := topSameUptoRow.holds Try.pinned (OpenSpec.upto topSameSpec)

/-- 'evermorekeep.BranchTurns', WHERE WHAT IT READS IS OF BULK AT MOST 1048576: true; the input reads as it did. -/
def branchTurnsUptoRow : OpenClaim := { program := "ytapnmjeadbhffaa", sum := "640c85837667d3ec85b482b730d43264379723cdcc24dc97227c065d502c14dc", func := "evermore/evermorekeep.BranchTurns", spec := "branchTurns", unfollowed := true, recurses := true, plainKeys := false, apart := false, narrowed := true }
def BranchTurnsUptoSaid : Prop := branchTurnsUptoRow.holds Try.pinned (OpenSpec.upto branchTurnsSpec)

/-- 'evermorekeep.RegularSums', WHERE WHAT IT READS IS OF BULK AT MOST 1048576: true; the input reads as it did. -/
def regularSumsUptoRow : OpenClaim := { program := "ytapnmjeadbhffaa", sum := "640c85837667d3ec85b482b730d43264379723cdcc24dc97227c065d502c14dc", func := "evermore/evermorekeep.RegularSums", spec := "regularSums", inPlace := ["internal/bytealg.IndexByteString"], unfollowed := true, recurses := true, plainKeys := false, apart := false, narrowed := true }
def RegularSumsUptoSaid : Prop := regularSumsUptoRow.holds Try.pinned (OpenSpec.upto regularSumsSpec)

/-- 'evermorekeep.FixUnfolds', WHERE WHAT IT READS IS OF BULK AT MOST 1048576: true; the input reads as it did. -/
def fixUnfoldsUptoRow : OpenClaim := { program := "ytapnmjeadbhffaa", sum := "640c85837667d3ec85b482b730d43264379723cdcc24dc97227c065d502c14dc", func := "evermore/evermorekeep.FixUnfolds", spec := "fixUnfolds", unfollowed := true, recurses := true, plainKeys := false, apart := false, narrowed := true }
def FixUnfoldsUptoSaid : Prop := fixUnfoldsUptoRow.holds Try.pinned (OpenSpec.upto fixUnfoldsSpec)

/-- 'evermorekeep.DetLaws', WHERE WHAT IT READS IS OF BULK AT MOST 1048576: true; the input reads as it did. -/
def detLawsUptoRow : OpenClaim := { program := "ytapnmjeadbhffaa", sum := "640c85837667d3ec85b482b730d43264379723cdcc24dc97227c065d502c14dc", func := "evermore/evermorekeep.DetLaws", spec := "detLaws", inPlace := ["internal/bytealg.IndexByteString"], unfollowed := true, recurses := true, plainKeys := false, apart := false, narrowed := true }
def DetLawsUptoSaid : Prop := detLawsUptoRow.holds Try.pinned (OpenSpec.upto detLawsSpec)

/-- 'evermorekeep.MonoidPowers', WHERE WHAT IT READS IS OF BULK AT MOST 1048576: true; the input reads as it did. -/
def monoidPowersUptoRow : OpenClaim := { program := "ytapnmjeadbhffaa", sum := "640c85837667d3ec85b482b730d43264379723cdcc24dc97227c065d502c14dc", func := "evermore/evermorekeep.MonoidPowers", spec := "monoidPowers", inPlace := ["internal/bytealg.IndexByteString"], unfollowed := true, recurses := true, plainKeys := false, apart := false, narrowed := true }
def MonoidPowersUptoSaid : Prop := monoidPowersUptoRow.holds Try.pinned (OpenSpec.upto monoidPowersSpec)

/-- 'evermorekeep.LearnBlind', WHERE WHAT IT READS IS OF BULK AT MOST 1048576: true; the input reads as it did. -/
def learnBlindUptoRow : OpenClaim := { program := "ytapnmjeadbhffaa", sum := "640c85837667d3ec85b482b730d43264379723cdcc24dc97227c065d502c14dc", func := "evermore/evermorekeep.LearnBlind", spec := "learnBlind", inPlace := ["internal/bytealg.IndexByteString", "internal/abi.NoEscape"], unfollowed := true, recurses := true, plainKeys := false, apart := false, narrowed := true }
def LearnBlindUptoSaid : Prop := learnBlindUptoRow.holds Try.pinned (OpenSpec.upto learnBlindSpec)

/-- 'evermorekeep.GramParts', WHERE WHAT IT READS IS OF BULK AT MOST 1048576: true; the input reads as it did. -/
def gramPartsUptoRow : OpenClaim := { program := "ytapnmjeadbhffaa", sum := "640c85837667d3ec85b482b730d43264379723cdcc24dc97227c065d502c14dc", func := "evermore/evermorekeep.GramParts", spec := "gramParts", unfollowed := true, recurses := true, plainKeys := false, apart := false, narrowed := true }
def GramPartsUptoSaid : Prop := gramPartsUptoRow.holds Try.pinned (OpenSpec.upto gramPartsSpec)

end Rows
end Go.Proofs.Ytapnmjeadbhffaa
