/-
  No cell of these rows narrows 'for every input' (looked for: loops, veiled, ifaces, maps, wideKeys, modest, calm, conditions, laid).
  DERIVED. THE GIVEN ROWS OF THIS SEAT. 12 by the template 'for every input the law returns true; each argument reads behind the call as it read before'; 0 by the template 'total and deterministic' (their statements: YtiinkohfldopbaaTotals.lean).
  GIVEN WITH THE SEED: the statements are not yours to turn. If you find one false, say at which input.
  Laid BY PROGRAM, IN A SANDBOX (cutbox-rows.mjs): the forced cells as the released guide's own fill.sh prints them over the translation 1041076d81704836… (all of the seat's roots in one cut). By AI agents, Wed Nov 11 2026. No macro, syntax, notation, axiom, sorry.
-/
import Derived.Test.YtiinkohfldopbaaChecked
import GoSem.Claim
import GoSem.ClaimJoined
import GoSem.ClaimMapViews
import Derived.JoinedTies
import Derived.KernelRfl
namespace Go.Proofs.Ytiinkohfldopbaa
/- THE CELL 'sum', in the pinned program and in every row, IS THE sha256 OF THE DUMP (.gsa) THAT YtiinkohfldopbaaProg.lean LOADS. Nothing in Lean hashes anything: it is a label: what it is worth is what the hold of that sum in a sandbox is worth. -/
noncomputable def Try.pinned : Pinned := { name := "ytiinkohfldopbaa", sum := "1041076d817048365188852c583732d4976c4abedc67b65b6e8a76b51fd5f512", checked := Try.checked }
namespace Rows
def none {H : Type} : Left H := { results := [], args := [] }

/-- 'evermoretop.TopWithin': WHATEVER THE INPUT: true; the input reads as it did. -/
def topWithinSpec : ChangeSpec := { name := "topWithin", fn := fun _ => fun
  | [d] => { results := [.lit (.bool true)], args := [d] }
  | _ => none }
def topWithinRow : OpenClaim := { program := "ytiinkohfldopbaa", sum := "1041076d817048365188852c583732d4976c4abedc67b65b6e8a76b51fd5f512", func := "evermore/evermoretop.TopWithin", spec := "topWithin", unfollowed := true, recurses := true, plainKeys := false, apart := false }
def TopWithinSaid : Prop := topWithinRow.holds Try.pinned (OpenSpec.ofChange topWithinSpec)

/-- ITS FALSE NEIGHBOUR: 'it returns false'. Refute it at one input. -/
def topWithinWrong : ChangeSpec := { name := "topWithin", fn := fun _ => fun
  | [d] => { results := [.lit (.bool false)], args := [d] }
  | _ => none }
def TopWithinWrongFalsely : Prop := topWithinRow.holds Try.pinned (OpenSpec.ofChange topWithinWrong)

/-- 'evermoretop.TopSaid': WHATEVER THE INPUT: true; the input reads as it did. -/
def topSaidSpec : ChangeSpec := { name := "topSaid", fn := fun _ => fun
  | [d] => { results := [.lit (.bool true)], args := [d] }
  | _ => none }
def topSaidRow : OpenClaim := { program := "ytiinkohfldopbaa", sum := "1041076d817048365188852c583732d4976c4abedc67b65b6e8a76b51fd5f512", func := "evermore/evermoretop.TopSaid", spec := "topSaid", unfollowed := true, recurses := true, plainKeys := false, apart := false }
def TopSaidSaid : Prop := topSaidRow.holds Try.pinned (OpenSpec.ofChange topSaidSpec)

/-- ITS FALSE NEIGHBOUR: 'it returns false'. Refute it at one input. -/
def topSaidWrong : ChangeSpec := { name := "topSaid", fn := fun _ => fun
  | [d] => { results := [.lit (.bool false)], args := [d] }
  | _ => none }
def TopSaidWrongFalsely : Prop := topSaidRow.holds Try.pinned (OpenSpec.ofChange topSaidWrong)

/-- 'evermorekeep.HigmanTwice': WHATEVER THE INPUT: true; the input reads as it did. -/
def higmanTwiceSpec : ChangeSpec := { name := "higmanTwice", fn := fun _ => fun
  | [d] => { results := [.lit (.bool true)], args := [d] }
  | _ => none }
def higmanTwiceRow : OpenClaim := { program := "ytiinkohfldopbaa", sum := "1041076d817048365188852c583732d4976c4abedc67b65b6e8a76b51fd5f512", func := "evermore/evermorekeep.HigmanTwice", spec := "higmanTwice", unfollowed := true, recurses := true, plainKeys := false, apart := false }
def HigmanTwiceSaid : Prop := higmanTwiceRow.holds Try.pinned (OpenSpec.ofChange higmanTwiceSpec)

/-- ITS FALSE NEIGHBOUR: 'it returns false'. Refute it at one input. -/
def higmanTwiceWrong : ChangeSpec := { name := "higmanTwice", fn := fun _ => fun
  | [d] => { results := [.lit (.bool false)], args := [d] }
  | _ => none }
def HigmanTwiceWrongFalsely : Prop := higmanTwiceRow.holds Try.pinned (OpenSpec.ofChange higmanTwiceWrong)

/-- 'evermorekeep.TwoOne': WHATEVER THE INPUT: true; the input reads as it did. -/
def twoOneSpec : ChangeSpec := { name := "twoOne", fn := fun _ => fun
  | [d1, d2] => { results := [.lit (.bool true)], args := [d1, d2] }
  | _ => none }
def twoOneRow : OpenClaim := { program := "ytiinkohfldopbaa", sum := "1041076d817048365188852c583732d4976c4abedc67b65b6e8a76b51fd5f512", func := "evermore/evermorekeep.TwoOne", spec := "twoOne", unfollowed := true, recurses := true, plainKeys := false, apart := false }
def TwoOneSaid : Prop := twoOneRow.holds Try.pinned (OpenSpec.ofChange twoOneSpec)

/-- ITS FALSE NEIGHBOUR: 'it returns false'. Refute it at one input. -/
def twoOneWrong : ChangeSpec := { name := "twoOne", fn := fun _ => fun
  | [d1, d2] => { results := [.lit (.bool false)], args := [d1, d2] }
  | _ => none }
def TwoOneWrongFalsely : Prop := twoOneRow.holds Try.pinned (OpenSpec.ofChange twoOneWrong)

/-- 'evermorekeep.TransRow': WHATEVER THE INPUT: true; the input reads as it did. -/
def transRowSpec : ChangeSpec := { name := "transRow", fn := fun _ => fun
  | [d1, d2, d3] => { results := [.lit (.bool true)], args := [d1, d2, d3] }
  | _ => none }
def transRowRow : OpenClaim := { program := "ytiinkohfldopbaa", sum := "1041076d817048365188852c583732d4976c4abedc67b65b6e8a76b51fd5f512", func := "evermore/evermorekeep.TransRow", spec := "transRow", unfollowed := true, recurses := true, plainKeys := false, apart := false }
def TransRowSaid : Prop := transRowRow.holds Try.pinned (OpenSpec.ofChange transRowSpec)

/-- ITS FALSE NEIGHBOUR: 'it returns false'. Refute it at one input. -/
def transRowWrong : ChangeSpec := { name := "transRow", fn := fun _ => fun
  | [d1, d2, d3] => { results := [.lit (.bool false)], args := [d1, d2, d3] }
  | _ => none }
def TransRowWrongFalsely : Prop := transRowRow.holds Try.pinned (OpenSpec.ofChange transRowWrong)

/-- 'evermorekeep.CodeMcMillan': WHATEVER THE INPUT: true; the input reads as it did. -/
def codeMcMillanSpec : ChangeSpec := { name := "codeMcMillan", fn := fun _ => fun
  | [d1, d2] => { results := [.lit (.bool true)], args := [d1, d2] }
  | _ => none }
def codeMcMillanRow : OpenClaim := { program := "ytiinkohfldopbaa", sum := "1041076d817048365188852c583732d4976c4abedc67b65b6e8a76b51fd5f512", func := "evermore/evermorekeep.CodeMcMillan", spec := "codeMcMillan", unfollowed := true, recurses := true, plainKeys := false, apart := false }
def CodeMcMillanSaid : Prop := codeMcMillanRow.holds Try.pinned (OpenSpec.ofChange codeMcMillanSpec)

/-- ITS FALSE NEIGHBOUR: 'it returns false'. Refute it at one input. -/
def codeMcMillanWrong : ChangeSpec := { name := "codeMcMillan", fn := fun _ => fun
  | [d1, d2] => { results := [.lit (.bool false)], args := [d1, d2] }
  | _ => none }
def CodeMcMillanWrongFalsely : Prop := codeMcMillanRow.holds Try.pinned (OpenSpec.ofChange codeMcMillanWrong)

/-- 'evermoretop.TopSame': WHATEVER THE INPUT: true; the input reads as it did. -/
def topSameSpec : ChangeSpec := { name := "topSame", fn := fun _ => fun
  | [d1, d2] => { results := [.lit (.bool true)], args := [d1, d2] }
  | _ => none }
def topSameRow : OpenClaim := { program := "ytiinkohfldopbaa", sum := "1041076d817048365188852c583732d4976c4abedc67b65b6e8a76b51fd5f512", func := "evermore/evermoretop.TopSame", spec := "topSame", unfollowed := true, recurses := true, plainKeys := false, apart := false }
def TopSameSaid : Prop := topSameRow.holds Try.pinned (OpenSpec.ofChange topSameSpec)

/-- ITS FALSE NEIGHBOUR: 'it returns false'. Refute it at one input. -/
def topSameWrong : ChangeSpec := { name := "topSame", fn := fun _ => fun
  | [d1, d2] => { results := [.lit (.bool false)], args := [d1, d2] }
  | _ => none }
def TopSameWrongFalsely : Prop := topSameRow.holds Try.pinned (OpenSpec.ofChange topSameWrong)

/-- 'evermorekeep.BranchTurns': WHATEVER THE INPUT: true; the input reads as it did. -/
def branchTurnsSpec : ChangeSpec := { name := "branchTurns", fn := fun _ => fun
  | [d1, d2, d3] => { results := [.lit (.bool true)], args := [d1, d2, d3] }
  | _ => none }
def branchTurnsRow : OpenClaim := { program := "ytiinkohfldopbaa", sum := "1041076d817048365188852c583732d4976c4abedc67b65b6e8a76b51fd5f512", func := "evermore/evermorekeep.BranchTurns", spec := "branchTurns", unfollowed := true, recurses := true, plainKeys := false, apart := false }
def BranchTurnsSaid : Prop := branchTurnsRow.holds Try.pinned (OpenSpec.ofChange branchTurnsSpec)

/-- ITS FALSE NEIGHBOUR: 'it returns false'. Refute it at one input. -/
def branchTurnsWrong : ChangeSpec := { name := "branchTurns", fn := fun _ => fun
  | [d1, d2, d3] => { results := [.lit (.bool false)], args := [d1, d2, d3] }
  | _ => none }
def BranchTurnsWrongFalsely : Prop := branchTurnsRow.holds Try.pinned (OpenSpec.ofChange branchTurnsWrong)

/-- 'evermorekeep.RegularSums': WHATEVER THE INPUT: true; the input reads as it did. -/
def regularSumsSpec : ChangeSpec := { name := "regularSums", fn := fun _ => fun
  | [d1, d2] => { results := [.lit (.bool true)], args := [d1, d2] }
  | _ => none }
def regularSumsRow : OpenClaim := { program := "ytiinkohfldopbaa", sum := "1041076d817048365188852c583732d4976c4abedc67b65b6e8a76b51fd5f512", func := "evermore/evermorekeep.RegularSums", spec := "regularSums", inPlace := ["internal/bytealg.IndexByteString"], unfollowed := true, recurses := true, plainKeys := false, apart := false }
def RegularSumsSaid : Prop := regularSumsRow.holds Try.pinned (OpenSpec.ofChange regularSumsSpec)

/-- ITS FALSE NEIGHBOUR: 'it returns false'. Refute it at one input. -/
def regularSumsWrong : ChangeSpec := { name := "regularSums", fn := fun _ => fun
  | [d1, d2] => { results := [.lit (.bool false)], args := [d1, d2] }
  | _ => none }
def RegularSumsWrongFalsely : Prop := regularSumsRow.holds Try.pinned (OpenSpec.ofChange regularSumsWrong)

/-- 'evermorekeep.FixUnfolds': WHATEVER THE INPUT: true; the input reads as it did. -/
def fixUnfoldsSpec : ChangeSpec := { name := "fixUnfolds", fn := fun _ => fun
  | [d1, d2] => { results := [.lit (.bool true)], args := [d1, d2] }
  | _ => none }
def fixUnfoldsRow : OpenClaim := { program := "ytiinkohfldopbaa", sum := "1041076d817048365188852c583732d4976c4abedc67b65b6e8a76b51fd5f512", func := "evermore/evermorekeep.FixUnfolds", spec := "fixUnfolds", unfollowed := true, recurses := true, plainKeys := false, apart := false }
def FixUnfoldsSaid : Prop := fixUnfoldsRow.holds Try.pinned (OpenSpec.ofChange fixUnfoldsSpec)

/-- ITS FALSE NEIGHBOUR: 'it returns false'. Refute it at one input. -/
def fixUnfoldsWrong : ChangeSpec := { name := "fixUnfolds", fn := fun _ => fun
  | [d1, d2] => { results := [.lit (.bool false)], args := [d1, d2] }
  | _ => none }
def FixUnfoldsWrongFalsely : Prop := fixUnfoldsRow.holds Try.pinned (OpenSpec.ofChange fixUnfoldsWrong)

/-- 'evermorekeep.DetLaws': WHATEVER THE INPUT: true; the input reads as it did. -/
def detLawsSpec : ChangeSpec := { name := "detLaws", fn := fun _ => fun
  | [d1, d2] => { results := [.lit (.bool true)], args := [d1, d2] }
  | _ => none }
def detLawsRow : OpenClaim := { program := "ytiinkohfldopbaa", sum := "1041076d817048365188852c583732d4976c4abedc67b65b6e8a76b51fd5f512", func := "evermore/evermorekeep.DetLaws", spec := "detLaws", inPlace := ["internal/bytealg.IndexByteString"], unfollowed := true, recurses := true, plainKeys := false, apart := false }
def DetLawsSaid : Prop := detLawsRow.holds Try.pinned (OpenSpec.ofChange detLawsSpec)

/-- ITS FALSE NEIGHBOUR: 'it returns false'. Refute it at one input. -/
def detLawsWrong : ChangeSpec := { name := "detLaws", fn := fun _ => fun
  | [d1, d2] => { results := [.lit (.bool false)], args := [d1, d2] }
  | _ => none }
def DetLawsWrongFalsely : Prop := detLawsRow.holds Try.pinned (OpenSpec.ofChange detLawsWrong)

/-- 'evermorekeep.GramParts': WHATEVER THE INPUT: true; the input reads as it did. -/
def gramPartsSpec : ChangeSpec := { name := "gramParts", fn := fun _ => fun
  | [d1, d2] => { results := [.lit (.bool true)], args := [d1, d2] }
  | _ => none }
def gramPartsRow : OpenClaim := { program := "ytiinkohfldopbaa", sum := "1041076d817048365188852c583732d4976c4abedc67b65b6e8a76b51fd5f512", func := "evermore/evermorekeep.GramParts", spec := "gramParts", unfollowed := true, recurses := true, plainKeys := false, apart := false }
def GramPartsSaid : Prop := gramPartsRow.holds Try.pinned (OpenSpec.ofChange gramPartsSpec)

/-- ITS FALSE NEIGHBOUR: 'it returns false'. Refute it at one input. -/
def gramPartsWrong : ChangeSpec := { name := "gramParts", fn := fun _ => fun
  | [d1, d2] => { results := [.lit (.bool false)], args := [d1, d2] }
  | _ => none }
def GramPartsWrongFalsely : Prop := gramPartsRow.holds Try.pinned (OpenSpec.ofChange gramPartsWrong)

/- THE SECOND FORM. 'bulk': how many values and letters a reading holds, each counted each time it is reached (what is shared counts as often as it is met; a slice's spare places count too). A statement '..UptoSaid' is the law's where the arguments, and the package variables that the reading takes, are together of bulk at most 1048576: NARROWER than '..Said'. Prove '..Said' where nothing that the law and all that it calls make is longer than what came in: it says more and counts as full. Else prove '..UptoSaid'. A law counts once. -/
mutual
def uptoBulk {H : Type} : DataW H → Nat
  | .lit (.string bytes) => bytes.length + 1
  | .lit _ => 1
  | .nil => 1
  | .ptr d => uptoBulk d + 1
  | .slice elems spare => uptoBulkAll elems + uptoBulkAll spare + 1
  | .agg parts => uptoBulkAll parts + 1
  | .iface _ d => uptoBulk d + 1
  | .map entries => uptoBulkEntries entries + 1
  | .held _ => 1
def uptoBulkAll {H : Type} : List (DataW H) → Nat
  | [] => 0
  | d :: r => uptoBulk d + uptoBulkAll r
def uptoBulkEntries {H : Type} : List (Lit × DataW H) → Nat
  | [] => 0
  | x :: r => uptoBulkEntry x + uptoBulkEntries r
def uptoBulkEntry {H : Type} : Lit × DataW H → Nat
  | (.string bytes, d) => bytes.length + uptoBulk d + 1
  | (_, d) => uptoBulk d + 1
 end
def uptoSmall : (H : Type) → List (DataW H) → Bool := fun _ ds => decide (uptoBulkAll ds ≤ 1048576)
def OpenSpec.upto (s : _root_.Go.ChangeSpec) : _root_.Go.OpenSpec := { _root_.Go.OpenSpec.ofChange s with cond := some uptoSmall }

/-- 'evermoretop.TopWithin', WHERE WHAT IT READS IS OF BULK AT MOST 1048576: true; the input reads as it did. -/
def topWithinUptoRow : OpenClaim := { program := "ytiinkohfldopbaa", sum := "1041076d817048365188852c583732d4976c4abedc67b65b6e8a76b51fd5f512", func := "evermore/evermoretop.TopWithin", spec := "topWithin", unfollowed := true, recurses := true, plainKeys := false, apart := false, narrowed := true }
def TopWithinUptoSaid : Prop := topWithinUptoRow.holds Try.pinned (OpenSpec.upto topWithinSpec)

/-- 'evermoretop.TopSaid', WHERE WHAT IT READS IS OF BULK AT MOST 1048576: true; the input reads as it did. -/
def topSaidUptoRow : OpenClaim := { program := "ytiinkohfldopbaa", sum := "1041076d817048365188852c583732d4976c4abedc67b65b6e8a76b51fd5f512", func := "evermore/evermoretop.TopSaid", spec := "topSaid", unfollowed := true, recurses := true, plainKeys := false, apart := false, narrowed := true }
def TopSaidUptoSaid : Prop := topSaidUptoRow.holds Try.pinned (OpenSpec.upto topSaidSpec)

/-- 'evermorekeep.HigmanTwice', WHERE WHAT IT READS IS OF BULK AT MOST 1048576: true; the input reads as it did. -/
def higmanTwiceUptoRow : OpenClaim := { program := "ytiinkohfldopbaa", sum := "1041076d817048365188852c583732d4976c4abedc67b65b6e8a76b51fd5f512", func := "evermore/evermorekeep.HigmanTwice", spec := "higmanTwice", unfollowed := true, recurses := true, plainKeys := false, apart := false, narrowed := true }
def HigmanTwiceUptoSaid : Prop := higmanTwiceUptoRow.holds Try.pinned (OpenSpec.upto higmanTwiceSpec)

/-- 'evermorekeep.TwoOne', WHERE WHAT IT READS IS OF BULK AT MOST 1048576: true; the input reads as it did. -/
def twoOneUptoRow : OpenClaim := { program := "ytiinkohfldopbaa", sum := "1041076d817048365188852c583732d4976c4abedc67b65b6e8a76b51fd5f512", func := "evermore/evermorekeep.TwoOne", spec := "twoOne", unfollowed := true, recurses := true, plainKeys := false, apart := false, narrowed := true }
def TwoOneUptoSaid : Prop := twoOneUptoRow.holds Try.pinned (OpenSpec.upto twoOneSpec)

/-- 'evermorekeep.TransRow', WHERE WHAT IT READS IS OF BULK AT MOST 1048576: true; the input reads as it did. -/
def transRowUptoRow : OpenClaim := { program := "ytiinkohfldopbaa", sum := "1041076d817048365188852c583732d4976c4abedc67b65b6e8a76b51fd5f512", func := "evermore/evermorekeep.TransRow", spec := "transRow", unfollowed := true, recurses := true, plainKeys := false, apart := false, narrowed := true }
def TransRowUptoSaid : Prop := transRowUptoRow.holds Try.pinned (OpenSpec.upto transRowSpec)

/-- 'evermorekeep.CodeMcMillan', WHERE WHAT IT READS IS OF BULK AT MOST 1048576: true; the input reads as it did. -/
def codeMcMillanUptoRow : OpenClaim := { program := "ytiinkohfldopbaa", sum := "1041076d817048365188852c583732d4976c4abedc67b65b6e8a76b51fd5f512", func := "evermore/evermorekeep.CodeMcMillan", spec := "codeMcMillan", unfollowed := true, recurses := true, plainKeys := false, apart := false, narrowed := true }
def CodeMcMillanUptoSaid : Prop := codeMcMillanUptoRow.holds Try.pinned (OpenSpec.upto codeMcMillanSpec)

/-- 'evermoretop.TopSame', WHERE WHAT IT READS IS OF BULK AT MOST 1048576: true; the input reads as it did. -/
def topSameUptoRow : OpenClaim := { program := "ytiinkohfldopbaa", sum := "1041076d817048365188852c583732d4976c4abedc67b65b6e8a76b51fd5f512", func := "evermore/evermoretop.TopSame", spec := "topSame", unfollowed := true, recurses := true, plainKeys := false, apart := false, narrowed := true }
def TopSameUptoSaid : Prop := topSameUptoRow.holds Try.pinned (OpenSpec.upto topSameSpec)

/-- 'evermorekeep.BranchTurns', WHERE WHAT IT READS IS OF BULK AT MOST 1048576: true; the input reads as it did. -/
def branchTurnsUptoRow : OpenClaim := { program := "ytiinkohfldopbaa", sum := "1041076d817048365188852c583732d4976c4abedc67b65b6e8a76b51fd5f512", func := "evermore/evermorekeep.BranchTurns", spec := "branchTurns", unfollowed := true, recurses := true, plainKeys := false, apart := false, narrowed := true }
def BranchTurnsUptoSaid : Prop := branchTurnsUptoRow.holds Try.pinned (OpenSpec.upto branchTurnsSpec)

/-- 'evermorekeep.RegularSums', WHERE WHAT IT READS IS OF BULK AT MOST 1048576: true; the input reads as it did. -/
def regularSumsUptoRow : OpenClaim := { program := "ytiinkohfldopbaa", sum := "1041076d817048365188852c583732d4976c4abedc67b65b6e8a76b51fd5f512", func := "evermore/evermorekeep.RegularSums", spec := "regularSums", inPlace := ["internal/bytealg.IndexByteString"], unfollowed := true, recurses := true, plainKeys := false, apart := false, narrowed := true }
def RegularSumsUptoSaid : Prop := regularSumsUptoRow.holds Try.pinned (OpenSpec.upto regularSumsSpec)

/-- 'evermorekeep.FixUnfolds', WHERE WHAT IT READS IS OF BULK AT MOST 1048576: true; the input reads as it did. -/
def fixUnfoldsUptoRow : OpenClaim := { program := "ytiinkohfldopbaa", sum := "1041076d817048365188852c583732d4976c4abedc67b65b6e8a76b51fd5f512", func := "evermore/evermorekeep.FixUnfolds", spec := "fixUnfolds", unfollowed := true, recurses := true, plainKeys := false, apart := false, narrowed := true }
def FixUnfoldsUptoSaid : Prop := fixUnfoldsUptoRow.holds Try.pinned (OpenSpec.upto fixUnfoldsSpec)

/-- 'evermorekeep.DetLaws', WHERE WHAT IT READS IS OF BULK AT MOST 1048576: true; the input reads as it did. -/
def detLawsUptoRow : OpenClaim := { program := "ytiinkohfldopbaa", sum := "1041076d817048365188852c583732d4976c4abedc67b65b6e8a76b51fd5f512", func := "evermore/evermorekeep.DetLaws", spec := "detLaws", inPlace := ["internal/bytealg.IndexByteString"], unfollowed := true, recurses := true, plainKeys := false, apart := false, narrowed := true }
def DetLawsUptoSaid : Prop := detLawsUptoRow.holds Try.pinned (OpenSpec.upto detLawsSpec)

/-- 'evermorekeep.GramParts', WHERE WHAT IT READS IS OF BULK AT MOST 1048576: true; the input reads as it did. -/
def gramPartsUptoRow : OpenClaim := { program := "ytiinkohfldopbaa", sum := "1041076d817048365188852c583732d4976c4abedc67b65b6e8a76b51fd5f512", func := "evermore/evermorekeep.GramParts", spec := "gramParts", unfollowed := true, recurses := true, plainKeys := false, apart := false, narrowed := true }
def GramPartsUptoSaid : Prop := gramPartsUptoRow.holds Try.pinned (OpenSpec.upto gramPartsSpec)

end Rows
end Go.Proofs.Ytiinkohfldopbaa
