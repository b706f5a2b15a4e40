/-
  No cell of these rows narrows 'for every input' (looked for: loops, veiled, ifaces, maps, wideKeys, modest, calm, conditions, laid).
  DERIVED. THE GIVEN ROWS OF THIS SEAT. 6 by the template 'for every input the law returns true; each argument reads behind the call as it read before'; 0 by the template 'total and deterministic' (their statements: YtiejmeedkhkfgaaTotals.lean).
  GIVEN WITH THE SEED: the statements are not yours to turn. If you find one false, say at which input.
  Laid BY PROGRAM, IN A SANDBOX (cutbox-rows.mjs): the forced cells as the released guide's own fill.sh prints them over the translation add146ebc619ee53… (all of the seat's roots in one cut). By AI agents, Wed Nov 11 2026. No macro, syntax, notation, axiom, sorry.
-/
import Derived.Test.YtiejmeedkhkfgaaChecked
import GoSem.Claim
import GoSem.ClaimJoined
import GoSem.ClaimMapViews
import Derived.JoinedTies
import Derived.KernelRfl
namespace Go.Proofs.Ytiejmeedkhkfgaa
/- THE CELL 'sum', in the pinned program and in every row, IS THE sha256 OF THE DUMP (.gsa) THAT YtiejmeedkhkfgaaProg.lean LOADS. Nothing in Lean hashes anything: it is a label: what it is worth is what the hold of that sum in a sandbox is worth. -/
noncomputable def Try.pinned : Pinned := { name := "ytiejmeedkhkfgaa", sum := "add146ebc619ee532b267af468f4ad3d8417d89775aa09652d9d8e3163fa3ef0", checked := Try.checked }
namespace Rows
def none {H : Type} : Left H := { results := [], args := [] }

/-- 'evermorekeep.BranchTurns': WHATEVER THE INPUT: true; the input reads as it did. -/
def branchTurnsSpec : ChangeSpec := { name := "branchTurns", fn := fun _ => fun
  | [d1, d2, d3] => { results := [.lit (.bool true)], args := [d1, d2, d3] }
  | _ => none }
def branchTurnsRow : OpenClaim := { program := "ytiejmeedkhkfgaa", sum := "add146ebc619ee532b267af468f4ad3d8417d89775aa09652d9d8e3163fa3ef0", func := "evermore/evermorekeep.BranchTurns", spec := "branchTurns", unfollowed := true, recurses := true, plainKeys := false, apart := false }
def BranchTurnsSaid : Prop := branchTurnsRow.holds Try.pinned (OpenSpec.ofChange branchTurnsSpec)

/-- ITS FALSE NEIGHBOUR: 'it returns false'. Refute it at one input. -/
def branchTurnsWrong : ChangeSpec := { name := "branchTurns", fn := fun _ => fun
  | [d1, d2, d3] => { results := [.lit (.bool false)], args := [d1, d2, d3] }
  | _ => none }
def BranchTurnsWrongFalsely : Prop := branchTurnsRow.holds Try.pinned (OpenSpec.ofChange branchTurnsWrong)

/-- 'evermorekeep.StackGoes': WHATEVER THE INPUT: true; the input reads as it did. -/
def stackGoesSpec : ChangeSpec := { name := "stackGoes", fn := fun _ => fun
  | [d1, d2, d3, d4] => { results := [.lit (.bool true)], args := [d1, d2, d3, d4] }
  | _ => none }
def stackGoesRow : OpenClaim := { program := "ytiejmeedkhkfgaa", sum := "add146ebc619ee532b267af468f4ad3d8417d89775aa09652d9d8e3163fa3ef0", func := "evermore/evermorekeep.StackGoes", spec := "stackGoes", unfollowed := true, recurses := true, plainKeys := false, apart := false }
def StackGoesSaid : Prop := stackGoesRow.holds Try.pinned (OpenSpec.ofChange stackGoesSpec)

/-- ITS FALSE NEIGHBOUR: 'it returns false'. Refute it at one input. -/
def stackGoesWrong : ChangeSpec := { name := "stackGoes", fn := fun _ => fun
  | [d1, d2, d3, d4] => { results := [.lit (.bool false)], args := [d1, d2, d3, d4] }
  | _ => none }
def StackGoesWrongFalsely : Prop := stackGoesRow.holds Try.pinned (OpenSpec.ofChange stackGoesWrong)

/-- 'evermoretop.TopSame': WHATEVER THE INPUT: true; the input reads as it did. -/
def topSameSpec : ChangeSpec := { name := "topSame", fn := fun _ => fun
  | [d1, d2] => { results := [.lit (.bool true)], args := [d1, d2] }
  | _ => none }
def topSameRow : OpenClaim := { program := "ytiejmeedkhkfgaa", sum := "add146ebc619ee532b267af468f4ad3d8417d89775aa09652d9d8e3163fa3ef0", func := "evermore/evermoretop.TopSame", spec := "topSame", unfollowed := true, recurses := true, plainKeys := false, apart := false }
def TopSameSaid : Prop := topSameRow.holds Try.pinned (OpenSpec.ofChange topSameSpec)

/-- ITS FALSE NEIGHBOUR: 'it returns false'. Refute it at one input. -/
def topSameWrong : ChangeSpec := { name := "topSame", fn := fun _ => fun
  | [d1, d2] => { results := [.lit (.bool false)], args := [d1, d2] }
  | _ => none }
def TopSameWrongFalsely : Prop := topSameRow.holds Try.pinned (OpenSpec.ofChange topSameWrong)

/-- 'evermorekeep.FixUnfolds': WHATEVER THE INPUT: true; the input reads as it did. -/
def fixUnfoldsSpec : ChangeSpec := { name := "fixUnfolds", fn := fun _ => fun
  | [d1, d2] => { results := [.lit (.bool true)], args := [d1, d2] }
  | _ => none }
def fixUnfoldsRow : OpenClaim := { program := "ytiejmeedkhkfgaa", sum := "add146ebc619ee532b267af468f4ad3d8417d89775aa09652d9d8e3163fa3ef0", func := "evermore/evermorekeep.FixUnfolds", spec := "fixUnfolds", unfollowed := true, recurses := true, plainKeys := false, apart := false }
def FixUnfoldsSaid : Prop := fixUnfoldsRow.holds Try.pinned (OpenSpec.ofChange fixUnfoldsSpec)

/-- ITS FALSE NEIGHBOUR: 'it returns false'. Refute it at one input. -/
def fixUnfoldsWrong : ChangeSpec := { name := "fixUnfolds", fn := fun _ => fun
  | [d1, d2] => { results := [.lit (.bool false)], args := [d1, d2] }
  | _ => none }
def FixUnfoldsWrongFalsely : Prop := fixUnfoldsRow.holds Try.pinned (OpenSpec.ofChange fixUnfoldsWrong)

/-- 'evermoretop.TopBranch': WHATEVER THE INPUT: true; the input reads as it did. -/
def topBranchSpec : ChangeSpec := { name := "topBranch", fn := fun _ => fun
  | [d] => { results := [.lit (.bool true)], args := [d] }
  | _ => none }
def topBranchRow : OpenClaim := { program := "ytiejmeedkhkfgaa", sum := "add146ebc619ee532b267af468f4ad3d8417d89775aa09652d9d8e3163fa3ef0", func := "evermore/evermoretop.TopBranch", spec := "topBranch", unfollowed := true, recurses := true, plainKeys := false, apart := false }
def TopBranchSaid : Prop := topBranchRow.holds Try.pinned (OpenSpec.ofChange topBranchSpec)

/-- ITS FALSE NEIGHBOUR: 'it returns false'. Refute it at one input. -/
def topBranchWrong : ChangeSpec := { name := "topBranch", fn := fun _ => fun
  | [d] => { results := [.lit (.bool false)], args := [d] }
  | _ => none }
def TopBranchWrongFalsely : Prop := topBranchRow.holds Try.pinned (OpenSpec.ofChange topBranchWrong)

/-- 'evermorekeep.LearnBlind': WHATEVER THE INPUT: true; the input reads as it did. -/
def learnBlindSpec : ChangeSpec := { name := "learnBlind", fn := fun _ => fun
  | [d1, d2] => { results := [.lit (.bool true)], args := [d1, d2] }
  | _ => none }
def learnBlindRow : OpenClaim := { program := "ytiejmeedkhkfgaa", sum := "add146ebc619ee532b267af468f4ad3d8417d89775aa09652d9d8e3163fa3ef0", func := "evermore/evermorekeep.LearnBlind", spec := "learnBlind", inPlace := ["internal/bytealg.IndexByteString", "internal/abi.NoEscape"], unfollowed := true, recurses := true, plainKeys := false, apart := false }
def LearnBlindSaid : Prop := learnBlindRow.holds Try.pinned (OpenSpec.ofChange learnBlindSpec)

/-- ITS FALSE NEIGHBOUR: 'it returns false'. Refute it at one input. -/
def learnBlindWrong : ChangeSpec := { name := "learnBlind", fn := fun _ => fun
  | [d1, d2] => { results := [.lit (.bool false)], args := [d1, d2] }
  | _ => none }
def LearnBlindWrongFalsely : Prop := learnBlindRow.holds Try.pinned (OpenSpec.ofChange learnBlindWrong)

/- THE SECOND FORM. 'bulk': how many values and letters a reading holds, each counted each time it is reached (what is shared counts as often as it is met; a slice's spare places count too). A statement '..UptoSaid' is the law's where the arguments, and the package variables that the reading takes, are together of bulk at most 1048576: NARROWER than '..Said'. Prove '..Said' where nothing that the law and all that it calls make is longer than what came in: it says more and counts as full. Else prove '..UptoSaid'. A law counts once. -/
mutual
def uptoBulk {H : Type} : DataW H → Nat
  | .lit (.string bytes) => bytes.length + 1
  | .lit _ => 1
  | .nil => 1
  | .ptr d => uptoBulk d + 1
  | .slice elems spare => uptoBulkAll elems + uptoBulkAll spare + 1
  | .agg parts => uptoBulkAll parts + 1
  | .iface _ d => uptoBulk d + 1
  | .map entries => uptoBulkEntries entries + 1
  | .held _ => 1
def uptoBulkAll {H : Type} : List (DataW H) → Nat
  | [] => 0
  | d :: r => uptoBulk d + uptoBulkAll r
def uptoBulkEntries {H : Type} : List (Lit × DataW H) → Nat
  | [] => 0
  | x :: r => uptoBulkEntry x + uptoBulkEntries r
def uptoBulkEntry {H : Type} : Lit × DataW H → Nat
  | (.string bytes, d) => bytes.length + uptoBulk d + 1
  | (_, d) => uptoBulk d + 1
 end
def uptoSmall : (H : Type) → List (DataW H) → Bool := fun _ ds => decide (uptoBulkAll ds ≤ 1048576)
def OpenSpec.upto (s : _root_.Go.ChangeSpec) : _root_.Go.OpenSpec := { _root_.Go.OpenSpec.ofChange s with cond := some uptoSmall }

/-- 'evermorekeep.BranchTurns', WHERE WHAT IT READS IS OF BULK AT MOST 1048576: true; the input reads as it did. -/
def branchTurnsUptoRow : OpenClaim := { program := "ytiejmeedkhkfgaa", sum := "add146ebc619ee532b267af468f4ad3d8417d89775aa09652d9d8e3163fa3ef0", func := "evermore/evermorekeep.BranchTurns", spec := "branchTurns", unfollowed := true, recurses := true, plainKeys := false, apart := false, narrowed := true }
def BranchTurnsUptoSaid : Prop := branchTurnsUptoRow.holds Try.pinned (OpenSpec.upto branchTurnsSpec)

/-- 'evermorekeep.StackGoes', WHERE WHAT IT READS IS OF BULK AT MOST 1048576: true; the input reads as it did. -/
def stackGoesUptoRow : OpenClaim := { program := "ytiejmeedkhkfgaa", sum := "add146ebc619ee532b267af468f4ad3d8417d89775aa09652d9d8e3163fa3ef0", func := "evermore/evermorekeep.StackGoes", spec := "stackGoes", unfollowed := true, recurses := true, plainKeys := false, apart := false, narrowed := true }
def StackGoesUptoSaid : Prop := stackGoesUptoRow.holds Try.pinned (OpenSpec.upto stackGoesSpec)

/-- 'evermoretop.TopSame', WHERE WHAT IT READS IS OF BULK AT MOST 1048576: true; the input reads as it did. -/
def topSameUptoRow : OpenClaim := { program := "ytiejmeedkhkfgaa", sum := "add146ebc619ee532b267af468f4ad3d8417d89775aa09652d9d8e3163fa3ef0", func := "evermore/evermoretop.TopSame", spec := "topSame", unfollowed := true, recurses := true, plainKeys := false, apart := false, narrowed := true }
def TopSameUptoSaid : Prop := topSameUptoRow.holds Try.pinned (OpenSpec.upto topSameSpec)

/-- 'evermorekeep.FixUnfolds', WHERE WHAT IT READS IS OF BULK AT MOST 1048576: true; the input reads as it did. -/
def fixUnfoldsUptoRow : OpenClaim := { program := "ytiejmeedkhkfgaa", sum := "add146ebc619ee532b267af468f4ad3d8417d89775aa09652d9d8e3163fa3ef0", func := "evermore/evermorekeep.FixUnfolds", spec := "fixUnfolds", unfollowed := true, recurses := true, plainKeys := false, apart := false, narrowed := true }
def FixUnfoldsUptoSaid : Prop := fixUnfoldsUptoRow.holds Try.pinned (OpenSpec.upto fixUnfoldsSpec)

/-- 'evermoretop.TopBranch', WHERE WHAT IT READS IS OF BULK AT MOST 1048576: true; the input reads as it did. -/
def topBranchUptoRow : OpenClaim := { program := "ytiejmeedkhkfgaa", sum := "add146ebc619ee532b267af468f4ad3d8417d89775aa09652d9d8e3163fa3ef0", func := "evermore/evermoretop.TopBranch", spec := "topBranch", unfollowed := true, recurses := true, plainKeys := false, apart := false, narrowed := true }
def TopBranchUptoSaid : Prop := topBranchUptoRow.holds Try.pinned (OpenSpec.upto topBranchSpec)

/-- 'evermorekeep.LearnBlind', WHERE WHAT IT READS IS OF BULK AT MOST 1048576: true; the input reads as it did. -/
def learnBlindUptoRow : OpenClaim := { program := "ytiejmeedkhkfgaa", sum := "add146ebc619ee532b267af468f4ad3d8417d89775aa09652d9d8e3163fa3ef0", func := "evermore/evermorekeep.LearnBlind", spec := "learnBlind", inPlace := ["internal/bytealg.IndexByteString", "internal/abi.NoEscape"], unfollowed := true, recurses := true, plainKeys := false, apart := false, narrowed := true }
def LearnBlindUptoSaid : Prop := learnBlindUptoRow.holds Try.pinned (OpenSpec.upto learnBlindSpec)

end Rows
end Go.Proofs.Ytiejmeedkhkfgaa
