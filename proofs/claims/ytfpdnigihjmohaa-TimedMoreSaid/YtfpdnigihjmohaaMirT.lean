/- What is to be known of types; structs as plain data. No condition. -/
import Derived.Test.YtfpdnigihjmohaaMirX
namespace Go.Proofs.Ytfpdnigihjmohaa
open Go.RowKit Go.MapKept
set_option linter.unusedSimpArgs false
set_option linter.unusedVariables false
set_option maxRecDepth 100000

structure ApiEdge where
  fFrom : Int
  fTo : Int
  fLow : Int
  fHigh : Int
  fOpen : Int
  fReset : Int
deriving DecidableEq, Inhabited
abbrev ApiEdge.sv (x : ApiEdge) : SV := .agg [I x.fFrom, I x.fTo, I x.fLow, I x.fHigh, I x.fOpen, I x.fReset]
abbrev ApiEdge.ty : Ty ApiEdge := ⟨6, ApiEdge.sv⟩
structure ApiTimed where
  fStay : (List Int)
  fEdges : (List ApiEdge)
  fGoal : Int
deriving DecidableEq, Inhabited
abbrev ApiTimed.sv (x : ApiTimed) : SV := .agg [LS intT x.fStay, LS ApiEdge.ty x.fEdges, I x.fGoal]
abbrev ApiTimed.ty : Ty ApiTimed := ⟨3, ApiTimed.sv⟩
structure ApiLeg where
  fWait : Int
  fEdge : Int
deriving DecidableEq, Inhabited
abbrev ApiLeg.sv (x : ApiLeg) : SV := .agg [I x.fWait, I x.fEdge]
abbrev ApiLeg.ty : Ty ApiLeg := ⟨2, ApiLeg.sv⟩
structure ApiLasso where
  fHead : (List Int)
  fLoop : (List Int)
deriving DecidableEq, Inhabited
abbrev ApiLasso.sv (x : ApiLasso) : SV := .agg [LS intT x.fHead, LS intT x.fLoop]
abbrev ApiLasso.ty : Ty ApiLasso := ⟨2, ApiLasso.sv⟩
structure ApiMuller where
  fLetters : Int
  fStart : Int
  fNext : (List (List Int))
  fGood : (List Int)
deriving DecidableEq, Inhabited
abbrev ApiMuller.sv (x : ApiMuller) : SV := .agg [I x.fLetters, I x.fStart, LS (lsT intT) x.fNext, LS intT x.fGood]
abbrev ApiMuller.ty : Ty ApiMuller := ⟨4, ApiMuller.sv⟩
structure ApiPush where
  fFrom : Int
  fTop : Int
  fTo : Int
  fPut : (List Int)
deriving DecidableEq, Inhabited
abbrev ApiPush.sv (x : ApiPush) : SV := .agg [I x.fFrom, I x.fTop, I x.fTo, LS intT x.fPut]
abbrev ApiPush.ty : Ty ApiPush := ⟨4, ApiPush.sv⟩
structure ApiConfig where
  fControl : Int
  fStack : (List Int)
deriving DecidableEq, Inhabited
abbrev ApiConfig.sv (x : ApiConfig) : SV := .agg [I x.fControl, LS intT x.fStack]
abbrev ApiConfig.ty : Ty ApiConfig := ⟨2, ApiConfig.sv⟩
structure ApiMorph where
  fBase : Int
  fImages : (List (List Int))
  fCoding : (List Int)
deriving DecidableEq, Inhabited
abbrev ApiMorph.sv (x : ApiMorph) : SV := .agg [I x.fBase, LS (lsT intT) x.fImages, LS intT x.fCoding]
abbrev ApiMorph.ty : Ty ApiMorph := ⟨3, ApiMorph.sv⟩
structure ApiAlter where
  fLetters : Int
  fStart : Int
  fNext : (List (List (List (List Int))))
  fMark : (List Int)
deriving DecidableEq, Inhabited
abbrev ApiAlter.sv (x : ApiAlter) : SV := .agg [I x.fLetters, I x.fStart, LS (lsT (lsT (lsT intT))) x.fNext, LS intT x.fMark]
abbrev ApiAlter.ty : Ty ApiAlter := ⟨4, ApiAlter.sv⟩
structure ApiDet where
  fLetters : Int
  fStart : Int
  fNext : (List (List Int))
  fMark : (List Int)
deriving DecidableEq, Inhabited
abbrev ApiDet.sv (x : ApiDet) : SV := .agg [I x.fLetters, I x.fStart, LS (lsT intT) x.fNext, LS intT x.fMark]
abbrev ApiDet.ty : Ty ApiDet := ⟨4, ApiDet.sv⟩
structure ApiHeaps where
  fPlaces : Int
  fTakes : (List (List Int))
  fGives : (List (List Int))
deriving DecidableEq, Inhabited
abbrev ApiHeaps.sv (x : ApiHeaps) : SV := .agg [I x.fPlaces, LS (lsT intT) x.fTakes, LS (lsT intT) x.fGives]
abbrev ApiHeaps.ty : Ty ApiHeaps := ⟨3, ApiHeaps.sv⟩
structure ApiPump where
  fBounded : Bool
  fFirst : (List Int)
  fAgain : (List Int)
deriving DecidableEq, Inhabited
abbrev ApiPump.sv (x : ApiPump) : SV := .agg [B x.fBounded, LS intT x.fFirst, LS intT x.fAgain]
abbrev ApiPump.ty : Ty ApiPump := ⟨3, ApiPump.sv⟩
structure ApiCover where
  fCan : Bool
  fSteps : (List Int)
  fBars : (List (List Int))
deriving DecidableEq, Inhabited
abbrev ApiCover.sv (x : ApiCover) : SV := .agg [B x.fCan, LS intT x.fSteps, LS (lsT intT) x.fBars]
abbrev ApiCover.ty : Ty ApiCover := ⟨3, ApiCover.sv⟩
structure ApiSwap where
  fFrom : (List Int)
  fTo : (List Int)
deriving DecidableEq, Inhabited
abbrev ApiSwap.sv (x : ApiSwap) : SV := .agg [LS intT x.fFrom, LS intT x.fTo]
abbrev ApiSwap.ty : Ty ApiSwap := ⟨2, ApiSwap.sv⟩
structure ApiArrow where
  fFrom : Int
  fLetter : Int
  fTo : Int
deriving DecidableEq, Inhabited
abbrev ApiArrow.sv (x : ApiArrow) : SV := .agg [I x.fFrom, I x.fLetter, I x.fTo]
abbrev ApiArrow.ty : Ty ApiArrow := ⟨3, ApiArrow.sv⟩
structure ApiGraph where
  fLetters : Int
  fPlaces : Int
  fArrows : (List ApiArrow)
deriving DecidableEq, Inhabited
abbrev ApiGraph.sv (x : ApiGraph) : SV := .agg [I x.fLetters, I x.fPlaces, LS ApiArrow.ty x.fArrows]
abbrev ApiGraph.ty : Ty ApiGraph := ⟨3, ApiGraph.sv⟩
structure ApiFault where
  fCode : Int
  fAt : Int
deriving DecidableEq, Inhabited
abbrev ApiFault.sv (x : ApiFault) : SV := .agg [I x.fCode, I x.fAt]
abbrev ApiFault.ty : Ty ApiFault := ⟨2, ApiFault.sv⟩
structure TimedWay where
  fTime : Int
  fLegs : (List ApiLeg)
  fDone : Bool
deriving DecidableEq, Inhabited
abbrev TimedWay.sv (x : TimedWay) : SV := .agg [I x.fTime, LS ApiLeg.ty x.fLegs, B x.fDone]
abbrev TimedWay.ty : Ty TimedWay := ⟨3, TimedWay.sv⟩
structure EhrenTable where
  fU : (List Int)
  fV : (List Int)
  fA : (List Int)
  fB : (List Int)
deriving DecidableEq, Inhabited
abbrev EhrenTable.sv (x : EhrenTable) : SV := .agg [LS intT x.fU, LS intT x.fV, LS intT x.fA, LS intT x.fB]
abbrev EhrenTable.ty : Ty EhrenTable := ⟨4, EhrenTable.sv⟩
structure StackEdge where
  fFrom : Int
  fSign : Int
  fTo : Int
deriving DecidableEq, Inhabited
abbrev StackEdge.sv (x : StackEdge) : SV := .agg [I x.fFrom, I x.fSign, I x.fTo]
abbrev StackEdge.ty : Ty StackEdge := ⟨3, StackEdge.sv⟩
structure StackWay where
  fTo : Int
  fCost : Int
  fOver : (List StackEdge)
deriving DecidableEq, Inhabited
abbrev StackWay.sv (x : StackWay) : SV := .agg [I x.fTo, I x.fCost, LS StackEdge.ty x.fOver]
abbrev StackWay.ty : Ty StackWay := ⟨3, StackWay.sv⟩
structure SeqsPlace where
  fA : Int
  fB : Int
  fN : Int
deriving DecidableEq, Inhabited
abbrev SeqsPlace.sv (x : SeqsPlace) : SV := .agg [I x.fA, I x.fB, I x.fN]
abbrev SeqsPlace.ty : Ty SeqsPlace := ⟨3, SeqsPlace.sv⟩
structure CoverBar where
  fState : (List Int)
  fStep : Int
  fThen : Int
deriving DecidableEq, Inhabited
abbrev CoverBar.sv (x : CoverBar) : SV := .agg [LS intT x.fState, I x.fStep, I x.fThen]
abbrev CoverBar.ty : Ty CoverBar := ⟨3, CoverBar.sv⟩
structure TimeNode where
  fKind : Int
  fA : Int
  fB : Int
deriving DecidableEq, Inhabited
abbrev TimeNode.sv (x : TimeNode) : SV := .agg [I x.fKind, I x.fA, I x.fB]
abbrev TimeNode.ty : Ty TimeNode := ⟨3, TimeNode.sv⟩
structure TimedSpot where
  fPlace : Int
  fClock : Int
deriving DecidableEq, Inhabited
abbrev TimedSpot.sv (x : TimedSpot) : SV := .agg [I x.fPlace, I x.fClock]
abbrev TimedSpot.ty : Ty TimedSpot := ⟨2, TimedSpot.sv⟩
structure StackKnown where
  fRule : Int
  fCost : Int
  fOver : (List StackEdge)
deriving DecidableEq, Inhabited
abbrev StackKnown.sv (x : StackKnown) : SV := .agg [I x.fRule, I x.fCost, LS StackEdge.ty x.fOver]
abbrev StackKnown.ty : Ty StackKnown := ⟨3, StackKnown.sv⟩
structure TimeStop where
  fFault : ApiFault
deriving DecidableEq, Inhabited
abbrev TimeStop.sv (x : TimeStop) : SV := .agg [I x.fFault.fCode, I x.fFault.fAt]
abbrev TimeStop.ty : Ty TimeStop := ⟨2, TimeStop.sv⟩
structure TimeReader where
  fText : ByteArray
  fI : Int
  fNodes : Int
  fTimes : Int
  fNest : Int
  fL : (List TimeNode)
deriving DecidableEq, Inhabited
abbrev TimeReader.sv (x : TimeReader) : SV := .agg [.v (.string x.fText), I x.fI, I x.fNodes, I x.fTimes, I x.fNest, LS TimeNode.ty x.fL]
abbrev TimeReader.ty : Ty TimeReader := ⟨6, TimeReader.sv⟩
structure DetSplit where
  fOwn : Int
  fNext : ByteArray
deriving DecidableEq, Inhabited
abbrev DetSplit.sv (x : DetSplit) : SV := .agg [I x.fOwn, .v (.string x.fNext)]
abbrev DetSplit.ty : Ty DetSplit := ⟨2, DetSplit.sv⟩
def tabs : List (Nat × TI) := [
  (3, ⟨false, false, 1, [.int .i64 0], [], some .i64, none, 8⟩),
  (4, ⟨false, false, 1, [.bool false], [], none, none, 1⟩),
  (5, ⟨false, false, 1, [.int .u8 0], [], some .u8, none, 1⟩),
  (22, ⟨false, false, 1, [.slice none 0 0], [], none, some 3, 24⟩),
  (23, ⟨false, false, 1, [.slice none 0 0], [], none, some 27, 24⟩),
  (25, ⟨true, true, 3, [.slice none 0 0, .slice none 0 0, .int .i64 0], [(0, 1, false), (1, 1, false), (2, 1, false)], none, none, 56⟩),
  (27, ⟨true, true, 6, [.int .i64 0, .int .i64 0, .int .i64 0, .int .i64 0, .int .i64 0, .int .i64 0], [(0, 1, false), (1, 1, false), (2, 1, false), (3, 1, false), (4, 1, false), (5, 1, false)], none, none, 48⟩),
  (28, ⟨false, false, 1, [.slice none 0 0], [], none, some 253, 24⟩),
  (29, ⟨false, false, 1, [.int .i64 0], [], some .i64, none, 8⟩),
  (34, ⟨true, true, 2, [.slice none 0 0, .slice none 0 0], [(0, 1, false), (1, 1, false)], none, none, 48⟩),
  (42, ⟨false, false, 1, [.slice none 0 0], [], none, some 22, 24⟩),
  (44, ⟨true, true, 4, [.int .i64 0, .int .i64 0, .slice none 0 0, .slice none 0 0], [(0, 1, false), (1, 1, false), (2, 1, false), (3, 1, false)], none, none, 64⟩),
  (56, ⟨false, false, 1, [.slice none 0 0], [], none, some 60, 24⟩),
  (58, ⟨true, true, 2, [.int .i64 0, .slice none 0 0], [(0, 1, false), (1, 1, false)], none, none, 32⟩),
  (60, ⟨true, true, 4, [.int .i64 0, .int .i64 0, .int .i64 0, .slice none 0 0], [(0, 1, false), (1, 1, false), (2, 1, false), (3, 1, false)], none, none, 48⟩),
  (67, ⟨true, true, 3, [.int .i64 0, .slice none 0 0, .slice none 0 0], [(0, 1, false), (1, 1, false), (2, 1, false)], none, none, 56⟩),
  (75, ⟨false, false, 1, [.slice none 0 0], [], none, some 78, 24⟩),
  (77, ⟨true, true, 4, [.int .i64 0, .int .i64 0, .slice none 0 0, .slice none 0 0], [(0, 1, false), (1, 1, false), (2, 1, false), (3, 1, false)], none, none, 64⟩),
  (78, ⟨false, false, 1, [.slice none 0 0], [], none, some 42, 24⟩),
  (80, ⟨true, true, 4, [.int .i64 0, .int .i64 0, .slice none 0 0, .slice none 0 0], [(0, 1, false), (1, 1, false), (2, 1, false), (3, 1, false)], none, none, 64⟩),
  (88, ⟨true, true, 3, [.int .i64 0, .slice none 0 0, .slice none 0 0], [(0, 1, false), (1, 1, false), (2, 1, false)], none, none, 56⟩),
  (90, ⟨true, true, 3, [.bool false, .slice none 0 0, .slice none 0 0], [(0, 1, false), (1, 1, false), (2, 1, false)], none, none, 56⟩),
  (94, ⟨true, true, 3, [.bool false, .slice none 0 0, .slice none 0 0], [(0, 1, false), (1, 1, false), (2, 1, false)], none, none, 56⟩),
  (98, ⟨false, false, 1, [.slice none 0 0], [], none, some 101, 24⟩),
  (101, ⟨true, true, 2, [.slice none 0 0, .slice none 0 0], [(0, 1, false), (1, 1, false)], none, none, 48⟩),
  (105, ⟨false, false, 1, [.slice none 0 0], [], none, some 110, 24⟩),
  (107, ⟨true, true, 3, [.int .i64 0, .int .i64 0, .slice none 0 0], [(0, 1, false), (1, 1, false), (2, 1, false)], none, none, 40⟩),
  (110, ⟨true, true, 3, [.int .i64 0, .int .i64 0, .int .i64 0], [(0, 1, false), (1, 1, false), (2, 1, false)], none, none, 24⟩),
  (111, ⟨false, false, 1, [.slice none 0 0], [], none, some 114, 24⟩),
  (114, ⟨false, false, 1, [.slice none 0 0], [], none, some 4, 24⟩),
  (118, ⟨true, true, 2, [.int .i64 0, .int .i64 0], [(0, 1, false), (1, 1, false)], none, none, 16⟩),
  (123, ⟨true, true, 3, [.int .i64 0, .slice none 0 0, .bool false], [(0, 1, false), (1, 1, false), (2, 1, false)], none, none, 40⟩),
  (134, ⟨true, true, 4, [.slice none 0 0, .slice none 0 0, .slice none 0 0, .slice none 0 0], [(0, 1, false), (1, 1, false), (2, 1, false), (3, 1, false)], none, none, 96⟩),
  (135, ⟨false, false, 1, [.nilFunc], [], none, none, 8⟩),
  (142, ⟨false, false, 1, [.slice none 0 0], [], none, some 146, 24⟩),
  (144, ⟨false, false, 1, [.slice none 0 0], [], none, some 149, 24⟩),
  (146, ⟨true, true, 3, [.int .i64 0, .int .i64 0, .slice none 0 0], [(0, 1, false), (1, 1, false), (2, 1, false)], none, none, 40⟩),
  (149, ⟨true, true, 3, [.int .i64 0, .int .i64 0, .int .i64 0], [(0, 1, false), (1, 1, false), (2, 1, false)], none, none, 24⟩),
  (153, ⟨false, false, 1, [.map none], [], none, none, 8⟩),
  (157, ⟨false, false, 1, [.slice none 0 0], [], none, some 67, 24⟩),
  (158, ⟨true, false, 2, [.int .i64 0, .int .i64 0], [(0, 1, false), (1, 1, false)], none, none, 16⟩),
  (159, ⟨false, false, 1, [.map none], [], none, none, 8⟩),
  (161, ⟨true, true, 3, [.int .i64 0, .int .i64 0, .int .i64 0], [(0, 1, false), (1, 1, false), (2, 1, false)], none, none, 24⟩),
  (162, ⟨false, false, 1, [.slice none 0 0], [], none, some 161, 24⟩),
  (177, ⟨true, true, 9, [.int .i64 0, .slice none 0 0, .slice none 0 0, .map none, .slice none 0 0, .slice none 0 0, .bool false, .slice none 0 0, .slice none 0 0], [(0, 3, true), (3, 1, false), (4, 1, false), (5, 1, false), (6, 3, true)], none, none, 168⟩),
  (179, ⟨true, true, 3, [.slice none 0 0, .int .i64 0, .int .i64 0], [(0, 1, false), (1, 1, false), (2, 1, false)], none, none, 40⟩),
  (180, ⟨false, false, 1, [.slice none 0 0], [], none, some 179, 24⟩),
  (191, ⟨false, false, 1, [.nilFunc], [], none, none, 8⟩),
  (192, ⟨false, false, 1, [.slice none 0 0], [], none, some 196, 24⟩),
  (196, ⟨true, true, 3, [.int .i64 0, .int .i64 0, .int .i64 0], [(0, 1, false), (1, 1, false), (2, 1, false)], none, none, 24⟩),
  (198, ⟨false, false, 1, [.nilFunc], [], none, none, 8⟩),
  (201, ⟨false, false, 1, [.map none], [], none, none, 8⟩),
  (204, ⟨true, true, 2, [.int .i64 0, .int .i64 0], [(0, 1, false), (1, 1, false)], none, none, 16⟩),
  (205, ⟨true, false, 2, [.slice none 0 0, .slice none 0 0], [(0, 1, false), (1, 1, false)], none, none, 48⟩),
  (209, ⟨false, false, 1, [.slice none 0 0], [], none, some 134, 24⟩),
  (213, ⟨false, false, 1, [.slice none 0 0], [], none, some 58, 24⟩),
  (214, ⟨false, false, 1, [.map none], [], none, none, 8⟩),
  (216, ⟨true, true, 3, [.int .i64 0, .slice none 0 0, .map none], [(0, 2, true), (2, 1, false)], none, none, 40⟩),
  (218, ⟨true, true, 3, [.int .i64 0, .int .i64 0, .slice none 0 0], [(0, 1, false), (1, 1, false), (2, 1, false)], none, none, 40⟩),
  (220, ⟨false, false, 1, [.map none], [], none, none, 8⟩),
  (225, ⟨false, false, 1, [.slice none 0 0], [], none, some 5, 24⟩),
  (226, ⟨false, false, 1, [.int .u64 0], [], some .u64, none, 8⟩),
  (229, ⟨false, false, 1, [.map none], [], none, none, 8⟩),
  (244, ⟨true, true, 2, [.int .i64 0, .int .i64 0], [(0, 2, true)], none, none, 16⟩),
  (247, ⟨true, true, 6, [.string ByteArray.empty, .int .i64 0, .int .i64 0, .int .i64 0, .int .i64 0, .slice none 0 0], [(0, 1, false), (1, 1, false), (2, 1, false), (3, 1, false), (4, 1, false), (5, 1, false)], none, none, 72⟩),
  (253, ⟨true, true, 2, [.int .i64 0, .int .i64 0], [(0, 1, false), (1, 1, false)], none, none, 16⟩),
  (258, ⟨false, false, 1, [.map none], [], none, none, 8⟩),
  (260, ⟨true, true, 2, [.int .i64 0, .string ByteArray.empty], [(0, 1, false), (1, 1, false)], none, none, 24⟩),
  (264, ⟨false, false, 1, [.int .u32 0], [], some .u32, none, 4⟩),
  (267, ⟨false, false, 1, [.int .u64 0], [], some .u64, none, 8⟩)]
def tab : Tab := tabL tabs
theorem ti3 : TI.ok 3 ⟨false, false, 1, [.int .i64 0], [], some .i64, none, 8⟩ := ⟨by kernel_rfl, by kernel_rfl, by kernel_rfl, by kernel_rfl, by kernel_rfl, by kernel_rfl, by rfl, by rfl, by decide⟩
theorem ti4 : TI.ok 4 ⟨false, false, 1, [.bool false], [], none, none, 1⟩ := ⟨by kernel_rfl, by kernel_rfl, by kernel_rfl, by kernel_rfl, by kernel_rfl, by kernel_rfl, by rfl, by rfl, by decide⟩
theorem ti5 : TI.ok 5 ⟨false, false, 1, [.int .u8 0], [], some .u8, none, 1⟩ := ⟨by kernel_rfl, by kernel_rfl, by kernel_rfl, by kernel_rfl, by kernel_rfl, by kernel_rfl, by rfl, by rfl, by decide⟩
theorem ti22 : TI.ok 22 ⟨false, false, 1, [.slice none 0 0], [], none, some 3, 24⟩ := ⟨by kernel_rfl, by kernel_rfl, by kernel_rfl, by kernel_rfl, by kernel_rfl, by kernel_rfl, by rfl, by rfl, by decide⟩
theorem ti23 : TI.ok 23 ⟨false, false, 1, [.slice none 0 0], [], none, some 27, 24⟩ := ⟨by kernel_rfl, by kernel_rfl, by kernel_rfl, by kernel_rfl, by kernel_rfl, by kernel_rfl, by rfl, by rfl, by decide⟩
theorem ti25 : TI.ok 25 ⟨true, true, 3, [.slice none 0 0, .slice none 0 0, .int .i64 0], [(0, 1, false), (1, 1, false), (2, 1, false)], none, none, 56⟩ := ⟨by kernel_rfl, by kernel_rfl, by kernel_rfl, by kernel_rfl, by kernel_rfl, by kernel_rfl, by rfl, by rfl, by decide⟩
theorem ti27 : TI.ok 27 ⟨true, true, 6, [.int .i64 0, .int .i64 0, .int .i64 0, .int .i64 0, .int .i64 0, .int .i64 0], [(0, 1, false), (1, 1, false), (2, 1, false), (3, 1, false), (4, 1, false), (5, 1, false)], none, none, 48⟩ := ⟨by kernel_rfl, by kernel_rfl, by kernel_rfl, by kernel_rfl, by kernel_rfl, by kernel_rfl, by rfl, by rfl, by decide⟩
theorem ti28 : TI.ok 28 ⟨false, false, 1, [.slice none 0 0], [], none, some 253, 24⟩ := ⟨by kernel_rfl, by kernel_rfl, by kernel_rfl, by kernel_rfl, by kernel_rfl, by kernel_rfl, by rfl, by rfl, by decide⟩
theorem ti29 : TI.ok 29 ⟨false, false, 1, [.int .i64 0], [], some .i64, none, 8⟩ := ⟨by kernel_rfl, by kernel_rfl, by kernel_rfl, by kernel_rfl, by kernel_rfl, by kernel_rfl, by rfl, by rfl, by decide⟩
theorem ti34 : TI.ok 34 ⟨true, true, 2, [.slice none 0 0, .slice none 0 0], [(0, 1, false), (1, 1, false)], none, none, 48⟩ := ⟨by kernel_rfl, by kernel_rfl, by kernel_rfl, by kernel_rfl, by kernel_rfl, by kernel_rfl, by rfl, by rfl, by decide⟩
theorem ti42 : TI.ok 42 ⟨false, false, 1, [.slice none 0 0], [], none, some 22, 24⟩ := ⟨by kernel_rfl, by kernel_rfl, by kernel_rfl, by kernel_rfl, by kernel_rfl, by kernel_rfl, by rfl, by rfl, by decide⟩
theorem ti44 : TI.ok 44 ⟨true, true, 4, [.int .i64 0, .int .i64 0, .slice none 0 0, .slice none 0 0], [(0, 1, false), (1, 1, false), (2, 1, false), (3, 1, false)], none, none, 64⟩ := ⟨by kernel_rfl, by kernel_rfl, by kernel_rfl, by kernel_rfl, by kernel_rfl, by kernel_rfl, by rfl, by rfl, by decide⟩
theorem ti56 : TI.ok 56 ⟨false, false, 1, [.slice none 0 0], [], none, some 60, 24⟩ := ⟨by kernel_rfl, by kernel_rfl, by kernel_rfl, by kernel_rfl, by kernel_rfl, by kernel_rfl, by rfl, by rfl, by decide⟩
theorem ti58 : TI.ok 58 ⟨true, true, 2, [.int .i64 0, .slice none 0 0], [(0, 1, false), (1, 1, false)], none, none, 32⟩ := ⟨by kernel_rfl, by kernel_rfl, by kernel_rfl, by kernel_rfl, by kernel_rfl, by kernel_rfl, by rfl, by rfl, by decide⟩
theorem ti60 : TI.ok 60 ⟨true, true, 4, [.int .i64 0, .int .i64 0, .int .i64 0, .slice none 0 0], [(0, 1, false), (1, 1, false), (2, 1, false), (3, 1, false)], none, none, 48⟩ := ⟨by kernel_rfl, by kernel_rfl, by kernel_rfl, by kernel_rfl, by kernel_rfl, by kernel_rfl, by rfl, by rfl, by decide⟩
theorem ti67 : TI.ok 67 ⟨true, true, 3, [.int .i64 0, .slice none 0 0, .slice none 0 0], [(0, 1, false), (1, 1, false), (2, 1, false)], none, none, 56⟩ := ⟨by kernel_rfl, by kernel_rfl, by kernel_rfl, by kernel_rfl, by kernel_rfl, by kernel_rfl, by rfl, by rfl, by decide⟩
theorem ti75 : TI.ok 75 ⟨false, false, 1, [.slice none 0 0], [], none, some 78, 24⟩ := ⟨by kernel_rfl, by kernel_rfl, by kernel_rfl, by kernel_rfl, by kernel_rfl, by kernel_rfl, by rfl, by rfl, by decide⟩
theorem ti77 : TI.ok 77 ⟨true, true, 4, [.int .i64 0, .int .i64 0, .slice none 0 0, .slice none 0 0], [(0, 1, false), (1, 1, false), (2, 1, false), (3, 1, false)], none, none, 64⟩ := ⟨by kernel_rfl, by kernel_rfl, by kernel_rfl, by kernel_rfl, by kernel_rfl, by kernel_rfl, by rfl, by rfl, by decide⟩
theorem ti78 : TI.ok 78 ⟨false, false, 1, [.slice none 0 0], [], none, some 42, 24⟩ := ⟨by kernel_rfl, by kernel_rfl, by kernel_rfl, by kernel_rfl, by kernel_rfl, by kernel_rfl, by rfl, by rfl, by decide⟩
theorem ti80 : TI.ok 80 ⟨true, true, 4, [.int .i64 0, .int .i64 0, .slice none 0 0, .slice none 0 0], [(0, 1, false), (1, 1, false), (2, 1, false), (3, 1, false)], none, none, 64⟩ := ⟨by kernel_rfl, by kernel_rfl, by kernel_rfl, by kernel_rfl, by kernel_rfl, by kernel_rfl, by rfl, by rfl, by decide⟩
theorem ti88 : TI.ok 88 ⟨true, true, 3, [.int .i64 0, .slice none 0 0, .slice none 0 0], [(0, 1, false), (1, 1, false), (2, 1, false)], none, none, 56⟩ := ⟨by kernel_rfl, by kernel_rfl, by kernel_rfl, by kernel_rfl, by kernel_rfl, by kernel_rfl, by rfl, by rfl, by decide⟩
theorem ti90 : TI.ok 90 ⟨true, true, 3, [.bool false, .slice none 0 0, .slice none 0 0], [(0, 1, false), (1, 1, false), (2, 1, false)], none, none, 56⟩ := ⟨by kernel_rfl, by kernel_rfl, by kernel_rfl, by kernel_rfl, by kernel_rfl, by kernel_rfl, by rfl, by rfl, by decide⟩
theorem ti94 : TI.ok 94 ⟨true, true, 3, [.bool false, .slice none 0 0, .slice none 0 0], [(0, 1, false), (1, 1, false), (2, 1, false)], none, none, 56⟩ := ⟨by kernel_rfl, by kernel_rfl, by kernel_rfl, by kernel_rfl, by kernel_rfl, by kernel_rfl, by rfl, by rfl, by decide⟩
theorem ti98 : TI.ok 98 ⟨false, false, 1, [.slice none 0 0], [], none, some 101, 24⟩ := ⟨by kernel_rfl, by kernel_rfl, by kernel_rfl, by kernel_rfl, by kernel_rfl, by kernel_rfl, by rfl, by rfl, by decide⟩
theorem ti101 : TI.ok 101 ⟨true, true, 2, [.slice none 0 0, .slice none 0 0], [(0, 1, false), (1, 1, false)], none, none, 48⟩ := ⟨by kernel_rfl, by kernel_rfl, by kernel_rfl, by kernel_rfl, by kernel_rfl, by kernel_rfl, by rfl, by rfl, by decide⟩
theorem ti105 : TI.ok 105 ⟨false, false, 1, [.slice none 0 0], [], none, some 110, 24⟩ := ⟨by kernel_rfl, by kernel_rfl, by kernel_rfl, by kernel_rfl, by kernel_rfl, by kernel_rfl, by rfl, by rfl, by decide⟩
theorem ti107 : TI.ok 107 ⟨true, true, 3, [.int .i64 0, .int .i64 0, .slice none 0 0], [(0, 1, false), (1, 1, false), (2, 1, false)], none, none, 40⟩ := ⟨by kernel_rfl, by kernel_rfl, by kernel_rfl, by kernel_rfl, by kernel_rfl, by kernel_rfl, by rfl, by rfl, by decide⟩
theorem ti110 : TI.ok 110 ⟨true, true, 3, [.int .i64 0, .int .i64 0, .int .i64 0], [(0, 1, false), (1, 1, false), (2, 1, false)], none, none, 24⟩ := ⟨by kernel_rfl, by kernel_rfl, by kernel_rfl, by kernel_rfl, by kernel_rfl, by kernel_rfl, by rfl, by rfl, by decide⟩
theorem ti111 : TI.ok 111 ⟨false, false, 1, [.slice none 0 0], [], none, some 114, 24⟩ := ⟨by kernel_rfl, by kernel_rfl, by kernel_rfl, by kernel_rfl, by kernel_rfl, by kernel_rfl, by rfl, by rfl, by decide⟩
theorem ti114 : TI.ok 114 ⟨false, false, 1, [.slice none 0 0], [], none, some 4, 24⟩ := ⟨by kernel_rfl, by kernel_rfl, by kernel_rfl, by kernel_rfl, by kernel_rfl, by kernel_rfl, by rfl, by rfl, by decide⟩
theorem ti118 : TI.ok 118 ⟨true, true, 2, [.int .i64 0, .int .i64 0], [(0, 1, false), (1, 1, false)], none, none, 16⟩ := ⟨by kernel_rfl, by kernel_rfl, by kernel_rfl, by kernel_rfl, by kernel_rfl, by kernel_rfl, by rfl, by rfl, by decide⟩
theorem ti123 : TI.ok 123 ⟨true, true, 3, [.int .i64 0, .slice none 0 0, .bool false], [(0, 1, false), (1, 1, false), (2, 1, false)], none, none, 40⟩ := ⟨by kernel_rfl, by kernel_rfl, by kernel_rfl, by kernel_rfl, by kernel_rfl, by kernel_rfl, by rfl, by rfl, by decide⟩
theorem ti134 : TI.ok 134 ⟨true, true, 4, [.slice none 0 0, .slice none 0 0, .slice none 0 0, .slice none 0 0], [(0, 1, false), (1, 1, false), (2, 1, false), (3, 1, false)], none, none, 96⟩ := ⟨by kernel_rfl, by kernel_rfl, by kernel_rfl, by kernel_rfl, by kernel_rfl, by kernel_rfl, by rfl, by rfl, by decide⟩
theorem ti135 : TI.ok 135 ⟨false, false, 1, [.nilFunc], [], none, none, 8⟩ := ⟨by kernel_rfl, by kernel_rfl, by kernel_rfl, by kernel_rfl, by kernel_rfl, by kernel_rfl, by rfl, by rfl, by decide⟩
theorem ti142 : TI.ok 142 ⟨false, false, 1, [.slice none 0 0], [], none, some 146, 24⟩ := ⟨by kernel_rfl, by kernel_rfl, by kernel_rfl, by kernel_rfl, by kernel_rfl, by kernel_rfl, by rfl, by rfl, by decide⟩
theorem ti144 : TI.ok 144 ⟨false, false, 1, [.slice none 0 0], [], none, some 149, 24⟩ := ⟨by kernel_rfl, by kernel_rfl, by kernel_rfl, by kernel_rfl, by kernel_rfl, by kernel_rfl, by rfl, by rfl, by decide⟩
theorem ti146 : TI.ok 146 ⟨true, true, 3, [.int .i64 0, .int .i64 0, .slice none 0 0], [(0, 1, false), (1, 1, false), (2, 1, false)], none, none, 40⟩ := ⟨by kernel_rfl, by kernel_rfl, by kernel_rfl, by kernel_rfl, by kernel_rfl, by kernel_rfl, by rfl, by rfl, by decide⟩
theorem ti149 : TI.ok 149 ⟨true, true, 3, [.int .i64 0, .int .i64 0, .int .i64 0], [(0, 1, false), (1, 1, false), (2, 1, false)], none, none, 24⟩ := ⟨by kernel_rfl, by kernel_rfl, by kernel_rfl, by kernel_rfl, by kernel_rfl, by kernel_rfl, by rfl, by rfl, by decide⟩
theorem ti153 : TI.ok 153 ⟨false, false, 1, [.map none], [], none, none, 8⟩ := ⟨by kernel_rfl, by kernel_rfl, by kernel_rfl, by kernel_rfl, by kernel_rfl, by kernel_rfl, by rfl, by rfl, by decide⟩
theorem ti157 : TI.ok 157 ⟨false, false, 1, [.slice none 0 0], [], none, some 67, 24⟩ := ⟨by kernel_rfl, by kernel_rfl, by kernel_rfl, by kernel_rfl, by kernel_rfl, by kernel_rfl, by rfl, by rfl, by decide⟩
theorem ti158 : TI.ok 158 ⟨true, false, 2, [.int .i64 0, .int .i64 0], [(0, 1, false), (1, 1, false)], none, none, 16⟩ := ⟨by kernel_rfl, by kernel_rfl, by kernel_rfl, by kernel_rfl, by kernel_rfl, by kernel_rfl, by rfl, by rfl, by decide⟩
theorem ti159 : TI.ok 159 ⟨false, false, 1, [.map none], [], none, none, 8⟩ := ⟨by kernel_rfl, by kernel_rfl, by kernel_rfl, by kernel_rfl, by kernel_rfl, by kernel_rfl, by rfl, by rfl, by decide⟩
theorem ti161 : TI.ok 161 ⟨true, true, 3, [.int .i64 0, .int .i64 0, .int .i64 0], [(0, 1, false), (1, 1, false), (2, 1, false)], none, none, 24⟩ := ⟨by kernel_rfl, by kernel_rfl, by kernel_rfl, by kernel_rfl, by kernel_rfl, by kernel_rfl, by rfl, by rfl, by decide⟩
theorem ti162 : TI.ok 162 ⟨false, false, 1, [.slice none 0 0], [], none, some 161, 24⟩ := ⟨by kernel_rfl, by kernel_rfl, by kernel_rfl, by kernel_rfl, by kernel_rfl, by kernel_rfl, by rfl, by rfl, by decide⟩
theorem ti177 : TI.ok 177 ⟨true, true, 9, [.int .i64 0, .slice none 0 0, .slice none 0 0, .map none, .slice none 0 0, .slice none 0 0, .bool false, .slice none 0 0, .slice none 0 0], [(0, 3, true), (3, 1, false), (4, 1, false), (5, 1, false), (6, 3, true)], none, none, 168⟩ := ⟨by kernel_rfl, by kernel_rfl, by kernel_rfl, by kernel_rfl, by kernel_rfl, by kernel_rfl, by rfl, by rfl, by decide⟩
theorem ti179 : TI.ok 179 ⟨true, true, 3, [.slice none 0 0, .int .i64 0, .int .i64 0], [(0, 1, false), (1, 1, false), (2, 1, false)], none, none, 40⟩ := ⟨by kernel_rfl, by kernel_rfl, by kernel_rfl, by kernel_rfl, by kernel_rfl, by kernel_rfl, by rfl, by rfl, by decide⟩
theorem ti180 : TI.ok 180 ⟨false, false, 1, [.slice none 0 0], [], none, some 179, 24⟩ := ⟨by kernel_rfl, by kernel_rfl, by kernel_rfl, by kernel_rfl, by kernel_rfl, by kernel_rfl, by rfl, by rfl, by decide⟩
theorem ti191 : TI.ok 191 ⟨false, false, 1, [.nilFunc], [], none, none, 8⟩ := ⟨by kernel_rfl, by kernel_rfl, by kernel_rfl, by kernel_rfl, by kernel_rfl, by kernel_rfl, by rfl, by rfl, by decide⟩
theorem ti192 : TI.ok 192 ⟨false, false, 1, [.slice none 0 0], [], none, some 196, 24⟩ := ⟨by kernel_rfl, by kernel_rfl, by kernel_rfl, by kernel_rfl, by kernel_rfl, by kernel_rfl, by rfl, by rfl, by decide⟩
theorem ti196 : TI.ok 196 ⟨true, true, 3, [.int .i64 0, .int .i64 0, .int .i64 0], [(0, 1, false), (1, 1, false), (2, 1, false)], none, none, 24⟩ := ⟨by kernel_rfl, by kernel_rfl, by kernel_rfl, by kernel_rfl, by kernel_rfl, by kernel_rfl, by rfl, by rfl, by decide⟩
theorem ti198 : TI.ok 198 ⟨false, false, 1, [.nilFunc], [], none, none, 8⟩ := ⟨by kernel_rfl, by kernel_rfl, by kernel_rfl, by kernel_rfl, by kernel_rfl, by kernel_rfl, by rfl, by rfl, by decide⟩
theorem ti201 : TI.ok 201 ⟨false, false, 1, [.map none], [], none, none, 8⟩ := ⟨by kernel_rfl, by kernel_rfl, by kernel_rfl, by kernel_rfl, by kernel_rfl, by kernel_rfl, by rfl, by rfl, by decide⟩
theorem ti204 : TI.ok 204 ⟨true, true, 2, [.int .i64 0, .int .i64 0], [(0, 1, false), (1, 1, false)], none, none, 16⟩ := ⟨by kernel_rfl, by kernel_rfl, by kernel_rfl, by kernel_rfl, by kernel_rfl, by kernel_rfl, by rfl, by rfl, by decide⟩
theorem ti205 : TI.ok 205 ⟨true, false, 2, [.slice none 0 0, .slice none 0 0], [(0, 1, false), (1, 1, false)], none, none, 48⟩ := ⟨by kernel_rfl, by kernel_rfl, by kernel_rfl, by kernel_rfl, by kernel_rfl, by kernel_rfl, by rfl, by rfl, by decide⟩
theorem ti209 : TI.ok 209 ⟨false, false, 1, [.slice none 0 0], [], none, some 134, 24⟩ := ⟨by kernel_rfl, by kernel_rfl, by kernel_rfl, by kernel_rfl, by kernel_rfl, by kernel_rfl, by rfl, by rfl, by decide⟩
theorem ti213 : TI.ok 213 ⟨false, false, 1, [.slice none 0 0], [], none, some 58, 24⟩ := ⟨by kernel_rfl, by kernel_rfl, by kernel_rfl, by kernel_rfl, by kernel_rfl, by kernel_rfl, by rfl, by rfl, by decide⟩
theorem ti214 : TI.ok 214 ⟨false, false, 1, [.map none], [], none, none, 8⟩ := ⟨by kernel_rfl, by kernel_rfl, by kernel_rfl, by kernel_rfl, by kernel_rfl, by kernel_rfl, by rfl, by rfl, by decide⟩
theorem ti216 : TI.ok 216 ⟨true, true, 3, [.int .i64 0, .slice none 0 0, .map none], [(0, 2, true), (2, 1, false)], none, none, 40⟩ := ⟨by kernel_rfl, by kernel_rfl, by kernel_rfl, by kernel_rfl, by kernel_rfl, by kernel_rfl, by rfl, by rfl, by decide⟩
theorem ti218 : TI.ok 218 ⟨true, true, 3, [.int .i64 0, .int .i64 0, .slice none 0 0], [(0, 1, false), (1, 1, false), (2, 1, false)], none, none, 40⟩ := ⟨by kernel_rfl, by kernel_rfl, by kernel_rfl, by kernel_rfl, by kernel_rfl, by kernel_rfl, by rfl, by rfl, by decide⟩
theorem ti220 : TI.ok 220 ⟨false, false, 1, [.map none], [], none, none, 8⟩ := ⟨by kernel_rfl, by kernel_rfl, by kernel_rfl, by kernel_rfl, by kernel_rfl, by kernel_rfl, by rfl, by rfl, by decide⟩
theorem ti225 : TI.ok 225 ⟨false, false, 1, [.slice none 0 0], [], none, some 5, 24⟩ := ⟨by kernel_rfl, by kernel_rfl, by kernel_rfl, by kernel_rfl, by kernel_rfl, by kernel_rfl, by rfl, by rfl, by decide⟩
theorem ti226 : TI.ok 226 ⟨false, false, 1, [.int .u64 0], [], some .u64, none, 8⟩ := ⟨by kernel_rfl, by kernel_rfl, by kernel_rfl, by kernel_rfl, by kernel_rfl, by kernel_rfl, by rfl, by rfl, by decide⟩
theorem ti229 : TI.ok 229 ⟨false, false, 1, [.map none], [], none, none, 8⟩ := ⟨by kernel_rfl, by kernel_rfl, by kernel_rfl, by kernel_rfl, by kernel_rfl, by kernel_rfl, by rfl, by rfl, by decide⟩
theorem ti244 : TI.ok 244 ⟨true, true, 2, [.int .i64 0, .int .i64 0], [(0, 2, true)], none, none, 16⟩ := ⟨by kernel_rfl, by kernel_rfl, by kernel_rfl, by kernel_rfl, by kernel_rfl, by kernel_rfl, by rfl, by rfl, by decide⟩
theorem ti247 : TI.ok 247 ⟨true, true, 6, [.string ByteArray.empty, .int .i64 0, .int .i64 0, .int .i64 0, .int .i64 0, .slice none 0 0], [(0, 1, false), (1, 1, false), (2, 1, false), (3, 1, false), (4, 1, false), (5, 1, false)], none, none, 72⟩ := ⟨by kernel_rfl, by kernel_rfl, by kernel_rfl, by kernel_rfl, by kernel_rfl, by kernel_rfl, by rfl, by rfl, by decide⟩
theorem ti253 : TI.ok 253 ⟨true, true, 2, [.int .i64 0, .int .i64 0], [(0, 1, false), (1, 1, false)], none, none, 16⟩ := ⟨by kernel_rfl, by kernel_rfl, by kernel_rfl, by kernel_rfl, by kernel_rfl, by kernel_rfl, by rfl, by rfl, by decide⟩
theorem ti258 : TI.ok 258 ⟨false, false, 1, [.map none], [], none, none, 8⟩ := ⟨by kernel_rfl, by kernel_rfl, by kernel_rfl, by kernel_rfl, by kernel_rfl, by kernel_rfl, by rfl, by rfl, by decide⟩
theorem ti260 : TI.ok 260 ⟨true, true, 2, [.int .i64 0, .string ByteArray.empty], [(0, 1, false), (1, 1, false)], none, none, 24⟩ := ⟨by kernel_rfl, by kernel_rfl, by kernel_rfl, by kernel_rfl, by kernel_rfl, by kernel_rfl, by rfl, by rfl, by decide⟩
theorem ti264 : TI.ok 264 ⟨false, false, 1, [.int .u32 0], [], some .u32, none, 4⟩ := ⟨by kernel_rfl, by kernel_rfl, by kernel_rfl, by kernel_rfl, by kernel_rfl, by kernel_rfl, by rfl, by rfl, by decide⟩
theorem ti267 : TI.ok 267 ⟨false, false, 1, [.int .u64 0], [], some .u64, none, 8⟩ := ⟨by kernel_rfl, by kernel_rfl, by kernel_rfl, by kernel_rfl, by kernel_rfl, by kernel_rfl, by rfl, by rfl, by decide⟩
theorem tab_ok : tab.ok := tabL_ok fun x hx => by
  simp only [tabs, List.mem_cons, List.not_mem_nil, or_false] at hx
  rcases hx with rfl | rfl | rfl | rfl | rfl | rfl | rfl | rfl | rfl | rfl | rfl | rfl | rfl | rfl | rfl | rfl | rfl | rfl | rfl | rfl | rfl | rfl | rfl | rfl | rfl | rfl | rfl | rfl | rfl | rfl | rfl | rfl | rfl | rfl | rfl | rfl | rfl | rfl | rfl | rfl | rfl | rfl | rfl | rfl | rfl | rfl | rfl | rfl | rfl | rfl | rfl | rfl | rfl | rfl | rfl | rfl | rfl | rfl | rfl | rfl | rfl | rfl | rfl | rfl | rfl | rfl | rfl | rfl | rfl | rfl
  · exact ti3
  · exact ti4
  · exact ti5
  · exact ti22
  · exact ti23
  · exact ti25
  · exact ti27
  · exact ti28
  · exact ti29
  · exact ti34
  · exact ti42
  · exact ti44
  · exact ti56
  · exact ti58
  · exact ti60
  · exact ti67
  · exact ti75
  · exact ti77
  · exact ti78
  · exact ti80
  · exact ti88
  · exact ti90
  · exact ti94
  · exact ti98
  · exact ti101
  · exact ti105
  · exact ti107
  · exact ti110
  · exact ti111
  · exact ti114
  · exact ti118
  · exact ti123
  · exact ti134
  · exact ti135
  · exact ti142
  · exact ti144
  · exact ti146
  · exact ti149
  · exact ti153
  · exact ti157
  · exact ti158
  · exact ti159
  · exact ti161
  · exact ti162
  · exact ti177
  · exact ti179
  · exact ti180
  · exact ti191
  · exact ti192
  · exact ti196
  · exact ti198
  · exact ti201
  · exact ti204
  · exact ti205
  · exact ti209
  · exact ti213
  · exact ti214
  · exact ti216
  · exact ti218
  · exact ti220
  · exact ti225
  · exact ti226
  · exact ti229
  · exact ti244
  · exact ti247
  · exact ti253
  · exact ti258
  · exact ti260
  · exact ti264
  · exact ti267
def TimedSpot.enc (k : TimedSpot) : Value := .agg #[.int .i64 k.fPlace, .int .i64 k.fClock]
theorem TimedSpot.encOk : ∀ (k : TimedSpot) (g : Gh) (hs : Nat → Value), (TimedSpot.ty.sv k).ok g hs (TimedSpot.enc k) := fun k g hs => ⟨[.int .i64 k.fPlace, .int .i64 k.fClock], rfl, ⟨rfl, trivial⟩, trivial, ⟨rfl, trivial⟩, trivial, trivial⟩
theorem TimedSpot.part0 (x0 x1 : Int) (w : World) : (Go.part 3 #[.int .i64 x0, .int .i64 x1] 0).run Try.prog w = .ok (.int .i64 x0) w := by kernel_rfl
theorem TimedSpot.part1 (x0 x1 : Int) (w : World) : (Go.part 3 #[.int .i64 x0, .int .i64 x1] 1).run Try.prog w = .ok (.int .i64 x1) w := by kernel_rfl
theorem TimedSpot.eq3 (x y : Int) (n : Nat) (w : World) : (Op.equalIn (n + 1) 3 (.int .i64 x) (.int .i64 y)).run Try.prog w = .ok (x == y) w := by
  have hu := run_underlying Try.underlying3 w
  simp only [Op.equalIn, Sem.run_bind, hu, Result.andThen_ok, if_true, Sem.run_pure]
theorem TimedSpot.keyLaw : KeyLaw 204 TimedSpot.enc where
  check := fun b a w => by unfold TimedSpot.enc; kernel_rfl
  bits := fun a => by unfold TimedSpot.enc; simp [Instr.sameBits]
  now := ⟨_, Try.underlying204, .inl fun a b => rfl⟩
  equal := fun a b w => by
    unfold TimedSpot.enc
    have hu := run_underlying Try.underlying204 w
    have hst : Try.prog.stoodInHeld 204 = false := by kernel_rfl
    show (Op.equalIn (9999 + 1) _ _ _).run _ _ = _
    rw [Op.equalIn]
    simp only [Sem.run_bind, hu, Result.andThen_ok]
    simp [Go.program, Sem.run, hst, TimedSpot.part0, TimedSpot.part1, TimedSpot.eq3]
    rcases a with ⟨a0, a1⟩
    rcases b with ⟨b0, b1⟩
    by_cases h0 : a0 = b0 <;> by_cases h1 : a1 = b1 <;> simp [h0, h1]
def StackEdge.enc (k : StackEdge) : Value := .agg #[.int .i64 k.fFrom, .int .i64 k.fSign, .int .i64 k.fTo]
theorem StackEdge.encOk : ∀ (k : StackEdge) (g : Gh) (hs : Nat → Value), (StackEdge.ty.sv k).ok g hs (StackEdge.enc k) := fun k g hs => ⟨[.int .i64 k.fFrom, .int .i64 k.fSign, .int .i64 k.fTo], rfl, ⟨rfl, trivial⟩, trivial, ⟨rfl, trivial⟩, trivial, ⟨rfl, trivial⟩, trivial, trivial⟩
theorem StackEdge.part0 (x0 x1 x2 : Int) (w : World) : (Go.part 3 #[.int .i64 x0, .int .i64 x1, .int .i64 x2] 0).run Try.prog w = .ok (.int .i64 x0) w := by kernel_rfl
theorem StackEdge.part1 (x0 x1 x2 : Int) (w : World) : (Go.part 3 #[.int .i64 x0, .int .i64 x1, .int .i64 x2] 1).run Try.prog w = .ok (.int .i64 x1) w := by kernel_rfl
theorem StackEdge.part2 (x0 x1 x2 : Int) (w : World) : (Go.part 3 #[.int .i64 x0, .int .i64 x1, .int .i64 x2] 2).run Try.prog w = .ok (.int .i64 x2) w := by kernel_rfl
theorem StackEdge.eq3 (x y : Int) (n : Nat) (w : World) : (Op.equalIn (n + 1) 3 (.int .i64 x) (.int .i64 y)).run Try.prog w = .ok (x == y) w := by
  have hu := run_underlying Try.underlying3 w
  simp only [Op.equalIn, Sem.run_bind, hu, Result.andThen_ok, if_true, Sem.run_pure]
theorem StackEdge.keyLaw : KeyLaw 149 StackEdge.enc where
  check := fun b a w => by unfold StackEdge.enc; kernel_rfl
  bits := fun a => by unfold StackEdge.enc; simp [Instr.sameBits]
  now := ⟨_, Try.underlying149, .inl fun a b => rfl⟩
  equal := fun a b w => by
    unfold StackEdge.enc
    have hu := run_underlying Try.underlying149 w
    have hst : Try.prog.stoodInHeld 149 = false := by kernel_rfl
    show (Op.equalIn (9999 + 1) _ _ _).run _ _ = _
    rw [Op.equalIn]
    simp only [Sem.run_bind, hu, Result.andThen_ok]
    simp [Go.program, Sem.run, hst, StackEdge.part0, StackEdge.part1, StackEdge.part2, StackEdge.eq3]
    rcases a with ⟨a0, a1, a2⟩
    rcases b with ⟨b0, b1, b2⟩
    by_cases h0 : a0 = b0 <;> by_cases h1 : a1 = b1 <;> by_cases h2 : a2 = b2 <;> simp [h0, h1, h2]
def encI3 (k : Int) : Value := .int .i64 k
theorem encI3Ok : ∀ (k : Int) (g : Gh) (hs : Nat → Value), (intT.sv k).ok g hs (encI3 k) := fun k g hs => ⟨rfl, trivial⟩
theorem keyI3 : KeyLaw 3 encI3 where
  check := fun b a w => by unfold encI3; kernel_rfl
  bits := fun a => by unfold encI3; simp [Instr.sameBits]
  now := ⟨_, Try.underlying3, .inr fun a b => by by_cases h : a = b <;> simp [Instr.sameNow, encI3, h]⟩
  equal := fun a b w => by
    unfold encI3
    have hu := run_underlying Try.underlying3 w
    show (Op.equalIn (9999 + 1) _ _ _).run _ _ = _
    rw [Op.equalIn]
    simp only [Sem.run_bind, hu, Result.andThen_ok, if_true, Sem.run_pure]
    congr 1
end Go.Proofs.Ytfpdnigihjmohaa
