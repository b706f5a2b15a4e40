/- Lemmas towards the statement: mirrors of functions, and plain laws. No condition. -/
import Derived.Laws.BitsLemmas
import Derived.Test.YtfpdnigihjmohaaPackSeqsGoes2

/- Symbolic states of a walk: contracts whose result holds a new piece of memory, the caller's own. No condition. -/
namespace Go.Proofs.Ytfpdnigihjmohaa
open Go.RowKit Go.MapKept
set_option linter.unusedSimpArgs false
set_option linter.unusedVariables false
set_option maxRecDepth 100000
set_option linter.unusedSectionVars false

/-- a contract: a result that is so, within which .own 0 is a new piece of memory, the caller's own -/
def CtS {β : Type} (f : Nat) (ins : List SC) (M : List Item) (post : β → Prop) (out : β → SC) (itf : β → Item) : Prop := ∀ (w : World) (g : Gh) (hs : Nat → Value) (args : List Value), Pers g w → okArgs g hs ins args → (∀ (i : Nat) (it : Item), M[i]? = some it → fzOk g hs (hs i) it) →
  Calls Try.prog f args.toArray w (fun en w' => ∃ v g' r h', en = .returned v ∧ post r ∧ Base (cfg0 0 w g) w' g' ∧ (out r).ok g' (fun _ => h') v ∧ (itf r).ok g' hs0 w' h' ∧ ∀ b, blk h' = some b → b < w'.heap.size ∧ w.heap.size ≤ b ∧ g' b = none)
theorem CtS.fun {β : Type} {f : Nat} {ins : List SC} {M : List Item} {r : β} {out : β → SC} {itf : β → Item} (h : CtS f ins M (fun x => x = r) out itf) : CtS f ins M (fun (_ : Unit) => True) (fun _ => out r) (fun _ => itf r) := fun w g hs args h1 h2 h3 =>
  (h w g hs args h1 h2 h3).mono fun e w' ⟨v, g', r', h', e1, e2, e3⟩ => ⟨v, g', (), h', e1, trivial, by subst e2; exact e3⟩
def RetS {β : Type} (c : Cfg) (rs : Array ResultVar) (post : β → Prop) (out : β → SC) (itf : β → Item) : Po := fun a w => a.defers = [] ∧ ∃ v g' r h', (resR rs a.tmps).run Try.prog w = .ok v w ∧ post r ∧ Base c w g' ∧ (out r).ok g' (fun _ => h') v ∧ (itf r).ok g' hs0 w h' ∧ ∀ b, blk h' = some b → b < w.heap.size ∧ c.w0.heap.size ≤ b ∧ g' b = none
section
variable {c : Cfg} {S S1 : St} {a : Act} {w : World} {g : Gh} {hs : Nat → Value} {tab : Tab} {o : Oper}
theorem CtS.body {β : Type} {post : β → Prop} {out : β → SC} {itf : β → Item} {f : Nat} {fn : Func} {code : Code} {n : Nat} {rs : Array ResultVar} {ins : List SC} {M : List Item} (hf : Try.prog.funcs[f]? = some fn) (hb : fn.body = some code) (hn : fn.ntmps = n) (hr : fn.results = rs)
    (hl : Nat.ble ins.length n = true) (h : ∀ c : Cfg, c.n = n → c.may = (fun _ => False) → En c ⟨enumF 0 ins, M⟩ (cwp code (PQ (RetS c rs post out itf) [] (RetS c rs post out itf)))) : CtS f ins M post out itf := fun w g hs args hp ha hm => by
  have hl := Nat.le_of_ble_eq_true hl
  have hla := okArgs_length ha
  refine calls_of_wp hf hb (Code.wp_mono (fun ex a w' q => ?_) (h (cfg0 n w g) rfl rfl { tmps := args.toArray ++ Array.replicate (fn.ntmps - args.toArray.size) undef, defers := [] } w ⟨g, hs, ?_⟩))
  · have key : RetS (cfg0 n w g) rs post out itf a w' → a.defers = [] ∧ ∃ v, (results fn a.tmps).run Try.prog w' = .ok v w' ∧ ∃ v' g' r' h', Ending.returned v = .returned v' ∧ post r' ∧ Base (cfg0 0 w g) w' g' ∧ (out r').ok g' (fun _ => h') v' ∧ (itf r').ok g' hs0 w' h' ∧ ∀ b, blk h' = some b → b < w'.heap.size ∧ w.heap.size ≤ b ∧ g' b = none := fun ⟨h1, v, g', r', h', h2, h4, h5, h6, h7, h8⟩ => by
      refine ⟨h1, v, ?_, v, g', r', h', rfl, h4, ⟨h5.os, h5.tape, h5.output, h5.grows, h5.frame, h5.ghle, h5.ghnew, h5.pers⟩, h6, h7, h8⟩
      subst hr
      exact h2
    cases ex <;> first | exact key q | exact (q : False).elim
  · refine ⟨?_, rfl, ⟨rfl, rfl, rfl, Nat.le_refl _, fun _ _ _ => rfl, Gh.le.refl g, fun b o e => .inl e, hp⟩, fun t x hx => ?_, fun i it hi => ?_, ?_, ?_⟩
    · simp [cfg0, hn]
      omega
    · obtain ⟨u, h1, _, h3⟩ := enumF_ok ha hx
      simp only [Nat.sub_zero] at h1
      have hlt := (List.getElem?_eq_some_iff.1 h1).1
      have : (args.toArray ++ Array.replicate (fn.ntmps - args.toArray.size) undef).getD t undef = u := by
        rw [Array.getD_eq_getD_getElem?, Array.getElem?_append_left (by simpa using hlt)]
        simp [h1]
      rw [this]
      exact h3
    · have := hm i it hi
      cases it <;> try exact this.elim
      rename_i cells ty fz
      cases fz
      · exact this.elim
      · obtain ⟨b, cs, h1, h2, h3⟩ := this
        exact ⟨b, cs, h1, h2, hp _ _ h3, fun _ => h3⟩
    · intro i j it jt _ hi _ hfi
      have := hm i it hi
      cases it <;> try exact this.elim
      rename_i cells ty fz
      cases fz
      · exact this.elim
      · cases hfi
    · intro i it hi hnn b hb
      clear hnn
      have := hm i it hi
      cases it <;> try exact this.elim
      rename_i cells ty fz
      cases fz
      · exact this.elim
      · obtain ⟨b', cs, h1, h2, h3⟩ := this
        rw [h1] at hb
        cases hb
        exact ⟨hp.lt h3, fun h => by cases h⟩
end
end Go.Proofs.Ytfpdnigihjmohaa

/- What is to be known of types; structs as plain data. No condition. -/
namespace Go.Proofs.Ytfpdnigihjmohaa
open Go.RowKit Go.MapKept
set_option linter.unusedSimpArgs false
set_option linter.unusedVariables false
set_option maxRecDepth 100000

structure ApiEdge where
  fFrom : Int
  fTo : Int
  fLow : Int
  fHigh : Int
  fOpen : Int
  fReset : Int
deriving DecidableEq, Inhabited
abbrev ApiEdge.sv (x : ApiEdge) : SV := .agg [I x.fFrom, I x.fTo, I x.fLow, I x.fHigh, I x.fOpen, I x.fReset]
abbrev ApiEdge.ty : Ty ApiEdge := ⟨6, ApiEdge.sv⟩
structure ApiTimed where
  fStay : (List Int)
  fEdges : (List ApiEdge)
  fGoal : Int
deriving DecidableEq, Inhabited
abbrev ApiTimed.sv (x : ApiTimed) : SV := .agg [LS intT x.fStay, LS ApiEdge.ty x.fEdges, I x.fGoal]
abbrev ApiTimed.ty : Ty ApiTimed := ⟨3, ApiTimed.sv⟩
structure ApiLeg where
  fWait : Int
  fEdge : Int
deriving DecidableEq, Inhabited
abbrev ApiLeg.sv (x : ApiLeg) : SV := .agg [I x.fWait, I x.fEdge]
abbrev ApiLeg.ty : Ty ApiLeg := ⟨2, ApiLeg.sv⟩
structure ApiLasso where
  fHead : (List Int)
  fLoop : (List Int)
deriving DecidableEq, Inhabited
abbrev ApiLasso.sv (x : ApiLasso) : SV := .agg [LS intT x.fHead, LS intT x.fLoop]
abbrev ApiLasso.ty : Ty ApiLasso := ⟨2, ApiLasso.sv⟩
structure ApiMuller where
  fLetters : Int
  fStart : Int
  fNext : (List (List Int))
  fGood : (List Int)
deriving DecidableEq, Inhabited
abbrev ApiMuller.sv (x : ApiMuller) : SV := .agg [I x.fLetters, I x.fStart, LS (lsT intT) x.fNext, LS intT x.fGood]
abbrev ApiMuller.ty : Ty ApiMuller := ⟨4, ApiMuller.sv⟩
structure ApiPush where
  fFrom : Int
  fTop : Int
  fTo : Int
  fPut : (List Int)
deriving DecidableEq, Inhabited
abbrev ApiPush.sv (x : ApiPush) : SV := .agg [I x.fFrom, I x.fTop, I x.fTo, LS intT x.fPut]
abbrev ApiPush.ty : Ty ApiPush := ⟨4, ApiPush.sv⟩
structure ApiConfig where
  fControl : Int
  fStack : (List Int)
deriving DecidableEq, Inhabited
abbrev ApiConfig.sv (x : ApiConfig) : SV := .agg [I x.fControl, LS intT x.fStack]
abbrev ApiConfig.ty : Ty ApiConfig := ⟨2, ApiConfig.sv⟩
structure ApiMorph where
  fBase : Int
  fImages : (List (List Int))
  fCoding : (List Int)
deriving DecidableEq, Inhabited
abbrev ApiMorph.sv (x : ApiMorph) : SV := .agg [I x.fBase, LS (lsT intT) x.fImages, LS intT x.fCoding]
abbrev ApiMorph.ty : Ty ApiMorph := ⟨3, ApiMorph.sv⟩
structure ApiAlter where
  fLetters : Int
  fStart : Int
  fNext : (List (List (List (List Int))))
  fMark : (List Int)
deriving DecidableEq, Inhabited
abbrev ApiAlter.sv (x : ApiAlter) : SV := .agg [I x.fLetters, I x.fStart, LS (lsT (lsT (lsT intT))) x.fNext, LS intT x.fMark]
abbrev ApiAlter.ty : Ty ApiAlter := ⟨4, ApiAlter.sv⟩
structure ApiDet where
  fLetters : Int
  fStart : Int
  fNext : (List (List Int))
  fMark : (List Int)
deriving DecidableEq, Inhabited
abbrev ApiDet.sv (x : ApiDet) : SV := .agg [I x.fLetters, I x.fStart, LS (lsT intT) x.fNext, LS intT x.fMark]
abbrev ApiDet.ty : Ty ApiDet := ⟨4, ApiDet.sv⟩
structure ApiHeaps where
  fPlaces : Int
  fTakes : (List (List Int))
  fGives : (List (List Int))
deriving DecidableEq, Inhabited
abbrev ApiHeaps.sv (x : ApiHeaps) : SV := .agg [I x.fPlaces, LS (lsT intT) x.fTakes, LS (lsT intT) x.fGives]
abbrev ApiHeaps.ty : Ty ApiHeaps := ⟨3, ApiHeaps.sv⟩
structure ApiPump where
  fBounded : Bool
  fFirst : (List Int)
  fAgain : (List Int)
deriving DecidableEq, Inhabited
abbrev ApiPump.sv (x : ApiPump) : SV := .agg [B x.fBounded, LS intT x.fFirst, LS intT x.fAgain]
abbrev ApiPump.ty : Ty ApiPump := ⟨3, ApiPump.sv⟩
structure ApiCover where
  fCan : Bool
  fSteps : (List Int)
  fBars : (List (List Int))
deriving DecidableEq, Inhabited
abbrev ApiCover.sv (x : ApiCover) : SV := .agg [B x.fCan, LS intT x.fSteps, LS (lsT intT) x.fBars]
abbrev ApiCover.ty : Ty ApiCover := ⟨3, ApiCover.sv⟩
structure ApiSwap where
  fFrom : (List Int)
  fTo : (List Int)
deriving DecidableEq, Inhabited
abbrev ApiSwap.sv (x : ApiSwap) : SV := .agg [LS intT x.fFrom, LS intT x.fTo]
abbrev ApiSwap.ty : Ty ApiSwap := ⟨2, ApiSwap.sv⟩
structure ApiArrow where
  fFrom : Int
  fLetter : Int
  fTo : Int
deriving DecidableEq, Inhabited
abbrev ApiArrow.sv (x : ApiArrow) : SV := .agg [I x.fFrom, I x.fLetter, I x.fTo]
abbrev ApiArrow.ty : Ty ApiArrow := ⟨3, ApiArrow.sv⟩
structure ApiGraph where
  fLetters : Int
  fPlaces : Int
  fArrows : (List ApiArrow)
deriving DecidableEq, Inhabited
abbrev ApiGraph.sv (x : ApiGraph) : SV := .agg [I x.fLetters, I x.fPlaces, LS ApiArrow.ty x.fArrows]
abbrev ApiGraph.ty : Ty ApiGraph := ⟨3, ApiGraph.sv⟩
structure ApiFault where
  fCode : Int
  fAt : Int
deriving DecidableEq, Inhabited
abbrev ApiFault.sv (x : ApiFault) : SV := .agg [I x.fCode, I x.fAt]
abbrev ApiFault.ty : Ty ApiFault := ⟨2, ApiFault.sv⟩
structure TimedWay where
  fTime : Int
  fLegs : (List ApiLeg)
  fDone : Bool
deriving DecidableEq, Inhabited
abbrev TimedWay.sv (x : TimedWay) : SV := .agg [I x.fTime, LS ApiLeg.ty x.fLegs, B x.fDone]
abbrev TimedWay.ty : Ty TimedWay := ⟨3, TimedWay.sv⟩
structure EhrenTable where
  fU : (List Int)
  fV : (List Int)
  fA : (List Int)
  fB : (List Int)
deriving DecidableEq, Inhabited
abbrev EhrenTable.sv (x : EhrenTable) : SV := .agg [LS intT x.fU, LS intT x.fV, LS intT x.fA, LS intT x.fB]
abbrev EhrenTable.ty : Ty EhrenTable := ⟨4, EhrenTable.sv⟩
structure StackEdge where
  fFrom : Int
  fSign : Int
  fTo : Int
deriving DecidableEq, Inhabited
abbrev StackEdge.sv (x : StackEdge) : SV := .agg [I x.fFrom, I x.fSign, I x.fTo]
abbrev StackEdge.ty : Ty StackEdge := ⟨3, StackEdge.sv⟩
structure StackWay where
  fTo : Int
  fCost : Int
  fOver : (List StackEdge)
deriving DecidableEq, Inhabited
abbrev StackWay.sv (x : StackWay) : SV := .agg [I x.fTo, I x.fCost, LS StackEdge.ty x.fOver]
abbrev StackWay.ty : Ty StackWay := ⟨3, StackWay.sv⟩
structure St158 where
  fE0 : Int
  fE1 : Int
deriving DecidableEq, Inhabited
abbrev St158.sv (x : St158) : SV := .agg [I x.fE0, I x.fE1]
abbrev St158.ty : Ty St158 := ⟨2, St158.sv⟩
structure SeqsPlace where
  fA : Int
  fB : Int
  fN : Int
deriving DecidableEq, Inhabited
abbrev SeqsPlace.sv (x : SeqsPlace) : SV := .agg [I x.fA, I x.fB, I x.fN]
abbrev SeqsPlace.ty : Ty SeqsPlace := ⟨3, SeqsPlace.sv⟩
structure CoverBar where
  fState : (List Int)
  fStep : Int
  fThen : Int
deriving DecidableEq, Inhabited
abbrev CoverBar.sv (x : CoverBar) : SV := .agg [LS intT x.fState, I x.fStep, I x.fThen]
abbrev CoverBar.ty : Ty CoverBar := ⟨3, CoverBar.sv⟩
structure TimeNode where
  fKind : Int
  fA : Int
  fB : Int
deriving DecidableEq, Inhabited
abbrev TimeNode.sv (x : TimeNode) : SV := .agg [I x.fKind, I x.fA, I x.fB]
abbrev TimeNode.ty : Ty TimeNode := ⟨3, TimeNode.sv⟩
structure TimedSpot where
  fPlace : Int
  fClock : Int
deriving DecidableEq, Inhabited
abbrev TimedSpot.sv (x : TimedSpot) : SV := .agg [I x.fPlace, I x.fClock]
abbrev TimedSpot.ty : Ty TimedSpot := ⟨2, TimedSpot.sv⟩
structure St205 where
  fE0 : (List Int)
  fE1 : (List Int)
deriving DecidableEq, Inhabited
abbrev St205.sv (x : St205) : SV := .agg [LS intT x.fE0, LS intT x.fE1]
abbrev St205.ty : Ty St205 := ⟨2, St205.sv⟩
structure StackKnown where
  fRule : Int
  fCost : Int
  fOver : (List StackEdge)
deriving DecidableEq, Inhabited
abbrev StackKnown.sv (x : StackKnown) : SV := .agg [I x.fRule, I x.fCost, LS StackEdge.ty x.fOver]
abbrev StackKnown.ty : Ty StackKnown := ⟨3, StackKnown.sv⟩
structure TimeStop where
  fFault : ApiFault
deriving DecidableEq, Inhabited
abbrev TimeStop.sv (x : TimeStop) : SV := .agg [I x.fFault.fCode, I x.fFault.fAt]
abbrev TimeStop.ty : Ty TimeStop := ⟨2, TimeStop.sv⟩
structure TimeReader where
  fText : ByteArray
  fI : Int
  fNodes : Int
  fTimes : Int
  fNest : Int
  fL : (List TimeNode)
deriving DecidableEq, Inhabited
abbrev TimeReader.sv (x : TimeReader) : SV := .agg [.v (.string x.fText), I x.fI, I x.fNodes, I x.fTimes, I x.fNest, LS TimeNode.ty x.fL]
abbrev TimeReader.ty : Ty TimeReader := ⟨6, TimeReader.sv⟩
structure DetSplit where
  fOwn : Int
  fNext : ByteArray
deriving DecidableEq, Inhabited
abbrev DetSplit.sv (x : DetSplit) : SV := .agg [I x.fOwn, .v (.string x.fNext)]
abbrev DetSplit.ty : Ty DetSplit := ⟨2, DetSplit.sv⟩
def tabs : List (Nat × TI) := [
  (3, ⟨false, false, 1, [.int .i64 0], [], some .i64, none, 8⟩),
  (4, ⟨false, false, 1, [.bool false], [], none, none, 1⟩),
  (5, ⟨false, false, 1, [.int .u8 0], [], some .u8, none, 1⟩),
  (22, ⟨false, false, 1, [.slice none 0 0], [], none, some 3, 24⟩),
  (23, ⟨false, false, 1, [.slice none 0 0], [], none, some 27, 24⟩),
  (25, ⟨true, true, 3, [.slice none 0 0, .slice none 0 0, .int .i64 0], [(0, 1, false), (1, 1, false), (2, 1, false)], none, none, 56⟩),
  (27, ⟨true, true, 6, [.int .i64 0, .int .i64 0, .int .i64 0, .int .i64 0, .int .i64 0, .int .i64 0], [(0, 1, false), (1, 1, false), (2, 1, false), (3, 1, false), (4, 1, false), (5, 1, false)], none, none, 48⟩),
  (28, ⟨false, false, 1, [.slice none 0 0], [], none, some 253, 24⟩),
  (29, ⟨false, false, 1, [.int .i64 0], [], some .i64, none, 8⟩),
  (34, ⟨true, true, 2, [.slice none 0 0, .slice none 0 0], [(0, 1, false), (1, 1, false)], none, none, 48⟩),
  (42, ⟨false, false, 1, [.slice none 0 0], [], none, some 22, 24⟩),
  (44, ⟨true, true, 4, [.int .i64 0, .int .i64 0, .slice none 0 0, .slice none 0 0], [(0, 1, false), (1, 1, false), (2, 1, false), (3, 1, false)], none, none, 64⟩),
  (56, ⟨false, false, 1, [.slice none 0 0], [], none, some 60, 24⟩),
  (58, ⟨true, true, 2, [.int .i64 0, .slice none 0 0], [(0, 1, false), (1, 1, false)], none, none, 32⟩),
  (60, ⟨true, true, 4, [.int .i64 0, .int .i64 0, .int .i64 0, .slice none 0 0], [(0, 1, false), (1, 1, false), (2, 1, false), (3, 1, false)], none, none, 48⟩),
  (67, ⟨true, true, 3, [.int .i64 0, .slice none 0 0, .slice none 0 0], [(0, 1, false), (1, 1, false), (2, 1, false)], none, none, 56⟩),
  (75, ⟨false, false, 1, [.slice none 0 0], [], none, some 78, 24⟩),
  (77, ⟨true, true, 4, [.int .i64 0, .int .i64 0, .slice none 0 0, .slice none 0 0], [(0, 1, false), (1, 1, false), (2, 1, false), (3, 1, false)], none, none, 64⟩),
  (78, ⟨false, false, 1, [.slice none 0 0], [], none, some 42, 24⟩),
  (80, ⟨true, true, 4, [.int .i64 0, .int .i64 0, .slice none 0 0, .slice none 0 0], [(0, 1, false), (1, 1, false), (2, 1, false), (3, 1, false)], none, none, 64⟩),
  (88, ⟨true, true, 3, [.int .i64 0, .slice none 0 0, .slice none 0 0], [(0, 1, false), (1, 1, false), (2, 1, false)], none, none, 56⟩),
  (90, ⟨true, true, 3, [.bool false, .slice none 0 0, .slice none 0 0], [(0, 1, false), (1, 1, false), (2, 1, false)], none, none, 56⟩),
  (94, ⟨true, true, 3, [.bool false, .slice none 0 0, .slice none 0 0], [(0, 1, false), (1, 1, false), (2, 1, false)], none, none, 56⟩),
  (98, ⟨false, false, 1, [.slice none 0 0], [], none, some 101, 24⟩),
  (101, ⟨true, true, 2, [.slice none 0 0, .slice none 0 0], [(0, 1, false), (1, 1, false)], none, none, 48⟩),
  (105, ⟨false, false, 1, [.slice none 0 0], [], none, some 110, 24⟩),
  (107, ⟨true, true, 3, [.int .i64 0, .int .i64 0, .slice none 0 0], [(0, 1, false), (1, 1, false), (2, 1, false)], none, none, 40⟩),
  (110, ⟨true, true, 3, [.int .i64 0, .int .i64 0, .int .i64 0], [(0, 1, false), (1, 1, false), (2, 1, false)], none, none, 24⟩),
  (111, ⟨false, false, 1, [.slice none 0 0], [], none, some 114, 24⟩),
  (114, ⟨false, false, 1, [.slice none 0 0], [], none, some 4, 24⟩),
  (118, ⟨true, true, 2, [.int .i64 0, .int .i64 0], [(0, 1, false), (1, 1, false)], none, none, 16⟩),
  (123, ⟨true, true, 3, [.int .i64 0, .slice none 0 0, .bool false], [(0, 1, false), (1, 1, false), (2, 1, false)], none, none, 40⟩),
  (134, ⟨true, true, 4, [.slice none 0 0, .slice none 0 0, .slice none 0 0, .slice none 0 0], [(0, 1, false), (1, 1, false), (2, 1, false), (3, 1, false)], none, none, 96⟩),
  (135, ⟨false, false, 1, [.nilFunc], [], none, none, 8⟩),
  (142, ⟨false, false, 1, [.slice none 0 0], [], none, some 146, 24⟩),
  (144, ⟨false, false, 1, [.slice none 0 0], [], none, some 149, 24⟩),
  (146, ⟨true, true, 3, [.int .i64 0, .int .i64 0, .slice none 0 0], [(0, 1, false), (1, 1, false), (2, 1, false)], none, none, 40⟩),
  (149, ⟨true, true, 3, [.int .i64 0, .int .i64 0, .int .i64 0], [(0, 1, false), (1, 1, false), (2, 1, false)], none, none, 24⟩),
  (153, ⟨false, false, 1, [.map none], [], none, none, 8⟩),
  (157, ⟨false, false, 1, [.slice none 0 0], [], none, some 67, 24⟩),
  (158, ⟨true, false, 2, [.int .i64 0, .int .i64 0], [(0, 1, false), (1, 1, false)], none, none, 16⟩),
  (159, ⟨false, false, 1, [.map none], [], none, none, 8⟩),
  (161, ⟨true, true, 3, [.int .i64 0, .int .i64 0, .int .i64 0], [(0, 1, false), (1, 1, false), (2, 1, false)], none, none, 24⟩),
  (162, ⟨false, false, 1, [.slice none 0 0], [], none, some 161, 24⟩),
  (177, ⟨true, true, 9, [.int .i64 0, .slice none 0 0, .slice none 0 0, .map none, .slice none 0 0, .slice none 0 0, .bool false, .slice none 0 0, .slice none 0 0], [(0, 3, true), (3, 1, false), (4, 1, false), (5, 1, false), (6, 3, true)], none, none, 168⟩),
  (179, ⟨true, true, 3, [.slice none 0 0, .int .i64 0, .int .i64 0], [(0, 1, false), (1, 1, false), (2, 1, false)], none, none, 40⟩),
  (180, ⟨false, false, 1, [.slice none 0 0], [], none, some 179, 24⟩),
  (191, ⟨false, false, 1, [.nilFunc], [], none, none, 8⟩),
  (192, ⟨false, false, 1, [.slice none 0 0], [], none, some 196, 24⟩),
  (196, ⟨true, true, 3, [.int .i64 0, .int .i64 0, .int .i64 0], [(0, 1, false), (1, 1, false), (2, 1, false)], none, none, 24⟩),
  (198, ⟨false, false, 1, [.nilFunc], [], none, none, 8⟩),
  (201, ⟨false, false, 1, [.map none], [], none, none, 8⟩),
  (204, ⟨true, true, 2, [.int .i64 0, .int .i64 0], [(0, 1, false), (1, 1, false)], none, none, 16⟩),
  (205, ⟨true, false, 2, [.slice none 0 0, .slice none 0 0], [(0, 1, false), (1, 1, false)], none, none, 48⟩),
  (209, ⟨false, false, 1, [.slice none 0 0], [], none, some 134, 24⟩),
  (213, ⟨false, false, 1, [.slice none 0 0], [], none, some 58, 24⟩),
  (214, ⟨false, false, 1, [.map none], [], none, none, 8⟩),
  (216, ⟨true, true, 3, [.int .i64 0, .slice none 0 0, .map none], [(0, 2, true), (2, 1, false)], none, none, 40⟩),
  (218, ⟨true, true, 3, [.int .i64 0, .int .i64 0, .slice none 0 0], [(0, 1, false), (1, 1, false), (2, 1, false)], none, none, 40⟩),
  (220, ⟨false, false, 1, [.map none], [], none, none, 8⟩),
  (225, ⟨false, false, 1, [.slice none 0 0], [], none, some 5, 24⟩),
  (226, ⟨false, false, 1, [.int .u64 0], [], some .u64, none, 8⟩),
  (229, ⟨false, false, 1, [.map none], [], none, none, 8⟩),
  (244, ⟨true, true, 2, [.int .i64 0, .int .i64 0], [(0, 2, true)], none, none, 16⟩),
  (247, ⟨true, true, 6, [.string ByteArray.empty, .int .i64 0, .int .i64 0, .int .i64 0, .int .i64 0, .slice none 0 0], [(0, 1, false), (1, 1, false), (2, 1, false), (3, 1, false), (4, 1, false), (5, 1, false)], none, none, 72⟩),
  (253, ⟨true, true, 2, [.int .i64 0, .int .i64 0], [(0, 1, false), (1, 1, false)], none, none, 16⟩),
  (258, ⟨false, false, 1, [.map none], [], none, none, 8⟩),
  (260, ⟨true, true, 2, [.int .i64 0, .string ByteArray.empty], [(0, 1, false), (1, 1, false)], none, none, 24⟩),
  (264, ⟨false, false, 1, [.int .u32 0], [], some .u32, none, 4⟩),
  (267, ⟨false, false, 1, [.int .u64 0], [], some .u64, none, 8⟩)]
def tab : Tab := tabL tabs
theorem ti3 : TI.ok 3 ⟨false, false, 1, [.int .i64 0], [], some .i64, none, 8⟩ := ⟨by kernel_rfl, by kernel_rfl, by kernel_rfl, by kernel_rfl, by kernel_rfl, by kernel_rfl, by rfl, by rfl, by decide⟩
theorem ti4 : TI.ok 4 ⟨false, false, 1, [.bool false], [], none, none, 1⟩ := ⟨by kernel_rfl, by kernel_rfl, by kernel_rfl, by kernel_rfl, by kernel_rfl, by kernel_rfl, by rfl, by rfl, by decide⟩
theorem ti5 : TI.ok 5 ⟨false, false, 1, [.int .u8 0], [], some .u8, none, 1⟩ := ⟨by kernel_rfl, by kernel_rfl, by kernel_rfl, by kernel_rfl, by kernel_rfl, by kernel_rfl, by rfl, by rfl, by decide⟩
theorem ti22 : TI.ok 22 ⟨false, false, 1, [.slice none 0 0], [], none, some 3, 24⟩ := ⟨by kernel_rfl, by kernel_rfl, by kernel_rfl, by kernel_rfl, by kernel_rfl, by kernel_rfl, by rfl, by rfl, by decide⟩
theorem ti23 : TI.ok 23 ⟨false, false, 1, [.slice none 0 0], [], none, some 27, 24⟩ := ⟨by kernel_rfl, by kernel_rfl, by kernel_rfl, by kernel_rfl, by kernel_rfl, by kernel_rfl, by rfl, by rfl, by decide⟩
theorem ti25 : TI.ok 25 ⟨true, true, 3, [.slice none 0 0, .slice none 0 0, .int .i64 0], [(0, 1, false), (1, 1, false), (2, 1, false)], none, none, 56⟩ := ⟨by kernel_rfl, by kernel_rfl, by kernel_rfl, by kernel_rfl, by kernel_rfl, by kernel_rfl, by rfl, by rfl, by decide⟩
theorem ti27 : TI.ok 27 ⟨true, true, 6, [.int .i64 0, .int .i64 0, .int .i64 0, .int .i64 0, .int .i64 0, .int .i64 0], [(0, 1, false), (1, 1, false), (2, 1, false), (3, 1, false), (4, 1, false), (5, 1, false)], none, none, 48⟩ := ⟨by kernel_rfl, by kernel_rfl, by kernel_rfl, by kernel_rfl, by kernel_rfl, by kernel_rfl, by rfl, by rfl, by decide⟩
theorem ti28 : TI.ok 28 ⟨false, false, 1, [.slice none 0 0], [], none, some 253, 24⟩ := ⟨by kernel_rfl, by kernel_rfl, by kernel_rfl, by kernel_rfl, by kernel_rfl, by kernel_rfl, by rfl, by rfl, by decide⟩
theorem ti29 : TI.ok 29 ⟨false, false, 1, [.int .i64 0], [], some .i64, none, 8⟩ := ⟨by kernel_rfl, by kernel_rfl, by kernel_rfl, by kernel_rfl, by kernel_rfl, by kernel_rfl, by rfl, by rfl, by decide⟩
theorem ti34 : TI.ok 34 ⟨true, true, 2, [.slice none 0 0, .slice none 0 0], [(0, 1, false), (1, 1, false)], none, none, 48⟩ := ⟨by kernel_rfl, by kernel_rfl, by kernel_rfl, by kernel_rfl, by kernel_rfl, by kernel_rfl, by rfl, by rfl, by decide⟩
theorem ti42 : TI.ok 42 ⟨false, false, 1, [.slice none 0 0], [], none, some 22, 24⟩ := ⟨by kernel_rfl, by kernel_rfl, by kernel_rfl, by kernel_rfl, by kernel_rfl, by kernel_rfl, by rfl, by rfl, by decide⟩
theorem ti44 : TI.ok 44 ⟨true, true, 4, [.int .i64 0, .int .i64 0, .slice none 0 0, .slice none 0 0], [(0, 1, false), (1, 1, false), (2, 1, false), (3, 1, false)], none, none, 64⟩ := ⟨by kernel_rfl, by kernel_rfl, by kernel_rfl, by kernel_rfl, by kernel_rfl, by kernel_rfl, by rfl, by rfl, by decide⟩
theorem ti56 : TI.ok 56 ⟨false, false, 1, [.slice none 0 0], [], none, some 60, 24⟩ := ⟨by kernel_rfl, by kernel_rfl, by kernel_rfl, by kernel_rfl, by kernel_rfl, by kernel_rfl, by rfl, by rfl, by decide⟩
theorem ti58 : TI.ok 58 ⟨true, true, 2, [.int .i64 0, .slice none 0 0], [(0, 1, false), (1, 1, false)], none, none, 32⟩ := ⟨by kernel_rfl, by kernel_rfl, by kernel_rfl, by kernel_rfl, by kernel_rfl, by kernel_rfl, by rfl, by rfl, by decide⟩
theorem ti60 : TI.ok 60 ⟨true, true, 4, [.int .i64 0, .int .i64 0, .int .i64 0, .slice none 0 0], [(0, 1, false), (1, 1, false), (2, 1, false), (3, 1, false)], none, none, 48⟩ := ⟨by kernel_rfl, by kernel_rfl, by kernel_rfl, by kernel_rfl, by kernel_rfl, by kernel_rfl, by rfl, by rfl, by decide⟩
theorem ti67 : TI.ok 67 ⟨true, true, 3, [.int .i64 0, .slice none 0 0, .slice none 0 0], [(0, 1, false), (1, 1, false), (2, 1, false)], none, none, 56⟩ := ⟨by kernel_rfl, by kernel_rfl, by kernel_rfl, by kernel_rfl, by kernel_rfl, by kernel_rfl, by rfl, by rfl, by decide⟩
theorem ti75 : TI.ok 75 ⟨false, false, 1, [.slice none 0 0], [], none, some 78, 24⟩ := ⟨by kernel_rfl, by kernel_rfl, by kernel_rfl, by kernel_rfl, by kernel_rfl, by kernel_rfl, by rfl, by rfl, by decide⟩
theorem ti77 : TI.ok 77 ⟨true, true, 4, [.int .i64 0, .int .i64 0, .slice none 0 0, .slice none 0 0], [(0, 1, false), (1, 1, false), (2, 1, false), (3, 1, false)], none, none, 64⟩ := ⟨by kernel_rfl, by kernel_rfl, by kernel_rfl, by kernel_rfl, by kernel_rfl, by kernel_rfl, by rfl, by rfl, by decide⟩
theorem ti78 : TI.ok 78 ⟨false, false, 1, [.slice none 0 0], [], none, some 42, 24⟩ := ⟨by kernel_rfl, by kernel_rfl, by kernel_rfl, by kernel_rfl, by kernel_rfl, by kernel_rfl, by rfl, by rfl, by decide⟩
theorem ti80 : TI.ok 80 ⟨true, true, 4, [.int .i64 0, .int .i64 0, .slice none 0 0, .slice none 0 0], [(0, 1, false), (1, 1, false), (2, 1, false), (3, 1, false)], none, none, 64⟩ := ⟨by kernel_rfl, by kernel_rfl, by kernel_rfl, by kernel_rfl, by kernel_rfl, by kernel_rfl, by rfl, by rfl, by decide⟩
theorem ti88 : TI.ok 88 ⟨true, true, 3, [.int .i64 0, .slice none 0 0, .slice none 0 0], [(0, 1, false), (1, 1, false), (2, 1, false)], none, none, 56⟩ := ⟨by kernel_rfl, by kernel_rfl, by kernel_rfl, by kernel_rfl, by kernel_rfl, by kernel_rfl, by rfl, by rfl, by decide⟩
theorem ti90 : TI.ok 90 ⟨true, true, 3, [.bool false, .slice none 0 0, .slice none 0 0], [(0, 1, false), (1, 1, false), (2, 1, false)], none, none, 56⟩ := ⟨by kernel_rfl, by kernel_rfl, by kernel_rfl, by kernel_rfl, by kernel_rfl, by kernel_rfl, by rfl, by rfl, by decide⟩
theorem ti94 : TI.ok 94 ⟨true, true, 3, [.bool false, .slice none 0 0, .slice none 0 0], [(0, 1, false), (1, 1, false), (2, 1, false)], none, none, 56⟩ := ⟨by kernel_rfl, by kernel_rfl, by kernel_rfl, by kernel_rfl, by kernel_rfl, by kernel_rfl, by rfl, by rfl, by decide⟩
theorem ti98 : TI.ok 98 ⟨false, false, 1, [.slice none 0 0], [], none, some 101, 24⟩ := ⟨by kernel_rfl, by kernel_rfl, by kernel_rfl, by kernel_rfl, by kernel_rfl, by kernel_rfl, by rfl, by rfl, by decide⟩
theorem ti101 : TI.ok 101 ⟨true, true, 2, [.slice none 0 0, .slice none 0 0], [(0, 1, false), (1, 1, false)], none, none, 48⟩ := ⟨by kernel_rfl, by kernel_rfl, by kernel_rfl, by kernel_rfl, by kernel_rfl, by kernel_rfl, by rfl, by rfl, by decide⟩
theorem ti105 : TI.ok 105 ⟨false, false, 1, [.slice none 0 0], [], none, some 110, 24⟩ := ⟨by kernel_rfl, by kernel_rfl, by kernel_rfl, by kernel_rfl, by kernel_rfl, by kernel_rfl, by rfl, by rfl, by decide⟩
theorem ti107 : TI.ok 107 ⟨true, true, 3, [.int .i64 0, .int .i64 0, .slice none 0 0], [(0, 1, false), (1, 1, false), (2, 1, false)], none, none, 40⟩ := ⟨by kernel_rfl, by kernel_rfl, by kernel_rfl, by kernel_rfl, by kernel_rfl, by kernel_rfl, by rfl, by rfl, by decide⟩
theorem ti110 : TI.ok 110 ⟨true, true, 3, [.int .i64 0, .int .i64 0, .int .i64 0], [(0, 1, false), (1, 1, false), (2, 1, false)], none, none, 24⟩ := ⟨by kernel_rfl, by kernel_rfl, by kernel_rfl, by kernel_rfl, by kernel_rfl, by kernel_rfl, by rfl, by rfl, by decide⟩
theorem ti111 : TI.ok 111 ⟨false, false, 1, [.slice none 0 0], [], none, some 114, 24⟩ := ⟨by kernel_rfl, by kernel_rfl, by kernel_rfl, by kernel_rfl, by kernel_rfl, by kernel_rfl, by rfl, by rfl, by decide⟩
theorem ti114 : TI.ok 114 ⟨false, false, 1, [.slice none 0 0], [], none, some 4, 24⟩ := ⟨by kernel_rfl, by kernel_rfl, by kernel_rfl, by kernel_rfl, by kernel_rfl, by kernel_rfl, by rfl, by rfl, by decide⟩
theorem ti118 : TI.ok 118 ⟨true, true, 2, [.int .i64 0, .int .i64 0], [(0, 1, false), (1, 1, false)], none, none, 16⟩ := ⟨by kernel_rfl, by kernel_rfl, by kernel_rfl, by kernel_rfl, by kernel_rfl, by kernel_rfl, by rfl, by rfl, by decide⟩
theorem ti123 : TI.ok 123 ⟨true, true, 3, [.int .i64 0, .slice none 0 0, .bool false], [(0, 1, false), (1, 1, false), (2, 1, false)], none, none, 40⟩ := ⟨by kernel_rfl, by kernel_rfl, by kernel_rfl, by kernel_rfl, by kernel_rfl, by kernel_rfl, by rfl, by rfl, by decide⟩
theorem ti134 : TI.ok 134 ⟨true, true, 4, [.slice none 0 0, .slice none 0 0, .slice none 0 0, .slice none 0 0], [(0, 1, false), (1, 1, false), (2, 1, false), (3, 1, false)], none, none, 96⟩ := ⟨by kernel_rfl, by kernel_rfl, by kernel_rfl, by kernel_rfl, by kernel_rfl, by kernel_rfl, by rfl, by rfl, by decide⟩
theorem ti135 : TI.ok 135 ⟨false, false, 1, [.nilFunc], [], none, none, 8⟩ := ⟨by kernel_rfl, by kernel_rfl, by kernel_rfl, by kernel_rfl, by kernel_rfl, by kernel_rfl, by rfl, by rfl, by decide⟩
theorem ti142 : TI.ok 142 ⟨false, false, 1, [.slice none 0 0], [], none, some 146, 24⟩ := ⟨by kernel_rfl, by kernel_rfl, by kernel_rfl, by kernel_rfl, by kernel_rfl, by kernel_rfl, by rfl, by rfl, by decide⟩
theorem ti144 : TI.ok 144 ⟨false, false, 1, [.slice none 0 0], [], none, some 149, 24⟩ := ⟨by kernel_rfl, by kernel_rfl, by kernel_rfl, by kernel_rfl, by kernel_rfl, by kernel_rfl, by rfl, by rfl, by decide⟩
theorem ti146 : TI.ok 146 ⟨true, true, 3, [.int .i64 0, .int .i64 0, .slice none 0 0], [(0, 1, false), (1, 1, false), (2, 1, false)], none, none, 40⟩ := ⟨by kernel_rfl, by kernel_rfl, by kernel_rfl, by kernel_rfl, by kernel_rfl, by kernel_rfl, by rfl, by rfl, by decide⟩
theorem ti149 : TI.ok 149 ⟨true, true, 3, [.int .i64 0, .int .i64 0, .int .i64 0], [(0, 1, false), (1, 1, false), (2, 1, false)], none, none, 24⟩ := ⟨by kernel_rfl, by kernel_rfl, by kernel_rfl, by kernel_rfl, by kernel_rfl, by kernel_rfl, by rfl, by rfl, by decide⟩
theorem ti153 : TI.ok 153 ⟨false, false, 1, [.map none], [], none, none, 8⟩ := ⟨by kernel_rfl, by kernel_rfl, by kernel_rfl, by kernel_rfl, by kernel_rfl, by kernel_rfl, by rfl, by rfl, by decide⟩
theorem ti157 : TI.ok 157 ⟨false, false, 1, [.slice none 0 0], [], none, some 67, 24⟩ := ⟨by kernel_rfl, by kernel_rfl, by kernel_rfl, by kernel_rfl, by kernel_rfl, by kernel_rfl, by rfl, by rfl, by decide⟩
theorem ti158 : TI.ok 158 ⟨true, false, 2, [.int .i64 0, .int .i64 0], [(0, 1, false), (1, 1, false)], none, none, 16⟩ := ⟨by kernel_rfl, by kernel_rfl, by kernel_rfl, by kernel_rfl, by kernel_rfl, by kernel_rfl, by rfl, by rfl, by decide⟩
theorem ti159 : TI.ok 159 ⟨false, false, 1, [.map none], [], none, none, 8⟩ := ⟨by kernel_rfl, by kernel_rfl, by kernel_rfl, by kernel_rfl, by kernel_rfl, by kernel_rfl, by rfl, by rfl, by decide⟩
theorem ti161 : TI.ok 161 ⟨true, true, 3, [.int .i64 0, .int .i64 0, .int .i64 0], [(0, 1, false), (1, 1, false), (2, 1, false)], none, none, 24⟩ := ⟨by kernel_rfl, by kernel_rfl, by kernel_rfl, by kernel_rfl, by kernel_rfl, by kernel_rfl, by rfl, by rfl, by decide⟩
theorem ti162 : TI.ok 162 ⟨false, false, 1, [.slice none 0 0], [], none, some 161, 24⟩ := ⟨by kernel_rfl, by kernel_rfl, by kernel_rfl, by kernel_rfl, by kernel_rfl, by kernel_rfl, by rfl, by rfl, by decide⟩
theorem ti177 : TI.ok 177 ⟨true, true, 9, [.int .i64 0, .slice none 0 0, .slice none 0 0, .map none, .slice none 0 0, .slice none 0 0, .bool false, .slice none 0 0, .slice none 0 0], [(0, 3, true), (3, 1, false), (4, 1, false), (5, 1, false), (6, 3, true)], none, none, 168⟩ := ⟨by kernel_rfl, by kernel_rfl, by kernel_rfl, by kernel_rfl, by kernel_rfl, by kernel_rfl, by rfl, by rfl, by decide⟩
theorem ti179 : TI.ok 179 ⟨true, true, 3, [.slice none 0 0, .int .i64 0, .int .i64 0], [(0, 1, false), (1, 1, false), (2, 1, false)], none, none, 40⟩ := ⟨by kernel_rfl, by kernel_rfl, by kernel_rfl, by kernel_rfl, by kernel_rfl, by kernel_rfl, by rfl, by rfl, by decide⟩
theorem ti180 : TI.ok 180 ⟨false, false, 1, [.slice none 0 0], [], none, some 179, 24⟩ := ⟨by kernel_rfl, by kernel_rfl, by kernel_rfl, by kernel_rfl, by kernel_rfl, by kernel_rfl, by rfl, by rfl, by decide⟩
theorem ti191 : TI.ok 191 ⟨false, false, 1, [.nilFunc], [], none, none, 8⟩ := ⟨by kernel_rfl, by kernel_rfl, by kernel_rfl, by kernel_rfl, by kernel_rfl, by kernel_rfl, by rfl, by rfl, by decide⟩
theorem ti192 : TI.ok 192 ⟨false, false, 1, [.slice none 0 0], [], none, some 196, 24⟩ := ⟨by kernel_rfl, by kernel_rfl, by kernel_rfl, by kernel_rfl, by kernel_rfl, by kernel_rfl, by rfl, by rfl, by decide⟩
theorem ti196 : TI.ok 196 ⟨true, true, 3, [.int .i64 0, .int .i64 0, .int .i64 0], [(0, 1, false), (1, 1, false), (2, 1, false)], none, none, 24⟩ := ⟨by kernel_rfl, by kernel_rfl, by kernel_rfl, by kernel_rfl, by kernel_rfl, by kernel_rfl, by rfl, by rfl, by decide⟩
theorem ti198 : TI.ok 198 ⟨false, false, 1, [.nilFunc], [], none, none, 8⟩ := ⟨by kernel_rfl, by kernel_rfl, by kernel_rfl, by kernel_rfl, by kernel_rfl, by kernel_rfl, by rfl, by rfl, by decide⟩
theorem ti201 : TI.ok 201 ⟨false, false, 1, [.map none], [], none, none, 8⟩ := ⟨by kernel_rfl, by kernel_rfl, by kernel_rfl, by kernel_rfl, by kernel_rfl, by kernel_rfl, by rfl, by rfl, by decide⟩
theorem ti204 : TI.ok 204 ⟨true, true, 2, [.int .i64 0, .int .i64 0], [(0, 1, false), (1, 1, false)], none, none, 16⟩ := ⟨by kernel_rfl, by kernel_rfl, by kernel_rfl, by kernel_rfl, by kernel_rfl, by kernel_rfl, by rfl, by rfl, by decide⟩
theorem ti205 : TI.ok 205 ⟨true, false, 2, [.slice none 0 0, .slice none 0 0], [(0, 1, false), (1, 1, false)], none, none, 48⟩ := ⟨by kernel_rfl, by kernel_rfl, by kernel_rfl, by kernel_rfl, by kernel_rfl, by kernel_rfl, by rfl, by rfl, by decide⟩
theorem ti209 : TI.ok 209 ⟨false, false, 1, [.slice none 0 0], [], none, some 134, 24⟩ := ⟨by kernel_rfl, by kernel_rfl, by kernel_rfl, by kernel_rfl, by kernel_rfl, by kernel_rfl, by rfl, by rfl, by decide⟩
theorem ti213 : TI.ok 213 ⟨false, false, 1, [.slice none 0 0], [], none, some 58, 24⟩ := ⟨by kernel_rfl, by kernel_rfl, by kernel_rfl, by kernel_rfl, by kernel_rfl, by kernel_rfl, by rfl, by rfl, by decide⟩
theorem ti214 : TI.ok 214 ⟨false, false, 1, [.map none], [], none, none, 8⟩ := ⟨by kernel_rfl, by kernel_rfl, by kernel_rfl, by kernel_rfl, by kernel_rfl, by kernel_rfl, by rfl, by rfl, by decide⟩
theorem ti216 : TI.ok 216 ⟨true, true, 3, [.int .i64 0, .slice none 0 0, .map none], [(0, 2, true), (2, 1, false)], none, none, 40⟩ := ⟨by kernel_rfl, by kernel_rfl, by kernel_rfl, by kernel_rfl, by kernel_rfl, by kernel_rfl, by rfl, by rfl, by decide⟩
theorem ti218 : TI.ok 218 ⟨true, true, 3, [.int .i64 0, .int .i64 0, .slice none 0 0], [(0, 1, false), (1, 1, false), (2, 1, false)], none, none, 40⟩ := ⟨by kernel_rfl, by kernel_rfl, by kernel_rfl, by kernel_rfl, by kernel_rfl, by kernel_rfl, by rfl, by rfl, by decide⟩
theorem ti220 : TI.ok 220 ⟨false, false, 1, [.map none], [], none, none, 8⟩ := ⟨by kernel_rfl, by kernel_rfl, by kernel_rfl, by kernel_rfl, by kernel_rfl, by kernel_rfl, by rfl, by rfl, by decide⟩
theorem ti225 : TI.ok 225 ⟨false, false, 1, [.slice none 0 0], [], none, some 5, 24⟩ := ⟨by kernel_rfl, by kernel_rfl, by kernel_rfl, by kernel_rfl, by kernel_rfl, by kernel_rfl, by rfl, by rfl, by decide⟩
theorem ti226 : TI.ok 226 ⟨false, false, 1, [.int .u64 0], [], some .u64, none, 8⟩ := ⟨by kernel_rfl, by kernel_rfl, by kernel_rfl, by kernel_rfl, by kernel_rfl, by kernel_rfl, by rfl, by rfl, by decide⟩
theorem ti229 : TI.ok 229 ⟨false, false, 1, [.map none], [], none, none, 8⟩ := ⟨by kernel_rfl, by kernel_rfl, by kernel_rfl, by kernel_rfl, by kernel_rfl, by kernel_rfl, by rfl, by rfl, by decide⟩
theorem ti244 : TI.ok 244 ⟨true, true, 2, [.int .i64 0, .int .i64 0], [(0, 2, true)], none, none, 16⟩ := ⟨by kernel_rfl, by kernel_rfl, by kernel_rfl, by kernel_rfl, by kernel_rfl, by kernel_rfl, by rfl, by rfl, by decide⟩
theorem ti247 : TI.ok 247 ⟨true, true, 6, [.string ByteArray.empty, .int .i64 0, .int .i64 0, .int .i64 0, .int .i64 0, .slice none 0 0], [(0, 1, false), (1, 1, false), (2, 1, false), (3, 1, false), (4, 1, false), (5, 1, false)], none, none, 72⟩ := ⟨by kernel_rfl, by kernel_rfl, by kernel_rfl, by kernel_rfl, by kernel_rfl, by kernel_rfl, by rfl, by rfl, by decide⟩
theorem ti253 : TI.ok 253 ⟨true, true, 2, [.int .i64 0, .int .i64 0], [(0, 1, false), (1, 1, false)], none, none, 16⟩ := ⟨by kernel_rfl, by kernel_rfl, by kernel_rfl, by kernel_rfl, by kernel_rfl, by kernel_rfl, by rfl, by rfl, by decide⟩
theorem ti258 : TI.ok 258 ⟨false, false, 1, [.map none], [], none, none, 8⟩ := ⟨by kernel_rfl, by kernel_rfl, by kernel_rfl, by kernel_rfl, by kernel_rfl, by kernel_rfl, by rfl, by rfl, by decide⟩
theorem ti260 : TI.ok 260 ⟨true, true, 2, [.int .i64 0, .string ByteArray.empty], [(0, 1, false), (1, 1, false)], none, none, 24⟩ := ⟨by kernel_rfl, by kernel_rfl, by kernel_rfl, by kernel_rfl, by kernel_rfl, by kernel_rfl, by rfl, by rfl, by decide⟩
theorem ti264 : TI.ok 264 ⟨false, false, 1, [.int .u32 0], [], some .u32, none, 4⟩ := ⟨by kernel_rfl, by kernel_rfl, by kernel_rfl, by kernel_rfl, by kernel_rfl, by kernel_rfl, by rfl, by rfl, by decide⟩
theorem ti267 : TI.ok 267 ⟨false, false, 1, [.int .u64 0], [], some .u64, none, 8⟩ := ⟨by kernel_rfl, by kernel_rfl, by kernel_rfl, by kernel_rfl, by kernel_rfl, by kernel_rfl, by rfl, by rfl, by decide⟩
theorem tab_ok : tab.ok := tabL_ok fun x hx => by
  simp only [tabs, List.mem_cons, List.not_mem_nil, or_false] at hx
  rcases hx with rfl | rfl | rfl | rfl | rfl | rfl | rfl | rfl | rfl | rfl | rfl | rfl | rfl | rfl | rfl | rfl | rfl | rfl | rfl | rfl | rfl | rfl | rfl | rfl | rfl | rfl | rfl | rfl | rfl | rfl | rfl | rfl | rfl | rfl | rfl | rfl | rfl | rfl | rfl | rfl | rfl | rfl | rfl | rfl | rfl | rfl | rfl | rfl | rfl | rfl | rfl | rfl | rfl | rfl | rfl | rfl | rfl | rfl | rfl | rfl | rfl | rfl | rfl | rfl | rfl | rfl | rfl | rfl | rfl | rfl
  · exact ti3
  · exact ti4
  · exact ti5
  · exact ti22
  · exact ti23
  · exact ti25
  · exact ti27
  · exact ti28
  · exact ti29
  · exact ti34
  · exact ti42
  · exact ti44
  · exact ti56
  · exact ti58
  · exact ti60
  · exact ti67
  · exact ti75
  · exact ti77
  · exact ti78
  · exact ti80
  · exact ti88
  · exact ti90
  · exact ti94
  · exact ti98
  · exact ti101
  · exact ti105
  · exact ti107
  · exact ti110
  · exact ti111
  · exact ti114
  · exact ti118
  · exact ti123
  · exact ti134
  · exact ti135
  · exact ti142
  · exact ti144
  · exact ti146
  · exact ti149
  · exact ti153
  · exact ti157
  · exact ti158
  · exact ti159
  · exact ti161
  · exact ti162
  · exact ti177
  · exact ti179
  · exact ti180
  · exact ti191
  · exact ti192
  · exact ti196
  · exact ti198
  · exact ti201
  · exact ti204
  · exact ti205
  · exact ti209
  · exact ti213
  · exact ti214
  · exact ti216
  · exact ti218
  · exact ti220
  · exact ti225
  · exact ti226
  · exact ti229
  · exact ti244
  · exact ti247
  · exact ti253
  · exact ti258
  · exact ti260
  · exact ti264
  · exact ti267
theorem keyS9 : KeyLaw 9 encS where
  check := fun b a w => by unfold encS; kernel_rfl
  bits := fun a => by unfold encS; simp [Instr.sameBits, beq_bytes]
  now := ⟨_, Try.underlying9, .inr fun a b => by simp [Instr.sameNow, encS, beq_bytes]⟩
  equal := fun a b w => by
    unfold encS
    have hu := run_underlying Try.underlying9 w
    show (Op.equalIn (9999 + 1) _ _ _).run _ _ = _
    rw [Op.equalIn]
    simp only [Sem.run_bind, hu, Result.andThen_ok, Sem.run_pure, beq_bytes]
def St158.enc (k : St158) : Value := .agg #[.int .i64 k.fE0, .int .i64 k.fE1]
theorem St158.part0 (x0 : Int) (x1 : Int) (w : World) : (Go.part 3 #[.int .i64 x0, .int .i64 x1] 0).run Try.prog w = .ok (.int .i64 x0) w := by kernel_rfl
theorem St158.part1 (x0 : Int) (x1 : Int) (w : World) : (Go.part 3 #[.int .i64 x0, .int .i64 x1] 1).run Try.prog w = .ok (.int .i64 x1) w := by kernel_rfl
theorem St158.eq3 (x y : Int) (n : Nat) (w : World) : (Op.equalIn (n + 1) 3 (.int .i64 x) (.int .i64 y)).run Try.prog w = .ok (x == y) w := by
  have hu := run_underlying Try.underlying3 w
  simp only [Op.equalIn, Sem.run_bind, hu, Result.andThen_ok, if_true, Sem.run_pure]
theorem St158.keyLaw : KeyLaw 158 St158.enc where
  check := fun b a w => by unfold St158.enc; kernel_rfl
  bits := fun a => by unfold St158.enc; simp [Instr.sameBits, beq_bytes]
  now := ⟨_, Try.underlying158, .inl fun a b => rfl⟩
  equal := fun a b w => by
    unfold St158.enc
    have hu := run_underlying Try.underlying158 w
    have hsz : ∀ w, (sizeOf 3).run Try.prog w = .ok 1 w := fun w => by kernel_rfl
    have hr : List.range' 0 2 = [0, 1] := rfl
    show (Op.equalIn (9999 + 1) _ _ _).run _ _ = _
    rw [Op.equalIn]
    simp only [Sem.run_bind, hu, Result.andThen_ok]
    simp [Go.program, Sem.run, hsz, hr, St158.part0, St158.part1, St158.eq3]
    rcases a with ⟨a0, a1⟩
    rcases b with ⟨b0, b1⟩
    by_cases h0 : a0 = b0 <;> by_cases h1 : a1 = b1 <;> simp [h0, h1]
def TimedSpot.enc (k : TimedSpot) : Value := .agg #[.int .i64 k.fPlace, .int .i64 k.fClock]
theorem TimedSpot.part0 (x0 : Int) (x1 : Int) (w : World) : (Go.part 3 #[.int .i64 x0, .int .i64 x1] 0).run Try.prog w = .ok (.int .i64 x0) w := by kernel_rfl
theorem TimedSpot.part1 (x0 : Int) (x1 : Int) (w : World) : (Go.part 3 #[.int .i64 x0, .int .i64 x1] 1).run Try.prog w = .ok (.int .i64 x1) w := by kernel_rfl
theorem TimedSpot.eq3 (x y : Int) (n : Nat) (w : World) : (Op.equalIn (n + 1) 3 (.int .i64 x) (.int .i64 y)).run Try.prog w = .ok (x == y) w := by
  have hu := run_underlying Try.underlying3 w
  simp only [Op.equalIn, Sem.run_bind, hu, Result.andThen_ok, if_true, Sem.run_pure]
theorem TimedSpot.keyLaw : KeyLaw 204 TimedSpot.enc where
  check := fun b a w => by unfold TimedSpot.enc; kernel_rfl
  bits := fun a => by unfold TimedSpot.enc; simp [Instr.sameBits, beq_bytes]
  now := ⟨_, Try.underlying204, .inl fun a b => rfl⟩
  equal := fun a b w => by
    unfold TimedSpot.enc
    have hu := run_underlying Try.underlying204 w
    have hst : Try.prog.stoodInHeld 204 = false := by kernel_rfl
    show (Op.equalIn (9999 + 1) _ _ _).run _ _ = _
    rw [Op.equalIn]
    simp only [Sem.run_bind, hu, Result.andThen_ok]
    simp [Go.program, Sem.run, hst, TimedSpot.part0, TimedSpot.part1, TimedSpot.eq3]
    rcases a with ⟨a0, a1⟩
    rcases b with ⟨b0, b1⟩
    by_cases h0 : a0 = b0 <;> by_cases h1 : a1 = b1 <;> simp [h0, h1]
def StackEdge.enc (k : StackEdge) : Value := .agg #[.int .i64 k.fFrom, .int .i64 k.fSign, .int .i64 k.fTo]
theorem StackEdge.part0 (x0 : Int) (x1 : Int) (x2 : Int) (w : World) : (Go.part 3 #[.int .i64 x0, .int .i64 x1, .int .i64 x2] 0).run Try.prog w = .ok (.int .i64 x0) w := by kernel_rfl
theorem StackEdge.part1 (x0 : Int) (x1 : Int) (x2 : Int) (w : World) : (Go.part 3 #[.int .i64 x0, .int .i64 x1, .int .i64 x2] 1).run Try.prog w = .ok (.int .i64 x1) w := by kernel_rfl
theorem StackEdge.part2 (x0 : Int) (x1 : Int) (x2 : Int) (w : World) : (Go.part 3 #[.int .i64 x0, .int .i64 x1, .int .i64 x2] 2).run Try.prog w = .ok (.int .i64 x2) w := by kernel_rfl
theorem StackEdge.eq3 (x y : Int) (n : Nat) (w : World) : (Op.equalIn (n + 1) 3 (.int .i64 x) (.int .i64 y)).run Try.prog w = .ok (x == y) w := by
  have hu := run_underlying Try.underlying3 w
  simp only [Op.equalIn, Sem.run_bind, hu, Result.andThen_ok, if_true, Sem.run_pure]
theorem StackEdge.keyLaw : KeyLaw 149 StackEdge.enc where
  check := fun b a w => by unfold StackEdge.enc; kernel_rfl
  bits := fun a => by unfold StackEdge.enc; simp [Instr.sameBits, beq_bytes]
  now := ⟨_, Try.underlying149, .inl fun a b => rfl⟩
  equal := fun a b w => by
    unfold StackEdge.enc
    have hu := run_underlying Try.underlying149 w
    have hst : Try.prog.stoodInHeld 149 = false := by kernel_rfl
    show (Op.equalIn (9999 + 1) _ _ _).run _ _ = _
    rw [Op.equalIn]
    simp only [Sem.run_bind, hu, Result.andThen_ok]
    simp [Go.program, Sem.run, hst, StackEdge.part0, StackEdge.part1, StackEdge.part2, StackEdge.eq3]
    rcases a with ⟨a0, a1, a2⟩
    rcases b with ⟨b0, b1, b2⟩
    by_cases h0 : a0 = b0 <;> by_cases h1 : a1 = b1 <;> by_cases h2 : a2 = b2 <;> simp [h0, h1, h2]
def DetSplit.enc (k : DetSplit) : Value := .agg #[.int .i64 k.fOwn, .string k.fNext]
theorem DetSplit.part0 (x0 : Int) (x1 : ByteArray) (w : World) : (Go.part 3 #[.int .i64 x0, .string x1] 0).run Try.prog w = .ok (.int .i64 x0) w := by kernel_rfl
theorem DetSplit.part1 (x0 : Int) (x1 : ByteArray) (w : World) : (Go.part 9 #[.int .i64 x0, .string x1] 1).run Try.prog w = .ok (.string x1) w := by kernel_rfl
theorem DetSplit.eq3 (x y : Int) (n : Nat) (w : World) : (Op.equalIn (n + 1) 3 (.int .i64 x) (.int .i64 y)).run Try.prog w = .ok (x == y) w := by
  have hu := run_underlying Try.underlying3 w
  simp only [Op.equalIn, Sem.run_bind, hu, Result.andThen_ok, if_true, Sem.run_pure]
theorem DetSplit.eq9 (x y : ByteArray) (n : Nat) (w : World) : (Op.equalIn (n + 1) 9 (.string x) (.string y)).run Try.prog w = .ok (decide (x = y)) w := by
  have hu := run_underlying Try.underlying9 w
  simp only [Op.equalIn, Sem.run_bind, hu, Result.andThen_ok, Sem.run_pure, beq_bytes]
theorem DetSplit.keyLaw : KeyLaw 260 DetSplit.enc where
  check := fun b a w => by unfold DetSplit.enc; kernel_rfl
  bits := fun a => by unfold DetSplit.enc; simp [Instr.sameBits, beq_bytes]
  now := ⟨_, Try.underlying260, .inl fun a b => rfl⟩
  equal := fun a b w => by
    unfold DetSplit.enc
    have hu := run_underlying Try.underlying260 w
    have hst : Try.prog.stoodInHeld 260 = false := by kernel_rfl
    show (Op.equalIn (9999 + 1) _ _ _).run _ _ = _
    rw [Op.equalIn]
    simp only [Sem.run_bind, hu, Result.andThen_ok]
    simp [Go.program, Sem.run, hst, DetSplit.part0, DetSplit.part1, DetSplit.eq3, DetSplit.eq9]
    rcases a with ⟨a0, a1⟩
    rcases b with ⟨b0, b1⟩
    by_cases h0 : a0 = b0 <;> by_cases h1 : a1 = b1 <;> simp [h0, h1]
end Go.Proofs.Ytfpdnigihjmohaa

/- The mirrors of det.Explore and det.Classes. No condition. -/
namespace Go.Proofs.Ytfpdnigihjmohaa
open Go.RowKit Go.MapKept
set_option linter.unusedSimpArgs false
set_option linter.unusedVariables false
set_option maxRecDepth 100000

def cloneInt_vc (l : (List Int)) (Q : (List Int) → Prop) : Prop :=
  l.length ≤ 9223372036854775807 →
  (∀ isnil : Bool, (isnil = true → l = []) →
  (IfP (isnil != false) (Q []) (capOk ([] : (List Int)).length (l : (List Int)).length 8 ∧
  Q (([] : (List Int)) ++ l))))
theorem cloneInt_walk (l : (List Int)) (Q : (List Int) → Prop) (h : cloneInt_vc l Q) : CtJ 47 [.sv (.one (LS intT l))] [] Q (fun (r : (List Int)) => rowI 3 intT r) := by
  have ht := tab_ok
  refine CtJ.body Try.func47 rfl rfl rfl rfl (fun c hn hmay => ?_)
  unfold cloneInt_vc at h
  refine En.lenL 0 (by rfl) (fun hl => ?_)
  replace h := h hl
  clear hl
  refine En.seq ?_
  refine En.region ?_
  refine WL.run ht hn 1 ⟨[(0, .sv (.one (LS intT l)))], []⟩ (by kernel_rfl) ?_
  refine WL.nil ?_
  refine En.seq ?_
  refine En.seq ?_
  refine En.region ?_
  refine WL.run ht hn 1 ⟨[(0, .sv (.one (LS intT l))), (3, .sv (.one (LS intT l)))], []⟩ (by kernel_rfl) ?_
  refine WL.eqNil (T := intT) (l := l) .eql false (by simp) ht hn (by rfl) rfl (by rfl) (by rfl) (by rfl) rfl (by rfl) (fun isnil hisnil => ?_)
  replace h := h isnil hisnil
  clear hisnil
  refine WL.nil ?_
  refine En.cond (b := (isnil != false)) (by kernel_rfl) (fun hb => ?_) (fun hb => ?_)
  · replace h := h.1 hb
    refine En.seq ?_
    refine En.region ?_
    refine WL.run ht hn 1 ⟨[(2, .sv (.one (.v (.slice none 0 0))))], []⟩ (by kernel_rfl) ?_
    refine WL.nil ?_
    refine En.ret ?_
    exact En.backN (by rfl) h
  · replace h := h.2 hb
    refine En.skip ?_
    refine En.seq ?_
    refine En.region ?_
    refine WL.mt0 (K := []) (p := some (0, rowI 3 intT ([] : (List Int)))) hn (by rfl) (mt_empty intT 0 ht rfl (by rfl) (by rfl) (by rfl)) (by rfl) (by rfl) (by rfl) ?_
    refine WL.run ht hn 1 ⟨[(5, .sv (.one (.own 0))), (6, .sv (.one (LS intT l)))], [rowI 3 intT ([] : (List Int))]⟩ (by kernel_rfl) ?_
    have hp := h.1
    replace h := h.2
    refine WL.mt (S2 := ⟨[(6, .sv (.one (LS intT l)))], [rowI 3 intT ([] : (List Int))]⟩) (K := [0]) (p := some (0, rowI 3 intT (([] : (List Int)) ++ l))) hn (by rfl) (mt_append (T := intT) (l := ([] : (List Int))) (es := l) ht rfl (by rfl) (by rfl) (by rfl) (by rfl) (by decide) (by rfl) (by rfl) (srcLS (T := intT) (es := l) (fun _ h => by cases h) (by decide) (by rfl)) (by exact hp) (by exact hp.le (by decide))) (by kernel_rfl) (by rfl) (by rfl) (by rfl) ?_
    refine WL.run ht hn 1 ⟨[(2, .sv (.one (.own 0)))], [rowI 3 intT (([] : (List Int)) ++ l)]⟩ (by kernel_rfl) ?_
    refine WL.nil ?_
    refine En.ret ?_
    exact En.backJ (itf := fun l => rowI 3 intT l) hmay (by rfl) (by rfl) rfl rfl h
theorem en47 : ∀ args w, (callFunc 47 args).run Try.prog w = .ok (.enter 47 args) w := enters_of Try.func47 (by kernel_rfl) rfl
theorem cloneInt_ct (l : List Int) (hp : l.length * 8 ≤ 140737488355328) : CtI 47 [.sv (.one (LS intT l))] [] (rowI 3 intT l) := by
  refine (cloneInt_walk l (fun r => r = l) ?_).fun
  unfold cloneInt_vc
  refine fun _ isnil h => ⟨fun hb => (h (by simpa using hb)).symm, fun _ => ⟨?_, by simp⟩⟩
  unfold capOk
  simpa using hp
end Go.Proofs.Ytfpdnigihjmohaa

/- The plain law of exploring: automata of keys, numbered as they are found; the one automaton of a language. No condition. -/
namespace Go.Proofs.Ytfpdnigihjmohaa
open Go.RowKit Go.MapKept
set_option linter.unusedSimpArgs false
set_option linter.unusedVariables false
set_option maxRecDepth 100000
set_option linter.unusedSectionVars false

theorem nodup_le {α : Type} : ∀ {l m : List α}, l.Nodup → (∀ x ∈ l, x ∈ m) → l.length ≤ m.length
  | [], _, _, _ => Nat.zero_le _
  | x :: l, m, hn, h => by
    rw [List.nodup_cons] at hn
    obtain ⟨s, t, rfl⟩ := List.append_of_mem (h x List.mem_cons_self)
    have := nodup_le (l := l) (m := s ++ t) hn.2 fun y hy => by
      have h1 := h y (List.mem_cons_of_mem _ hy)
      rw [List.mem_append, List.mem_cons] at h1
      rw [List.mem_append]
      rcases h1 with h1 | rfl | h1
      · exact .inl h1
      · exact absurd hy hn.1
      · exact .inr h1
    simp only [List.length_append, List.length_cons] at this ⊢
    omega
theorem idxOf_left {α : Type} [DecidableEq α] {x : α} : ∀ {l r : List α}, x ∈ l → (l ++ r).idxOf x = l.idxOf x
  | [], _, h => by simp at h
  | y :: l, r, h => by
    rw [List.cons_append, List.idxOf_cons, List.idxOf_cons]
    by_cases e : y = x
    · simp [e]
    · have hm : x ∈ l := by
        rcases List.mem_cons.1 h with h | h
        · exact absurd h.symm e
        · exact h
      simp [e, idxOf_left (r := r) hm]
section
variable {K : Type} [DecidableEq K]
variable {go : K → Nat → K} {mark : K → Int} {L : Nat} {k0 : K} {P : K → Prop}
section
variable {K' : Type} [DecidableEq K'] {go' : K' → Nat → K'} {mark' : K' → Int} {φ : K → K'}
end
end
/-- what is said of words -/
abbrev Lang := List Nat → Int
noncomputable instance langDec : DecidableEq Lang := fun _ _ => Classical.propDecidable _
/-- of words of L letters alone -/
def rs (L : Nat) (r : Lang) : Lang := fun w => if ∀ a ∈ w, a < L then r w else 0
theorem rs_congr {L : Nat} {r s : Lang} (h : ∀ w, (∀ a ∈ w, a < L) → r w = s w) : rs L r = rs L s := by
  funext w
  unfold rs
  split
  · rename_i hw
    exact h w hw
  · rfl
theorem rs_at {L : Nat} {r s : Lang} (h : rs L r = rs L s) {w : List Nat} (hw : ∀ a ∈ w, a < L) : r w = s w := by
  have := congrFun h w
  unfold rs at this
  rw [if_pos hw, if_pos hw] at this
  exact this
section
variable {K : Type} [DecidableEq K] {go : K → Nat → K} {mark : K → Int} {L : Nat} {k0 : K} {P : K → Prop}
end
def stepD (d : ApiDet) (q : Nat) (a : Nat) : Nat := ((d.fNext.getD q []).getD a 0).toNat
/-- what an automaton says of words, from a state on -/
def langD (d : ApiDet) (q : Nat) : Lang := fun w => d.fMark.getD (w.foldl (stepD d) q) 0
section
variable {K : Type} [DecidableEq K] {go : K → Nat → K} {mark : K → Int} {L : Nat} {k0 : K} {P : K → Prop}
end
/-- an automaton that may be, but for its marks -/
structure Wf (d : ApiDet) : Prop where
  letters : 0 ≤ d.fLetters
  rows : ∀ r ∈ d.fNext, r.length = d.fLetters.toNat
  next : ∀ r ∈ d.fNext, ∀ x ∈ r, 0 ≤ x ∧ x < (d.fNext.length : Int)
  start : 0 ≤ d.fStart ∧ d.fStart < (d.fNext.length : Int)
  mark : d.fMark.length = d.fNext.length
section
variable {K : Type} [DecidableEq K] {go : K → Nat → K} {mark : K → Int} {L : Nat} {k0 : K} {P : K → Prop}
end
end Go.Proofs.Ytfpdnigihjmohaa

/- The plain law of det.Explore's mirror: what it hands back. No condition. -/
namespace Go.Proofs.Ytfpdnigihjmohaa
open Go.RowKit Go.MapKept
set_option linter.unusedSimpArgs false
set_option linter.unusedVariables false
set_option maxRecDepth 100000
set_option linter.unusedSectionVars false

section
variable {K : Type} [DecidableEq K] {go : K → Nat → K} {mark : K → Int} {L : Nat} {k0 : K} {P : K → Prop}
/-- a map that numbers keys as a list does -/
def MapOf (m : List (K × Int)) (l : List K) : Prop := ∀ k, mget k m = if k ∈ l then some (l.idxOf k : Int) else none
theorem MapOf.one : MapOf (mput k0 0 ([] : List (K × Int))) [k0] := fun k => by
  rw [mget_put]
  by_cases h : k = k0
  · subst h; simp
  · simp [h, mget]
theorem idxOf_last {l : List K} {k : K} (h : k ∉ l) : (l ++ [k]).idxOf k = l.length := by
  induction l with
  | nil => simp
  | cons x l ih =>
    have h1 : x ≠ k := fun e => h (e ▸ List.mem_cons_self)
    have h2 : k ∉ l := fun e => h (List.mem_cons_of_mem _ e)
    rw [List.cons_append, List.idxOf_cons, ih h2, show (x == k) = false by simpa using h1]
    simp
theorem MapOf.push {m : List (K × Int)} {l : List K} (h : MapOf m l) {k : K} (hk : k ∉ l) : MapOf (mput k (l.length : Int) m) (l ++ [k]) := fun q => by
  rw [mget_put]
  by_cases e : q = k
  · subst e
    simp [idxOf_last hk]
  · rw [if_neg e, h q]
    by_cases hq : q ∈ l
    · rw [if_pos hq, if_pos (List.mem_append_left _ hq), idxOf_left hq]
    · rw [if_neg hq, if_neg (by simp [hq, e])]
end
end Go.Proofs.Ytfpdnigihjmohaa

/- The plain law of det.Classes' mirror: classes tell apart what words tell apart. No condition. -/
namespace Go.Proofs.Ytfpdnigihjmohaa
open Go.RowKit Go.MapKept
set_option linter.unusedSimpArgs false
set_option linter.unusedVariables false
set_option maxRecDepth 100000
set_option linter.unusedSectionVars false

/-- a function of the first m numbers onto themselves is one to one -/
theorem onto_inj {m : Nat} {f : Nat → Nat} (hon : ∀ j, j < m → ∃ i, i < m ∧ f i = j) {i j : Nat} (hi : i < m) (hj : j < m) (h : f i = f j) : i = j := by
  refine Decidable.byContradiction fun hne => ?_
  have := nodup_le (l := List.range m) (m := ((List.range m).erase i).map f) List.nodup_range fun x hx => by
    obtain ⟨q, hq, rfl⟩ := hon x (List.mem_range.1 hx)
    rw [List.mem_map]
    by_cases e : q = i
    · subst e
      exact ⟨j, (List.mem_erase_of_ne (fun e => hne e.symm)).2 (List.mem_range.2 hj), h.symm⟩
    · exact ⟨q, (List.mem_erase_of_ne e).2 (List.mem_range.2 hq), rfl⟩
  rw [List.length_range, List.length_map, List.length_erase_of_mem (List.mem_range.2 hi), List.length_range] at this
  omega
theorem onto_le {k m : Nat} {f : Nat → Nat} (hon : ∀ j, j < k → ∃ i, i < m ∧ f i = j) : k ≤ m := by
  have := nodup_le (l := List.range k) (m := (List.range m).map f) List.nodup_range fun x hx => by
    obtain ⟨q, hq, rfl⟩ := hon x (List.mem_range.1 hx)
    exact List.mem_map.2 ⟨q, List.mem_range.2 hq, rfl⟩
  simpa using this
/-- two bytes of a number -/
def two8 (c : Int) : List Int := [c % 256, c / 256 % 256]
theorem two8_inj {c d : Int} (hc : 0 ≤ c ∧ c < 65536) (hd : 0 ≤ d ∧ d < 65536) (h : two8 c = two8 d) : c = d := by
  unfold two8 at h
  simp only [List.cons.injEq] at h
  omega
theorem two8_in {c : Int} : ∀ x ∈ two8 c, 0 ≤ x ∧ x < 256 := by
  intro x hx
  unfold two8 at hx
  simp only [List.mem_cons, List.not_mem_nil, or_false] at hx
  omega
theorem twos_inj : ∀ {l m : List Int}, (∀ x ∈ l, 0 ≤ x ∧ x < 65536) → (∀ x ∈ m, 0 ≤ x ∧ x < 65536) → l.flatMap two8 = m.flatMap two8 → l = m
  | [], [], _, _, _ => rfl
  | [], _ :: _, _, _, h => by simp [two8] at h
  | _ :: _, [], _, _, h => by simp [two8] at h
  | x :: l, y :: m, hl, hm, h => by
    rw [List.flatMap_cons, List.flatMap_cons] at h
    have h1 := List.append_inj h (by simp [two8])
    rw [two8_inj (hl x List.mem_cons_self) (hm y List.mem_cons_self) h1.1, twos_inj (fun z hz => hl z (List.mem_cons_of_mem _ hz)) (fun z hz => hm z (List.mem_cons_of_mem _ hz)) h1.2]
theorem twos_in {l : List Int} : ∀ x ∈ l.flatMap two8, 0 ≤ x ∧ x < 256 := fun x hx => by
  obtain ⟨c, _, h⟩ := List.mem_flatMap.1 hx
  exact two8_in x h
/-- the classes of a row -/
def rowCls (cls : List Int) (r : List Int) : List Int := r.map fun t => cls.getD t.toNat 0
def keyOf (cls : List Int) (q : Nat) (r : List Int) : DetSplit := ⟨cls.getD q 0, bytesOf ((rowCls cls r).flatMap two8)⟩
/-- what one round makes: classes next, m of them, as keys are alike -/
structure RoundOf (N : List (List Int)) (cls next : List Int) (m : Nat) : Prop where
  len : next.length = N.length
  range : ∀ x ∈ next, 0 ≤ x ∧ x < (m : Int)
  onto : ∀ j : Nat, j < m → (j : Int) ∈ next
  same : ∀ (p q : Nat) (r s : List Int) (x y : Int), N[p]? = some r → N[q]? = some s → next[p]? = some x → next[q]? = some y → (x = y ↔ keyOf cls p r = keyOf cls q s)
/-- an automaton whose classes may be asked for -/
structure ClsPre (d : ApiDet) : Prop where
  size : d.fNext.length ≤ 65536
  next : ∀ r ∈ d.fNext, ∀ x ∈ r, 0 ≤ x ∧ x < (d.fNext.length : Int)
  wide : ∀ r ∈ d.fNext, r.length ≤ 1000
  marks : d.fMark.length = d.fNext.length
  small : ∀ x ∈ d.fMark, 0 ≤ x ∧ x < 65536
/-- numbers by keys, in the middle of a round: map m2, and next up to q -/
structure Half (N : List (List Int)) (cls : List Int) (q : Nat) (m2 : List (DetSplit × Int)) (next : List Int) : Prop where
  len : next.length = N.length
  get : ∀ (p : Nat) (r : List Int), p < q → N[p]? = some r → ∃ x : Int, next[p]? = some x ∧ mget (keyOf cls p r) m2 = some x
  range : ∀ (k : DetSplit) (x : Int), mget k m2 = some x → 0 ≤ x ∧ x < (m2.length : Int)
  inj : ∀ (k l : DetSplit) (x : Int), mget k m2 = some x → mget l m2 = some x → k = l
  onto : ∀ j : Nat, j < m2.length → ∃ p : Nat, p < q ∧ next[p]? = some (j : Int)
  size : m2.length ≤ q
theorem mput_length {κ : Type} [DecidableEq κ] {a : κ} {v : Int} : ∀ {D : List (κ × Int)}, mget a D = none → (mput a v D).length = D.length + 1
  | [], _ => rfl
  | x :: D, h => by
    rw [mget] at h
    split at h
    · cases h
    · rename_i e
      rw [mput, if_neg e, List.length_cons, mput_length h, List.length_cons]
theorem Half.start {N : List (List Int)} {cls next : List Int} (h : next.length = N.length) : Half N cls 0 [] next :=
  ⟨h, fun p r hp => absurd hp (Nat.not_lt_zero _), fun k x e => by simp [mget] at e, fun k l x e => by simp [mget] at e, fun j hj => by simp at hj, Nat.le_refl _⟩
theorem Half.known {N : List (List Int)} {cls next : List Int} {q : Nat} {m2 : List (DetSplit × Int)} (h : Half N cls q m2 next) {r : List Int} (hr : N[q]? = some r) {x : Int} (hx : mget (keyOf cls q r) m2 = some x) : Half N cls (q + 1) m2 (next.set q x) := by
  have hq : q < next.length := by rw [h.len]; exact (List.getElem?_eq_some_iff.1 hr).1
  refine ⟨by simp [h.len], fun p s hp hs => ?_, h.range, h.inj, fun j hj => ?_, Nat.le_succ_of_le h.size⟩
  · by_cases e : p = q
    · subst e
      rw [hr] at hs
      cases hs
      exact ⟨x, by rw [List.getElem?_set_self hq], hx⟩
    · obtain ⟨y, h1, h2⟩ := h.get p s (by omega) hs
      exact ⟨y, by rw [List.getElem?_set_ne (Ne.symm e)]; exact h1, h2⟩
  · obtain ⟨p, h1, h2⟩ := h.onto j hj
    exact ⟨p, by omega, by rw [List.getElem?_set_ne (by omega)]; exact h2⟩
theorem Half.new {N : List (List Int)} {cls next : List Int} {q : Nat} {m2 : List (DetSplit × Int)} (h : Half N cls q m2 next) {r : List Int} (hr : N[q]? = some r) (hx : mget (keyOf cls q r) m2 = none) : Half N cls (q + 1) (mput (keyOf cls q r) (m2.length : Int) m2) (next.set q (m2.length : Int)) := by
  have hq : q < next.length := by rw [h.len]; exact (List.getElem?_eq_some_iff.1 hr).1
  have hl := mput_length (v := (m2.length : Int)) hx
  refine ⟨by simp [h.len], fun p s hp hs => ?_, fun k x e => ?_, fun k l x e1 e2 => ?_, fun j hj => ?_, by rw [hl]; have := h.size; omega⟩
  · by_cases e : p = q
    · subst e
      rw [hr] at hs
      cases hs
      exact ⟨_, by rw [List.getElem?_set_self hq], by rw [mget_put, if_pos rfl]⟩
    · obtain ⟨y, h1, h2⟩ := h.get p s (by omega) hs
      refine ⟨y, by rw [List.getElem?_set_ne (Ne.symm e)]; exact h1, ?_⟩
      rw [mget_put, if_neg (fun e2 => by rw [e2, hx] at h2; cases h2)]
      exact h2
  · rw [mget_put] at e
    rw [hl]
    split at e
    · cases e; omega
    · have := h.range k x e
      omega
  · rw [mget_put] at e1 e2
    split at e1 <;> split at e2
    · rename_i a b; rw [a, b]
    · cases e1
      have := h.range l _ e2
      omega
    · cases e2
      have := h.range k _ e1
      omega
    · exact h.inj k l x e1 e2
  · rw [hl] at hj
    by_cases e : j = m2.length
    · subst e
      exact ⟨q, by omega, by rw [List.getElem?_set_self hq]⟩
    · obtain ⟨p, h1, h2⟩ := h.onto j (by omega)
      exact ⟨p, by omega, by rw [List.getElem?_set_ne (by omega)]; exact h2⟩
theorem Half.round {N : List (List Int)} {cls next : List Int} {m2 : List (DetSplit × Int)} (h : Half N cls N.length m2 next) : RoundOf N cls next m2.length := by
  have hget : ∀ (p : Nat) (r : List Int) (x : Int), N[p]? = some r → next[p]? = some x → mget (keyOf cls p r) m2 = some x := fun p r x h1 h2 => by
    obtain ⟨y, h3, h4⟩ := h.get p r (List.getElem?_eq_some_iff.1 h1).1 h1
    rw [h2] at h3
    cases h3
    exact h4
  refine ⟨h.len, fun x hx => ?_, fun j hj => ?_, fun p q r s x y h1 h2 h3 h4 => ?_⟩
  · obtain ⟨p, hp⟩ := List.getElem?_of_mem hx
    have hlt := (List.getElem?_eq_some_iff.1 hp).1
    rw [h.len] at hlt
    exact h.range _ x (hget p _ x (List.getElem?_eq_getElem hlt) hp)
  · obtain ⟨p, _, h2⟩ := h.onto j hj
    exact List.mem_of_getElem? h2
  · have k1 := hget p r x h1 h3
    have k2 := hget q s y h2 h4
    constructor
    · rintro rfl
      exact h.inj _ _ x k1 k2
    · intro e
      rw [e, k2] at k1
      cases k1
      rfl
theorem succ_rs {d : ApiDet} {L p q a : Nat} (h : rs L (langD d p) = rs L (langD d q)) (ha : a < L) : rs L (langD d (stepD d p a)) = rs L (langD d (stepD d q a)) :=
  rs_congr fun w hw => rs_at (w := a :: w) h fun b hb => (List.mem_cons.1 hb).elim (fun e => e ▸ ha) (hw b)
/-- what holds of classes between rounds: no two states that words do not tell apart are told apart, and marks are -/
structure ClsInv (d : ApiDet) (L : Nat) (x4 : Int) (cls : List Int) : Prop where
  len : cls.length = d.fNext.length
  range : ∀ x ∈ cls, 0 ≤ x ∧ x < 65536
  sound : ∀ p q, p < d.fNext.length → q < d.fNext.length → rs L (langD d p) = rs L (langD d q) → cls.getD p 0 = cls.getD q 0
  marks : ∀ p q, p < d.fNext.length → q < d.fNext.length → cls.getD p 0 = cls.getD q 0 → d.fMark.getD p 0 = d.fMark.getD q 0
  count : x4 = 0 ∨ ∃ m : Nat, x4 = m ∧ m ≤ d.fNext.length ∧ (∀ x ∈ cls, 0 ≤ x ∧ x < (m : Int)) ∧ ∀ j : Nat, j < m → (j : Int) ∈ cls
theorem getD_mem {α : Type} {l : List α} {i : Nat} {z : α} (h : i < l.length) : l.getD i z ∈ l := by
  rw [List.getD_eq_getElem?_getD, List.getElem?_eq_getElem h]
  exact List.getElem_mem h
theorem getD_some {α : Type} {l : List α} {i : Nat} {z : α} (h : i < l.length) : l[i]? = some (l.getD i z) := by
  rw [List.getD_eq_getElem?_getD, List.getElem?_eq_getElem h]
  rfl
section
variable {d : ApiDet} (hd : ClsPre d) {L : Nat} (hL : ∀ r ∈ d.fNext, r.length = L)
include hd
theorem ClsPre.step {q a : Nat} (hq : q < d.fNext.length) : stepD d q a < d.fNext.length := by
  unfold stepD
  have hr := getD_mem (z := []) hq
  by_cases h : a < (d.fNext.getD q []).length
  · have := hd.next _ hr _ (getD_mem (z := 0) h)
    omega
  · rw [List.getD_eq_getElem?_getD (l := d.fNext.getD q []), List.getElem?_eq_none (by omega)]
    simp only [Option.getD_none]
    omega
theorem keyOf_iff {cls : List Int} (hr : ∀ x ∈ cls, 0 ≤ x ∧ x < 65536) (hlen : cls.length = d.fNext.length) {p q : Nat} (hp : p < d.fNext.length) (hq : q < d.fNext.length) (hrows : (d.fNext.getD p []).length = (d.fNext.getD q []).length) :
    keyOf cls p (d.fNext.getD p []) = keyOf cls q (d.fNext.getD q []) ↔ cls.getD p 0 = cls.getD q 0 ∧ ∀ a, a < (d.fNext.getD p []).length → cls.getD (stepD d p a) 0 = cls.getD (stepD d q a) 0 := by
  have hin : ∀ r ∈ d.fNext, ∀ x ∈ rowCls cls r, 0 ≤ x ∧ x < 65536 := fun r hr2 x hx => by
    obtain ⟨t, ht, rfl⟩ := List.mem_map.1 hx
    have := hd.next r hr2 t ht
    exact hr _ (getD_mem (by omega))
  unfold keyOf
  simp only [DetSplit.mk.injEq]
  refine and_congr Iff.rfl ⟨fun h a ha => ?_, fun h => ?_⟩
  · have h1 := twos_inj (hin _ (getD_mem hp)) (hin _ (getD_mem hq)) (bytesOf_inj twos_in twos_in h)
    have h2 := congrArg (fun l => l[a]?) h1
    simp only [rowCls, List.getElem?_map, getD_some (z := (0 : Int)) ha, getD_some (z := (0 : Int)) (show a < (d.fNext.getD q []).length by omega), Option.map_some, Option.some.injEq] at h2
    exact h2
  · have : rowCls cls (d.fNext.getD p []) = rowCls cls (d.fNext.getD q []) := by
      unfold rowCls
      refine List.ext_getElem? fun a => ?_
      rw [List.getElem?_map, List.getElem?_map]
      by_cases ha : a < (d.fNext.getD p []).length
      · rw [getD_some (z := (0 : Int)) ha, getD_some (z := (0 : Int)) (show a < (d.fNext.getD q []).length by omega), Option.map_some, Option.map_some]
        exact congrArg some (h a ha)
      · rw [List.getElem?_eq_none (by omega), List.getElem?_eq_none (by omega)]
    rw [this]
include hL
theorem ClsInv.next {cls next : List Int} {x4 : Int} {m : Nat} (h : ClsInv d L x4 cls) (hR : RoundOf d.fNext cls next m) (hm : m ≤ d.fNext.length) : ClsInv d L m next := by
  have hrow : ∀ p, p < d.fNext.length → (d.fNext.getD p []).length = L := fun p hp => hL _ (getD_mem hp)
  have key : ∀ p q, p < d.fNext.length → q < d.fNext.length → (next.getD p 0 = next.getD q 0 ↔ cls.getD p 0 = cls.getD q 0 ∧ ∀ a, a < L → cls.getD (stepD d p a) 0 = cls.getD (stepD d q a) 0) := fun p q hp hq => by
    rw [hR.same p q _ _ _ _ (getD_some (z := []) hp) (getD_some (z := []) hq) (getD_some (z := 0) (by rw [hR.len]; exact hp)) (getD_some (z := 0) (by rw [hR.len]; exact hq)), keyOf_iff hd h.range h.len hp hq (by rw [hrow p hp, hrow q hq]), hrow p hp]
  have h65 := hd.size
  refine ⟨hR.len, fun x hx => by have := hR.range x hx; omega, fun p q hp hq hw => ?_, fun p q hp hq e => h.marks p q hp hq ((key p q hp hq).1 e).1, .inr ⟨m, rfl, hm, hR.range, hR.onto⟩⟩
  exact (key p q hp hq).2 ⟨h.sound p q hp hq hw, fun a ha => h.sound _ _ (hd.step hp) (hd.step hq) (succ_rs hw ha)⟩
theorem ClsInv.factor {cls next : List Int} {x4 : Int} {m : Nat} (h : ClsInv d L x4 cls) (hR : RoundOf d.fNext cls next m) : ∃ f : Nat → Nat, ∀ i, i < d.fNext.length → f (next.getD i 0).toNat = (cls.getD i 0).toNat := by
  have hrow : ∀ p, p < d.fNext.length → (d.fNext.getD p []).length = L := fun p hp => hL _ (getD_mem hp)
  have key : ∀ p q, p < d.fNext.length → q < d.fNext.length → next.getD p 0 = next.getD q 0 → cls.getD p 0 = cls.getD q 0 := fun p q hp hq e =>
    ((keyOf_iff hd h.range h.len hp hq (by rw [hrow p hp, hrow q hq])).1 ((hR.same p q _ _ _ _ (getD_some (z := []) hp) (getD_some (z := []) hq) (getD_some (z := 0) (by rw [hR.len]; exact hp)) (getD_some (z := 0) (by rw [hR.len]; exact hq))).1 e)).1
  have hx : ∀ j : Nat, j < m → ∃ i : Nat, i < d.fNext.length ∧ next.getD i 0 = (j : Int) := fun j hj => by
    obtain ⟨i, hi⟩ := List.getElem?_of_mem (hR.onto j hj)
    have hlt := (List.getElem?_eq_some_iff.1 hi).1
    exact ⟨i, by rw [hR.len] at hlt; exact hlt, by simp [hi]⟩
  refine ⟨fun j => if hj : j < m then (cls.getD (hx j hj).choose 0).toNat else 0, fun i hi => ?_⟩
  have hr := hR.range _ (getD_mem (l := next) (z := 0) (by rw [hR.len]; exact hi))
  have hj : (next.getD i 0).toNat < m := by omega
  show (if hj : _ then _ else _) = _
  rw [dif_pos hj]
  obtain ⟨k1, k2⟩ := (hx _ hj).choose_spec
  rw [key _ i k1 hi (by rw [k2]; omega)]
theorem ClsInv.le {cls next : List Int} {x4 : Int} {m : Nat} (h : ClsInv d L x4 cls) (hR : RoundOf d.fNext cls next m) : x4 ≤ m := by
  rcases h.count with h0 | ⟨m', h1, h2, h3, h4⟩
  · omega
  · obtain ⟨f, hf⟩ := h.factor hd hL hR
    have := onto_le (k := m') (m := m) (f := f) fun j hj => by
      obtain ⟨i, hi⟩ := List.getElem?_of_mem (h4 j hj)
      have hlt := (List.getElem?_eq_some_iff.1 hi).1
      rw [h.len] at hlt
      have hr := hR.range _ (getD_mem (l := next) (z := 0) (by rw [hR.len]; exact hlt))
      refine ⟨(next.getD i 0).toNat, by omega, ?_⟩
      rw [hf i hlt]
      simp [hi]
    omega
/-- when the number of classes stays, the classes are right -/
theorem ClsInv.ends {cls next : List Int} {x4 : Int} {m : Nat} (h : ClsInv d L x4 cls) (hR : RoundOf d.fNext cls next m) (hm : m ≤ d.fNext.length) (he : (m : Int) = x4) : ∀ p q, p < d.fNext.length → q < d.fNext.length → (next.getD p 0 = next.getD q 0 ↔ rs L (langD d p) = rs L (langD d q)) := by
  have hrow : ∀ p, p < d.fNext.length → (d.fNext.getD p []).length = L := fun p hp => hL _ (getD_mem hp)
  have key : ∀ p q, p < d.fNext.length → q < d.fNext.length → (next.getD p 0 = next.getD q 0 ↔ cls.getD p 0 = cls.getD q 0 ∧ ∀ a, a < L → cls.getD (stepD d p a) 0 = cls.getD (stepD d q a) 0) := fun p q hp hq => by
    rw [hR.same p q _ _ _ _ (getD_some (z := []) hp) (getD_some (z := []) hq) (getD_some (z := 0) (by rw [hR.len]; exact hp)) (getD_some (z := 0) (by rw [hR.len]; exact hq)), keyOf_iff hd h.range h.len hp hq (by rw [hrow p hp, hrow q hq]), hrow p hp]
  intro p q hp hq
  -- no class was split
  have stay : ∀ p q, p < d.fNext.length → q < d.fNext.length → cls.getD p 0 = cls.getD q 0 → next.getD p 0 = next.getD q 0 := by
    intro p q hp hq e
    have hnp := hR.range _ (getD_mem (l := next) (z := 0) (by rw [hR.len]; exact hp))
    have hnq := hR.range _ (getD_mem (l := next) (z := 0) (by rw [hR.len]; exact hq))
    rcases h.count with h0 | ⟨m', h1, h2, h3, h4⟩
    · omega
    · have hmm : m' = m := by omega
      subst hmm
      obtain ⟨f, hf⟩ := h.factor hd hL hR
      have hon : ∀ j, j < m' → ∃ i, i < m' ∧ f i = j := fun j hj => by
        obtain ⟨i, hi⟩ := List.getElem?_of_mem (h4 j hj)
        have hlt := (List.getElem?_eq_some_iff.1 hi).1
        rw [h.len] at hlt
        have hr := hR.range _ (getD_mem (l := next) (z := 0) (by rw [hR.len]; exact hlt))
        refine ⟨(next.getD i 0).toNat, by omega, ?_⟩
        rw [hf i hlt]
        simp [hi]
      have := onto_inj hon (i := (next.getD p 0).toNat) (j := (next.getD q 0).toNat) (by omega) (by omega) (by rw [hf p hp, hf q hq, e])
      omega
  constructor
  · intro e
    have go : ∀ (w : List Nat) (p q : Nat), p < d.fNext.length → q < d.fNext.length → next.getD p 0 = next.getD q 0 → (∀ a ∈ w, a < L) → langD d p w = langD d q w := by
      intro w
      induction w with
      | nil => exact fun p q hp hq e _ => h.marks p q hp hq ((key p q hp hq).1 e).1
      | cons a w ih =>
        intro p q hp hq e hw
        exact ih (stepD d p a) (stepD d q a) (hd.step hp) (hd.step hq) (stay _ _ (hd.step hp) (hd.step hq) (((key p q hp hq).1 e).2 a (hw a List.mem_cons_self))) fun b hb => hw b (List.mem_cons_of_mem _ hb)
    exact rs_congr fun w hw => go w p q hp hq e hw
  · exact fun e => (key p q hp hq).2 ⟨h.sound p q hp hq e, fun a ha => h.sound _ _ (hd.step hp) (hd.step hq) (succ_rs e ha)⟩
end
end Go.Proofs.Ytfpdnigihjmohaa

/- Contracts of det.Explore and det.Classes. No condition. -/
namespace Go.Proofs.Ytfpdnigihjmohaa
open Go.RowKit Go.MapKept
set_option linter.unusedSimpArgs false
set_option linter.unusedVariables false
set_option maxRecDepth 100000
set_option linter.unusedSectionVars false

/-- an automaton whose classes may be asked for -/
structure ClsOk (d : ApiDet) : Prop where
  wf : Wf d
  size : d.fNext.length ≤ 65536
  wide : d.fLetters ≤ 1000
  small : ∀ x ∈ d.fMark, 0 ≤ x ∧ x < 65536
/-- classes that tell apart what words tell apart -/
structure IsClass (d : ApiDet) (cls : List Int) : Prop where
  len : cls.length = d.fNext.length
  range : ∀ x ∈ cls, 0 ≤ x ∧ x < (d.fNext.length : Int)
  same : ∀ p q, p < d.fNext.length → q < d.fNext.length → (cls.getD p 0 = cls.getD q 0 ↔ rs d.fLetters.toNat (langD d p) = rs d.fLetters.toNat (langD d q))
end Go.Proofs.Ytfpdnigihjmohaa

/- Contracts of det.Explore and det.Smallest. No condition. -/
namespace Go.Proofs.Ytfpdnigihjmohaa
open Go.RowKit Go.MapKept
set_option linter.unusedSimpArgs false
set_option linter.unusedVariables false
set_option maxRecDepth 100000

end Go.Proofs.Ytfpdnigihjmohaa

/- The contract of det.Smallest: it is the one automaton of its language. No condition. -/
namespace Go.Proofs.Ytfpdnigihjmohaa
open Go.RowKit Go.MapKept
set_option linter.unusedSimpArgs false
set_option linter.unusedVariables false
set_option maxRecDepth 100000
set_option linter.unusedSectionVars false

section
variable {d : ApiDet} {cls back : List Int}
end
end Go.Proofs.Ytfpdnigihjmohaa

/- Symbolic states of a walk: cells of arrays of numbers, at places that are told as the program runs. No condition. -/
namespace Go.Proofs.Ytfpdnigihjmohaa
open Go.RowKit Go.MapKept
set_option linter.unusedSimpArgs false
set_option linter.unusedVariables false
set_option maxRecDepth 100000
set_option linter.unusedSectionVars false

section
variable {c : Cfg} {S S1 : St} {o : Oper} {tab : Tab} {n : Nat} {ops : Array Oper} {rest : List Oper} {N : Po}
end
end Go.Proofs.Ytfpdnigihjmohaa

/- Plain laws of sets that stand as bits of a number. No condition. -/
namespace Go.Proofs.Ytfpdnigihjmohaa
open Go.RowKit Go.MapKept
set_option linter.unusedSimpArgs false
set_option linter.unusedVariables false
set_option maxRecDepth 100000

theorem dlt {k n : Nat} (h : decide ((k : Int) < (n : Int)) = true) : k < n := by
  have := of_decide_eq_true h
  omega
theorem dge {k n : Nat} (h : decide ((k : Int) < (n : Int)) = false) : n ≤ k := by
  have := of_decide_eq_false h
  omega
theorem wsucc {k : Nat} (h : k < 4611686018427387904) : wr ((k : Int) + 1) = ((k + 1 : Nat) : Int) := by
  rw [wr_in (by omega) (by omega)]
  rfl
theorem mu_up {n k : Nat} (h : k < n) (hk : k < 4611686018427387904) : n - (wr ((k : Int) + 1)).toNat < n - (k : Int).toNat := by
  rw [wsucc hk, Int.toNat_natCast, Int.toNat_natCast]
  omega
theorem idx_at {α : Type} {l : List α} {k : Nat} (h : k < l.length) : idx l (k : Int) = some l[k] := by simp [idx, h]
theorem idx_of {α : Type} {l : List α} {i : Int} (z : α) (h0 : 0 ≤ i) (h1 : i < (l.length : Int)) : idx l i = some (l.getD i.toNat z) := by
  have h : i.toNat < l.length := by omega
  unfold idx
  rw [if_pos h0, List.getD_eq_getElem?_getD, List.getElem?_eq_getElem h]
  rfl
theorem take_map {α β : Type} {l : List α} {k : Nat} (h : k < l.length) (f : α → β) : (l.take (k + 1)).map f = (l.take k).map f ++ [f l[k]] := by
  rw [List.take_add_one, List.map_append, List.getElem?_eq_getElem h]
  rfl
theorem capOk_of {n m b : Nat} (h : (n + m) * b ≤ 140737488355328) : capOk n m b := h
end Go.Proofs.Ytfpdnigihjmohaa

/- Contracts of package seqs. No condition. -/
namespace Go.Proofs.Ytfpdnigihjmohaa
open Go.RowKit Go.MapKept
set_option linter.unusedSimpArgs false
set_option linter.unusedVariables false
set_option maxRecDepth 100000

def indexLInt_vc (l : (List (List Int))) (dom : ((List Int) → Prop)) (φ : ((List Int) → Bool)) (Q : Int → Prop) : Prop :=
  l.length ≤ 9223372036854775807 →
  (∃ (Inv : Int → Prop) (mu : Int → Nat), Inv 0 ∧
  ∀ (x8 : Int) , Inv x8 → (IfP (decide (x8 < (l.length : Int))) (∃ e, idx l x8 = some e ∧
  (dom e) ∧
  IfP (φ e) (Q x8) ((Inv (wr (x8 + 1)) ∧ mu (wr (x8 + 1)) < mu x8))) (Q (-1))))
theorem indexLInt_walk (l : (List (List Int))) (dom : ((List Int) → Prop)) (φ : ((List Int) → Bool)) (Q : Int → Prop) (h : indexLInt_vc l dom φ Q) : Ct 134 [.sv (.one (LS (lsT intT) l)), .sv (.one (.rd (fvR (fun x => [.sv (.one (LS intT x))]) (fun b => .sv (.one (B b))) dom φ)))] [] Q (fun (r : Int) => .sv (.one (I r))) := by
  have ht := tab_ok
  refine Ct.body Try.func134 rfl rfl rfl rfl (fun c hn => ?_)
  unfold indexLInt_vc at h
  refine En.lenL 0 (by rfl) (fun hl => ?_)
  replace h := h hl
  clear hl
  refine En.seq ?_
  refine En.region ?_
  refine WL.run ht hn 1 ⟨[(0, .sv (.one (LS (lsT intT) l))), (1, .sv (.one (.rd (fvR (fun x => [.sv (.one (LS intT x))]) (fun b => .sv (.one (B b))) dom φ))))], []⟩ (by kernel_rfl) ?_
  refine WL.nil ?_
  refine En.seq ?_
  refine En.seq ?_
  refine En.region ?_
  refine WL.run ht hn 3 ⟨[(0, .sv (.one (LS (lsT intT) l))), (1, .sv (.one (.rd (fvR (fun x => [.sv (.one (LS intT x))]) (fun b => .sv (.one (B b))) dom φ)))), (7, .sv (.one (I (l.length : Int)))), (8, .sv (.one (I 0)))], []⟩ (by kernel_rfl) ?_
  refine WL.nil ?_
  refine En.block ?_
  obtain ⟨Inv, mu, h0, hI⟩ := h
  refine En.loop (σ := Int) (fun zz => Inv zz) (fun zz => mu zz) (fun zz => ⟨[(0, .sv (.one (LS (lsT intT) l))), (1, .sv (.one (.rd (fvR (fun x => [.sv (.one (LS intT x))]) (fun b => .sv (.one (B b))) dom φ)))), (7, .sv (.one (I (l.length : Int)))), (8, .sv (.one (I zz)))], []⟩) 0 h0 (sub_ok (by kernel_rfl)) ?_
  intro x8 h
  replace h := hI _ h
  show En c ⟨[(0, .sv (.one (LS (lsT intT) l))), (1, .sv (.one (.rd (fvR (fun x => [.sv (.one (LS intT x))]) (fun b => .sv (.one (B b))) dom φ)))), (7, .sv (.one (I (l.length : Int)))), (8, .sv (.one (I x8)))], []⟩ _
  refine En.seq ?_
  refine En.region ?_
  refine WL.run ht hn 1 ⟨[(0, .sv (.one (LS (lsT intT) l))), (1, .sv (.one (.rd (fvR (fun x => [.sv (.one (LS intT x))]) (fun b => .sv (.one (B b))) dom φ)))), (7, .sv (.one (I (l.length : Int)))), (8, .sv (.one (I x8))), (9, .sv (.one (B (decide (x8 < (l.length : Int))))))], []⟩ (by kernel_rfl) ?_
  refine WL.nil ?_
  refine En.seq ?_
  refine En.cond (b := (decide (x8 < (l.length : Int)))) (by kernel_rfl) (fun hb => ?_) (fun hb => ?_)
  · replace h := h.1 hb
    refine En.skip ?_
    refine En.seq ?_
    refine En.block ?_
    refine En.seq ?_
    refine En.region ?_
    refine WL.run ht hn 2 ⟨[(0, .sv (.one (LS (lsT intT) l))), (1, .sv (.one (.rd (fvR (fun x => [.sv (.one (LS intT x))]) (fun b => .sv (.one (B b))) dom φ)))), (5, .sv (.one (I x8))), (7, .sv (.one (I (l.length : Int)))), (8, .sv (.one (I x8)))], []⟩ (by kernel_rfl) ?_
    refine WL.nil ?_
    refine En.seq ?_
    refine En.region ?_
    refine WL.run ht hn 3 ⟨[(0, .sv (.one (LS (lsT intT) l))), (1, .sv (.one (.rd (fvR (fun x => [.sv (.one (LS intT x))]) (fun b => .sv (.one (B b))) dom φ)))), (5, .sv (.one (I x8))), (7, .sv (.one (I (l.length : Int)))), (8, .sv (.one (I x8))), (11, .sv (.one (.rd (fvR (fun x => [.sv (.one (LS intT x))]) (fun b => .sv (.one (B b))) dom φ)))), (12, .sv (.one (LS (lsT intT) l))), (13, .sv (.one (I x8)))], []⟩ (by kernel_rfl) ?_
    obtain ⟨e, he, h⟩ := h
    refine WL.val hn (by rfl) (val_index (T := (lsT intT)) (l := l) (i := x8) ht rfl (by rfl) (by rfl) (by rfl) (by rfl) (by rfl) (by rfl) he) (by rfl) ?_
    refine WL.val hn (by rfl) (val_load (s := .one (LS intT e)) ht rfl (by rfl) (by rfl) (by rfl) (by rfl) (by rfl)) (by rfl) ?_
    have hp := h.1
    replace h := h.2
    refine WL.mt0 (K := []) (p := none) hn (by rfl) (mt_callv e hp rfl (by rfl) (by rfl) (by rfl) (by rfl)) (by rfl) (by rfl) (by rfl) ?_
    refine WL.nil ?_
    refine En.cond (b := (φ e)) (by kernel_rfl) (fun hb => ?_) (fun hb => ?_)
    · replace h := h.1 hb
      refine En.seq ?_
      refine En.region ?_
      refine WL.run ht hn 2 ⟨[(4, .sv (.one (I x8)))], []⟩ (by kernel_rfl) ?_
      refine WL.nil ?_
      refine En.ret ?_
      exact En.back ht x8 h (by kernel_rfl) rfl
    · replace h := h.2 hb
      refine En.skip ?_
      refine En.region ?_
      refine WL.run ht hn 2 ⟨[(0, .sv (.one (LS (lsT intT) l))), (1, .sv (.one (.rd (fvR (fun x => [.sv (.one (LS intT x))]) (fun b => .sv (.one (B b))) dom φ)))), (7, .sv (.one (I (l.length : Int)))), (8, .sv (.one (I (wr (x8 + 1)))))], []⟩ (by kernel_rfl) ?_
      refine WL.nil ?_
      exact En.at (I := fun zz => Inv zz ∧ mu zz < mu x8) (T := fun zz => ⟨[(0, .sv (.one (LS (lsT intT) l))), (1, .sv (.one (.rd (fvR (fun x => [.sv (.one (LS intT x))]) (fun b => .sv (.one (B b))) dom φ)))), (7, .sv (.one (I (l.length : Int)))), (8, .sv (.one (I zz)))], []⟩) (wr (x8 + 1)) h (by kernel_rfl)
  · replace h := h.2 hb
    refine En.exit rfl ?_
    refine En.seq ?_
    refine En.region ?_
    refine WL.run ht hn 1 ⟨[(4, .sv (.one (I (-1))))], []⟩ (by kernel_rfl) ?_
    refine WL.nil ?_
    refine En.ret ?_
    exact En.back ht (-1) h (by kernel_rfl) rfl
theorem en134 : ∀ args w, (callFunc 134 args).run Try.prog w = .ok (.enter 134 args) w := enters_of Try.func134 (by kernel_rfl) rfl
theorem indexLInt_ct (l : List (List Int)) (dom : (List Int) → Prop) (φ : (List Int) → Bool) (hd : ∀ x ∈ l, dom x) : Ct 134 [.sv (.one (LS (lsT intT) l)), .sv (.one (.rd (fvR (fun x => [.sv (.one (LS intT x))]) (fun b => .sv (.one (B b))) dom φ)))] [] (fun (_ : Unit) => True) (fun _ => .sv (.one (I (idxTo φ l)))) := by
  refine (indexLInt_walk l dom φ (fun r => r = idxTo φ l) ?_).fun
  unfold indexLInt_vc
  exact index_plain l dom φ hd
def anyLInt_vc (l : (List (List Int))) (dom : ((List Int) → Prop)) (φ : ((List Int) → Bool)) (Q : Bool → Prop) : Prop :=
  l.length ≤ 9223372036854775807 →
  ((∀ x_ ∈ l, dom x_) ∧
  Q (decide ((idxTo φ l) ≥ 0)))
theorem anyLInt_walk (l : (List (List Int))) (dom : ((List Int) → Prop)) (φ : ((List Int) → Bool)) (Q : Bool → Prop) (h : anyLInt_vc l dom φ Q) : Ct 77 [.sv (.one (LS (lsT intT) l)), .sv (.one (.rd (fvR (fun x => [.sv (.one (LS intT x))]) (fun b => .sv (.one (B b))) dom φ)))] [] Q (fun (r : Bool) => .sv (.one (B r))) := by
  have ht := tab_ok
  refine Ct.body Try.func77 rfl rfl rfl rfl (fun c hn => ?_)
  unfold anyLInt_vc at h
  refine En.lenL 0 (by rfl) (fun hl => ?_)
  replace h := h hl
  clear hl
  refine En.seq ?_
  refine En.region ?_
  refine WL.run ht hn 1 ⟨[(0, .sv (.one (LS (lsT intT) l))), (1, .sv (.one (.rd (fvR (fun x => [.sv (.one (LS intT x))]) (fun b => .sv (.one (B b))) dom φ))))], []⟩ (by kernel_rfl) ?_
  refine WL.nil ?_
  refine En.seq ?_
  refine En.region ?_
  refine WL.run ht hn 2 ⟨[(5, .sv (.one (LS (lsT intT) l))), (6, .sv (.one (.rd (fvR (fun x => [.sv (.one (LS intT x))]) (fun b => .sv (.one (B b))) dom φ))))], []⟩ (by kernel_rfl) ?_
  have hp := h.1
  replace h := h.2
  refine WL.mt0 (K := []) (p := none) hn (by rfl) (mt_call (indexLInt_ct l dom φ hp) en134 (caps := []) [] rfl (by rfl) (by kernel_rfl) (by kernel_rfl) (by rfl) (by rfl) (by rfl)) (by rfl) (by rfl) (by rfl) ?_
  refine WL.run ht hn 2 ⟨[(4, .sv (.one (B (decide ((idxTo φ l) ≥ 0)))))], []⟩ (by kernel_rfl) ?_
  refine WL.nil ?_
  refine En.ret ?_
  exact En.back ht (decide ((idxTo φ l) ≥ 0)) h (by kernel_rfl) rfl
theorem en77 : ∀ args w, (callFunc 77 args).run Try.prog w = .ok (.enter 77 args) w := enters_of Try.func77 (by kernel_rfl) rfl
theorem anyLInt_ct (l : List (List Int)) (dom : (List Int) → Prop) (φ : (List Int) → Bool) (hd : ∀ x ∈ l, dom x) : Ct 77 [.sv (.one (LS (lsT intT) l)), .sv (.one (.rd (fvR (fun x => [.sv (.one (LS intT x))]) (fun b => .sv (.one (B b))) dom φ)))] [] (fun (_ : Unit) => True) (fun _ => .sv (.one (B (l.any φ)))) := by
  refine (anyLInt_walk l dom φ (fun r => r = l.any φ) ?_).fun
  unfold anyLInt_vc
  exact fun _ => ⟨hd, by rw [← idxTo_nonneg φ l]⟩
def indexInt_vc (l : (List Int)) (dom : (Int → Prop)) (φ : (Int → Bool)) (Q : Int → Prop) : Prop :=
  l.length ≤ 9223372036854775807 →
  (∃ (Inv : Int → Prop) (mu : Int → Nat), Inv 0 ∧
  ∀ (x8 : Int) , Inv x8 → (IfP (decide (x8 < (l.length : Int))) (∃ e, idx l x8 = some e ∧
  (dom e) ∧
  IfP (φ e) (Q x8) ((Inv (wr (x8 + 1)) ∧ mu (wr (x8 + 1)) < mu x8))) (Q (-1))))
theorem indexInt_walk (l : (List Int)) (dom : (Int → Prop)) (φ : (Int → Bool)) (Q : Int → Prop) (h : indexInt_vc l dom φ Q) : Ct 135 [.sv (.one (LS intT l)), .sv (.one (.rd (fvR (fun x => [.sv (.one (I x))]) (fun b => .sv (.one (B b))) dom φ)))] [] Q (fun (r : Int) => .sv (.one (I r))) := by
  have ht := tab_ok
  refine Ct.body Try.func135 rfl rfl rfl rfl (fun c hn => ?_)
  unfold indexInt_vc at h
  refine En.lenL 0 (by rfl) (fun hl => ?_)
  replace h := h hl
  clear hl
  refine En.seq ?_
  refine En.region ?_
  refine WL.run ht hn 1 ⟨[(0, .sv (.one (LS intT l))), (1, .sv (.one (.rd (fvR (fun x => [.sv (.one (I x))]) (fun b => .sv (.one (B b))) dom φ))))], []⟩ (by kernel_rfl) ?_
  refine WL.nil ?_
  refine En.seq ?_
  refine En.seq ?_
  refine En.region ?_
  refine WL.run ht hn 3 ⟨[(0, .sv (.one (LS intT l))), (1, .sv (.one (.rd (fvR (fun x => [.sv (.one (I x))]) (fun b => .sv (.one (B b))) dom φ)))), (7, .sv (.one (I (l.length : Int)))), (8, .sv (.one (I 0)))], []⟩ (by kernel_rfl) ?_
  refine WL.nil ?_
  refine En.block ?_
  obtain ⟨Inv, mu, h0, hI⟩ := h
  refine En.loop (σ := Int) (fun zz => Inv zz) (fun zz => mu zz) (fun zz => ⟨[(0, .sv (.one (LS intT l))), (1, .sv (.one (.rd (fvR (fun x => [.sv (.one (I x))]) (fun b => .sv (.one (B b))) dom φ)))), (7, .sv (.one (I (l.length : Int)))), (8, .sv (.one (I zz)))], []⟩) 0 h0 (sub_ok (by kernel_rfl)) ?_
  intro x8 h
  replace h := hI _ h
  show En c ⟨[(0, .sv (.one (LS intT l))), (1, .sv (.one (.rd (fvR (fun x => [.sv (.one (I x))]) (fun b => .sv (.one (B b))) dom φ)))), (7, .sv (.one (I (l.length : Int)))), (8, .sv (.one (I x8)))], []⟩ _
  refine En.seq ?_
  refine En.region ?_
  refine WL.run ht hn 1 ⟨[(0, .sv (.one (LS intT l))), (1, .sv (.one (.rd (fvR (fun x => [.sv (.one (I x))]) (fun b => .sv (.one (B b))) dom φ)))), (7, .sv (.one (I (l.length : Int)))), (8, .sv (.one (I x8))), (9, .sv (.one (B (decide (x8 < (l.length : Int))))))], []⟩ (by kernel_rfl) ?_
  refine WL.nil ?_
  refine En.seq ?_
  refine En.cond (b := (decide (x8 < (l.length : Int)))) (by kernel_rfl) (fun hb => ?_) (fun hb => ?_)
  · replace h := h.1 hb
    refine En.skip ?_
    refine En.seq ?_
    refine En.block ?_
    refine En.seq ?_
    refine En.region ?_
    refine WL.run ht hn 2 ⟨[(0, .sv (.one (LS intT l))), (1, .sv (.one (.rd (fvR (fun x => [.sv (.one (I x))]) (fun b => .sv (.one (B b))) dom φ)))), (5, .sv (.one (I x8))), (7, .sv (.one (I (l.length : Int)))), (8, .sv (.one (I x8)))], []⟩ (by kernel_rfl) ?_
    refine WL.nil ?_
    refine En.seq ?_
    refine En.region ?_
    refine WL.run ht hn 3 ⟨[(0, .sv (.one (LS intT l))), (1, .sv (.one (.rd (fvR (fun x => [.sv (.one (I x))]) (fun b => .sv (.one (B b))) dom φ)))), (5, .sv (.one (I x8))), (7, .sv (.one (I (l.length : Int)))), (8, .sv (.one (I x8))), (11, .sv (.one (.rd (fvR (fun x => [.sv (.one (I x))]) (fun b => .sv (.one (B b))) dom φ)))), (12, .sv (.one (LS intT l))), (13, .sv (.one (I x8)))], []⟩ (by kernel_rfl) ?_
    obtain ⟨e, he, h⟩ := h
    refine WL.val hn (by rfl) (val_index (T := intT) (l := l) (i := x8) ht rfl (by rfl) (by rfl) (by rfl) (by rfl) (by rfl) (by rfl) he) (by rfl) ?_
    refine WL.val hn (by rfl) (val_load (s := .one (I e)) ht rfl (by rfl) (by rfl) (by rfl) (by rfl) (by rfl)) (by rfl) ?_
    have hp := h.1
    replace h := h.2
    refine WL.mt0 (K := []) (p := none) hn (by rfl) (mt_callv e hp rfl (by rfl) (by rfl) (by rfl) (by rfl)) (by rfl) (by rfl) (by rfl) ?_
    refine WL.nil ?_
    refine En.cond (b := (φ e)) (by kernel_rfl) (fun hb => ?_) (fun hb => ?_)
    · replace h := h.1 hb
      refine En.seq ?_
      refine En.region ?_
      refine WL.run ht hn 2 ⟨[(4, .sv (.one (I x8)))], []⟩ (by kernel_rfl) ?_
      refine WL.nil ?_
      refine En.ret ?_
      exact En.back ht x8 h (by kernel_rfl) rfl
    · replace h := h.2 hb
      refine En.skip ?_
      refine En.region ?_
      refine WL.run ht hn 2 ⟨[(0, .sv (.one (LS intT l))), (1, .sv (.one (.rd (fvR (fun x => [.sv (.one (I x))]) (fun b => .sv (.one (B b))) dom φ)))), (7, .sv (.one (I (l.length : Int)))), (8, .sv (.one (I (wr (x8 + 1)))))], []⟩ (by kernel_rfl) ?_
      refine WL.nil ?_
      exact En.at (I := fun zz => Inv zz ∧ mu zz < mu x8) (T := fun zz => ⟨[(0, .sv (.one (LS intT l))), (1, .sv (.one (.rd (fvR (fun x => [.sv (.one (I x))]) (fun b => .sv (.one (B b))) dom φ)))), (7, .sv (.one (I (l.length : Int)))), (8, .sv (.one (I zz)))], []⟩) (wr (x8 + 1)) h (by kernel_rfl)
  · replace h := h.2 hb
    refine En.exit rfl ?_
    refine En.seq ?_
    refine En.region ?_
    refine WL.run ht hn 1 ⟨[(4, .sv (.one (I (-1))))], []⟩ (by kernel_rfl) ?_
    refine WL.nil ?_
    refine En.ret ?_
    exact En.back ht (-1) h (by kernel_rfl) rfl
theorem en135 : ∀ args w, (callFunc 135 args).run Try.prog w = .ok (.enter 135 args) w := enters_of Try.func135 (by kernel_rfl) rfl
theorem indexInt_ct (l : List Int) (dom : Int → Prop) (φ : Int → Bool) (hd : ∀ x ∈ l, dom x) : Ct 135 [.sv (.one (LS intT l)), .sv (.one (.rd (fvR (fun x => [.sv (.one (I x))]) (fun b => .sv (.one (B b))) dom φ)))] [] (fun (_ : Unit) => True) (fun _ => .sv (.one (I (idxTo φ l)))) := by
  refine (indexInt_walk l dom φ (fun r => r = idxTo φ l) ?_).fun
  unfold indexInt_vc
  exact index_plain l dom φ hd
def anyInt_vc (l : (List Int)) (dom : (Int → Prop)) (φ : (Int → Bool)) (Q : Bool → Prop) : Prop :=
  l.length ≤ 9223372036854775807 →
  ((∀ x_ ∈ l, dom x_) ∧
  Q (decide ((idxTo φ l) ≥ 0)))
theorem anyInt_walk (l : (List Int)) (dom : (Int → Prop)) (φ : (Int → Bool)) (Q : Bool → Prop) (h : anyInt_vc l dom φ Q) : Ct 79 [.sv (.one (LS intT l)), .sv (.one (.rd (fvR (fun x => [.sv (.one (I x))]) (fun b => .sv (.one (B b))) dom φ)))] [] Q (fun (r : Bool) => .sv (.one (B r))) := by
  have ht := tab_ok
  refine Ct.body Try.func79 rfl rfl rfl rfl (fun c hn => ?_)
  unfold anyInt_vc at h
  refine En.lenL 0 (by rfl) (fun hl => ?_)
  replace h := h hl
  clear hl
  refine En.seq ?_
  refine En.region ?_
  refine WL.run ht hn 1 ⟨[(0, .sv (.one (LS intT l))), (1, .sv (.one (.rd (fvR (fun x => [.sv (.one (I x))]) (fun b => .sv (.one (B b))) dom φ))))], []⟩ (by kernel_rfl) ?_
  refine WL.nil ?_
  refine En.seq ?_
  refine En.region ?_
  refine WL.run ht hn 2 ⟨[(5, .sv (.one (LS intT l))), (6, .sv (.one (.rd (fvR (fun x => [.sv (.one (I x))]) (fun b => .sv (.one (B b))) dom φ))))], []⟩ (by kernel_rfl) ?_
  have hp := h.1
  replace h := h.2
  refine WL.mt0 (K := []) (p := none) hn (by rfl) (mt_call (indexInt_ct l dom φ hp) en135 (caps := []) [] rfl (by rfl) (by kernel_rfl) (by kernel_rfl) (by rfl) (by rfl) (by rfl)) (by rfl) (by rfl) (by rfl) ?_
  refine WL.run ht hn 2 ⟨[(4, .sv (.one (B (decide ((idxTo φ l) ≥ 0)))))], []⟩ (by kernel_rfl) ?_
  refine WL.nil ?_
  refine En.ret ?_
  exact En.back ht (decide ((idxTo φ l) ≥ 0)) h (by kernel_rfl) rfl
theorem en79 : ∀ args w, (callFunc 79 args).run Try.prog w = .ok (.enter 79 args) w := enters_of Try.func79 (by kernel_rfl) rfl
theorem anyInt_ct (l : List Int) (dom : Int → Prop) (φ : Int → Bool) (hd : ∀ x ∈ l, dom x) : Ct 79 [.sv (.one (LS intT l)), .sv (.one (.rd (fvR (fun x => [.sv (.one (I x))]) (fun b => .sv (.one (B b))) dom φ)))] [] (fun (_ : Unit) => True) (fun _ => .sv (.one (B (l.any φ)))) := by
  refine (anyInt_walk l dom φ (fun r => r = l.any φ) ?_).fun
  unfold anyInt_vc
  exact fun _ => ⟨hd, by rw [← idxTo_nonneg φ l]⟩
def seqNo (n b : Int) : Bool := (decide (b < 0)) || (decide (b ≥ n))
theorem seqNo_iff {n q : Int} : seqNo n q = false ↔ 0 ≤ q ∧ q < n := by
  unfold seqNo
  simp only [Bool.or_eq_false_iff, decide_eq_false_iff_not]
  omega
structure MorOk (m : ApiMorph) : Prop where
  base : 2 ≤ m.fBase ∧ m.fBase ≤ 4
  size : 1 ≤ m.fImages.length ∧ m.fImages.length ≤ 4
  coding : m.fCoding.length = m.fImages.length
  rows : ∀ w ∈ m.fImages, (w.length : Int) = m.fBase
  in_ : ∀ w ∈ m.fImages, ∀ b ∈ w, 0 ≤ b ∧ b < (m.fImages.length : Int)
  code : ∀ c ∈ m.fCoding, 0 ≤ c ∧ c ≤ 9
  first : (m.fImages.getD 0 []).getD 0 0 = 0
def seqBad (m : ApiMorph) (k : Nat) : Bool := (m.fImages.getD k []).any (seqNo (m.fImages.length : Int)) || ((decide (m.fCoding.getD k 0 < 0)) || (decide (m.fCoding.getD k 0 > 9)))
def seqErr (m : ApiMorph) : Int :=
  if (decide (m.fBase < 2)) || (decide (m.fBase > 4)) then 2 else
  if (decide ((m.fImages.length : Int) < 1)) || (decide ((m.fImages.length : Int) > 4)) then 1 else
  if ((m.fCoding.length : Int) != (m.fImages.length : Int)) || m.fImages.any (fun w => (w.length : Int) != m.fBase) then 3 else
  if (List.range m.fImages.length).any (seqBad m) then 2 else
  if (m.fImages.getD 0 []).getD 0 0 != 0 then 3 else 0
theorem mem_at {α : Type} {l : List α} {x z : α} (h : x ∈ l) : ∃ k, k < l.length ∧ l.getD k z = x := by
  obtain ⟨k, hk, rfl⟩ := List.getElem_of_mem h
  exact ⟨k, hk, by rw [List.getD_eq_getElem?_getD, List.getElem?_eq_getElem hk]; rfl⟩
theorem seqErr_ok {m : ApiMorph} (h : seqErr m = 0) : MorOk m := by
  unfold seqErr at h
  by_cases h1 : ((decide (m.fBase < 2)) || (decide (m.fBase > 4))) = true
  · rw [if_pos h1] at h; cases h
  rw [if_neg h1] at h
  by_cases h2 : ((decide ((m.fImages.length : Int) < 1)) || (decide ((m.fImages.length : Int) > 4))) = true
  · rw [if_pos h2] at h; cases h
  rw [if_neg h2] at h
  by_cases h3 : (((m.fCoding.length : Int) != (m.fImages.length : Int)) || m.fImages.any (fun w => (w.length : Int) != m.fBase)) = true
  · rw [if_pos h3] at h; cases h
  rw [if_neg h3] at h
  by_cases h4 : (List.range m.fImages.length).any (seqBad m) = true
  · rw [if_pos h4] at h; cases h
  rw [if_neg h4] at h
  by_cases h5 : ((m.fImages.getD 0 []).getD 0 0 != 0) = true
  · rw [if_pos h5] at h; cases h
  simp only [Bool.not_eq_true, Bool.or_eq_false_iff, decide_eq_false_iff_not, List.any_eq_false, bne_eq_false_iff_eq, bne_iff_ne, ne_eq, Decidable.not_not, List.mem_range] at h1 h2 h3 h4 h5
  have hbad : ∀ k, k < m.fImages.length → (∀ b ∈ m.fImages.getD k [], 0 ≤ b ∧ b < (m.fImages.length : Int)) ∧ 0 ≤ m.fCoding.getD k 0 ∧ m.fCoding.getD k 0 ≤ 9 := fun k hk => by
    have := h4 k hk
    unfold seqBad at this
    simp only [Bool.or_eq_false_iff, List.any_eq_false, Bool.not_eq_true, seqNo_iff, decide_eq_false_iff_not] at this
    exact ⟨this.1, by omega, by omega⟩
  refine ⟨by omega, by omega, by omega, h3.2, fun w hw b hb => ?_, fun c hc => ?_, h5⟩
  · obtain ⟨k, hk, rfl⟩ := mem_at (z := []) hw
    exact (hbad k hk).1 b hb
  · obtain ⟨k, hk, rfl⟩ := mem_at (z := 0) hc
    exact (hbad k (by omega)).2
def seqC1_vc (w : (List Int)) (m : ApiMorph) (Q : Bool → Prop) : Prop :=
  w.length ≤ 9223372036854775807 →
  (Q ((w.length : Int) != m.fBase))
theorem seqC1_walk (w : (List Int)) (m : ApiMorph) (Q : Bool → Prop) (h : seqC1_vc w m Q) : Ct 121 [.sv (.one (LS intT w)), .sv (.one (.ptr 0 0))] [.box [I m.fBase, LS (lsT intT) m.fImages, LS intT m.fCoding] 67 true] Q (fun (r : Bool) => .sv (.one (B r))) := by
  have ht := tab_ok
  refine Ct.body Try.func121 rfl rfl rfl rfl (fun c hn => ?_)
  unfold seqC1_vc at h
  refine En.lenL 0 (by rfl) (fun hl => ?_)
  replace h := h hl
  clear hl
  refine En.seq ?_
  refine En.region ?_
  refine WL.run ht hn 1 ⟨[(0, .sv (.one (LS intT w))), (1, .sv (.one (.ptr 0 0)))], [.box [I m.fBase, LS (lsT intT) m.fImages, LS intT m.fCoding] 67 true]⟩ (by kernel_rfl) ?_
  refine WL.nil ?_
  refine En.seq ?_
  refine En.region ?_
  refine WL.run ht hn 6 ⟨[(3, .sv (.one (B ((w.length : Int) != m.fBase))))], [.gone]⟩ (by kernel_rfl) ?_
  refine WL.nil ?_
  refine En.ret ?_
  exact En.back ht ((w.length : Int) != m.fBase) h (by kernel_rfl) rfl
theorem en121 : ∀ args w, (callFunc 121 args).run Try.prog w = .ok (.enter 121 args) w := enters_of Try.func121 (by kernel_rfl) rfl
def seqC2_vc (b : Int) (n : Int) (Q : Bool → Prop) : Prop :=
  Q ((decide (b < 0)) || (decide (b ≥ n)))
theorem seqC2_walk (b : Int) (n : Int) (Q : Bool → Prop) (h : seqC2_vc b n Q) : Ct 122 [.sv (.one (I b)), .sv (.one (.ptr 0 0))] [.box [I n] 3 true] Q (fun (r : Bool) => .sv (.one (B r))) := by
  have ht := tab_ok
  refine Ct.body Try.func122 rfl rfl rfl rfl (fun c hn => ?_)
  unfold seqC2_vc at h
  refine En.seq ?_
  refine En.region ?_
  refine WL.run ht hn 1 ⟨[(0, .sv (.one (I b))), (1, .sv (.one (.ptr 0 0)))], [.box [I n] 3 true]⟩ (by kernel_rfl) ?_
  refine WL.nil ?_
  refine En.seq ?_
  refine En.region ?_
  refine WL.run ht hn 3 ⟨[(0, .sv (.one (I b))), (1, .sv (.one (.ptr 0 0))), (6, .sv (.one (B (decide (b < 0)))))], [.box [I n] 3 true]⟩ (by kernel_rfl) ?_
  refine WL.thru ⟨[(3, .sv (.one (B ((decide (b < 0)) || (decide (b ≥ n))))))], [.gone]⟩ ?_ ?_
  · refine splitB (decide (b < 0)) (fun hb0 => ?_) (fun hb0 => ?_)
    · refine WL.setB 6 hb0 (by kernel_rfl) ?_
      refine WL.run ht hn 5 ⟨[(3, .sv (.one (B true)))], [.gone]⟩ (by kernel_rfl) ?_
      exact WL.nil (sub_ok (by simp only [hb0]; kernel_rfl))
    · refine WL.setB 6 hb0 (by kernel_rfl) ?_
      refine WL.run ht hn 5 ⟨[(3, .sv (.one (B (decide (b ≥ n)))))], [.gone]⟩ (by kernel_rfl) ?_
      exact WL.nil (sub_ok (by simp only [hb0]; kernel_rfl))
  · refine En.ret ?_
    exact En.back ht ((decide (b < 0)) || (decide (b ≥ n))) h (by kernel_rfl) rfl
theorem en122 : ∀ args w, (callFunc 122 args).run Try.prog w = .ok (.enter 122 args) w := enters_of Try.func122 (by kernel_rfl) rfl
theorem seqC1_ct (w : (List Int)) (m : ApiMorph)  : Ct 121 [.sv (.one (LS intT w)), .sv (.one (.ptr 0 0))] [.box [I m.fBase, LS (lsT intT) m.fImages, LS intT m.fCoding] 67 true] (fun (_ : Unit) => True) (fun _ => .sv (.one (B ((w.length : Int) != m.fBase)))) := by
  refine (seqC1_walk w m (fun res_ => res_ = ((w.length : Int) != m.fBase)) ?_).fun
  exact fun _ => rfl
theorem seqC2_ct (b : Int) (n : Int)  : Ct 122 [.sv (.one (I b)), .sv (.one (.ptr 0 0))] [.box [I n] 3 true] (fun (_ : Unit) => True) (fun _ => .sv (.one (B (seqNo n b)))) := by
  refine (seqC2_walk b n (fun res_ => res_ = (seqNo n b)) ?_).fun
  rfl
def seqCheck_vc (m : ApiMorph) (Q : Int → Prop) : Prop :=
  m.fImages.length ≤ 9223372036854775807 →
  m.fCoding.length ≤ 9223372036854775807 →
  (IfP ((decide (m.fBase < 2)) || (decide (m.fBase > 4))) (Q 2) (IfP ((decide ((m.fImages.length : Int) < 1)) || (decide ((m.fImages.length : Int) > 4))) (Q 1) (∃ J : Bool → Prop, (IfP ((m.fCoding.length : Int) != (m.fImages.length : Int)) (J true) ((∀ x_ ∈ m.fImages, (fun _ => True) x_) ∧
  J (m.fImages.any (fun w => (w.length : Int) != (m).fBase)))) ∧
  (∀ (x33 : Bool), J x33 → IfP x33 (Q 3) (∃ (Inv : Int → Prop) (mu : Int → Nat), Inv 0 ∧
  ∀ (x37 : Int) , Inv x37 → (IfP (decide (x37 < (m.fImages.length : Int))) (∃ e, idx m.fImages x37 = some e ∧
  ∃ J_2 : Bool → Prop, ((∀ x_ ∈ e, (fun _ => True) x_) ∧
  IfP (e.any (seqNo (m.fImages.length : Int))) (J_2 true) (∃ e_2, idx m.fCoding x37 = some e_2 ∧
  IfP (decide (e_2 < 0)) (J_2 true) (∃ e_3, idx m.fCoding x37 = some e_3 ∧
  J_2 (decide (e_3 > 9))))) ∧
  (∀ (x60 : Bool), J_2 x60 → IfP x60 (Q 2) ((Inv (wr (x37 + 1)) ∧ mu (wr (x37 + 1)) < mu x37)))) (∃ e_4, idx m.fImages 0 = some e_4 ∧
  ∃ e_5, idx e_4 0 = some e_5 ∧
  IfP (e_5 != 0) (Q 3) (Q 0))))))))
set_option maxHeartbeats 2000000 in
theorem seqCheck_walk (m : ApiMorph) (Q : Int → Prop) (h : seqCheck_vc m Q) : Ct 64 [.sv (.agg [I m.fBase, LS (lsT intT) m.fImages, LS intT m.fCoding])] [] Q (fun (r : Int) => .sv (.one (I r))) := by
  have ht := tab_ok
  refine Ct.body Try.func64 rfl rfl rfl rfl (fun c hn => ?_)
  unfold seqCheck_vc at h
  refine En.lenA 0 1 (by rfl) (by rfl) (fun hl => ?_)
  replace h := h hl
  clear hl
  refine En.lenA 0 2 (by rfl) (by rfl) (fun hl => ?_)
  replace h := h hl
  clear hl
  refine En.seq ?_
  refine En.region ?_
  refine WL.run ht hn 2 ⟨[(1, .sv (.one (.ptr 0 0)))], [.box [I m.fBase, LS (lsT intT) m.fImages, LS intT m.fCoding] 67 false]⟩ (by kernel_rfl) ?_
  refine WL.nil ?_
  refine En.seq ?_
  refine En.seq ?_
  refine En.region ?_
  refine WL.run ht hn 4 ⟨[(1, .sv (.one (.ptr 0 0))), (9, .sv (.one (B (decide (m.fBase < 2)))))], [.box [I m.fBase, LS (lsT intT) m.fImages, LS intT m.fCoding] 67 false]⟩ (by kernel_rfl) ?_
  refine WL.thru ⟨[(1, .sv (.one (.ptr 0 0))), (13, .sv (.one (B ((decide (m.fBase < 2)) || (decide (m.fBase > 4))))))], [.box [I m.fBase, LS (lsT intT) m.fImages, LS intT m.fCoding] 67 false]⟩ ?_ ?_
  · refine splitB (decide (m.fBase < 2)) (fun hb0 => ?_) (fun hb0 => ?_)
    · refine WL.setB 9 hb0 (by kernel_rfl) ?_
      refine WL.run ht hn 4 ⟨[(1, .sv (.one (.ptr 0 0))), (13, .sv (.one (B true)))], [.box [I m.fBase, LS (lsT intT) m.fImages, LS intT m.fCoding] 67 false]⟩ (by kernel_rfl) ?_
      exact WL.nil (sub_ok (by simp only [hb0]; kernel_rfl))
    · refine WL.setB 9 hb0 (by kernel_rfl) ?_
      refine WL.run ht hn 4 ⟨[(1, .sv (.one (.ptr 0 0))), (13, .sv (.one (B (decide (m.fBase > 4)))))], [.box [I m.fBase, LS (lsT intT) m.fImages, LS intT m.fCoding] 67 false]⟩ (by kernel_rfl) ?_
      exact WL.nil (sub_ok (by simp only [hb0]; kernel_rfl))
  · refine En.cond (b := ((decide (m.fBase < 2)) || (decide (m.fBase > 4)))) (by kernel_rfl) (fun hb => ?_) (fun hb => ?_)
    · replace h := h.1 hb
      refine En.seq ?_
      refine En.region ?_
      refine WL.run ht hn 1 ⟨[(2, .sv (.one (I 2)))], [.gone]⟩ (by kernel_rfl) ?_
      refine WL.nil ?_
      refine En.ret ?_
      exact En.back ht 2 h (by kernel_rfl) rfl
    · replace h := h.2 hb
      refine En.skip ?_
      refine En.seq ?_
      refine En.region ?_
      refine WL.run ht hn 5 ⟨[(1, .sv (.one (.ptr 0 0))), (3, .sv (.one (.ptr 1 0)))], [.box [I m.fBase, LS (lsT intT) m.fImages, LS intT m.fCoding] 67 false, .box [I (m.fImages.length : Int)] 3 false]⟩ (by kernel_rfl) ?_
      refine WL.nil ?_
      refine En.seq ?_
      refine En.seq ?_
      refine En.region ?_
      refine WL.run ht hn 3 ⟨[(1, .sv (.one (.ptr 0 0))), (3, .sv (.one (.ptr 1 0))), (19, .sv (.one (B (decide ((m.fImages.length : Int) < 1)))))], [.box [I m.fBase, LS (lsT intT) m.fImages, LS intT m.fCoding] 67 false, .box [I (m.fImages.length : Int)] 3 false]⟩ (by kernel_rfl) ?_
      refine WL.thru ⟨[(1, .sv (.one (.ptr 0 0))), (3, .sv (.one (.ptr 1 0))), (22, .sv (.one (B ((decide ((m.fImages.length : Int) < 1)) || (decide ((m.fImages.length : Int) > 4))))))], [.box [I m.fBase, LS (lsT intT) m.fImages, LS intT m.fCoding] 67 false, .box [I (m.fImages.length : Int)] 3 false]⟩ ?_ ?_
      · refine splitB (decide ((m.fImages.length : Int) < 1)) (fun hb0 => ?_) (fun hb0 => ?_)
        · refine WL.setB 19 hb0 (by kernel_rfl) ?_
          refine WL.run ht hn 3 ⟨[(1, .sv (.one (.ptr 0 0))), (3, .sv (.one (.ptr 1 0))), (22, .sv (.one (B true)))], [.box [I m.fBase, LS (lsT intT) m.fImages, LS intT m.fCoding] 67 false, .box [I (m.fImages.length : Int)] 3 false]⟩ (by kernel_rfl) ?_
          exact WL.nil (sub_ok (by simp only [hb0]; kernel_rfl))
        · refine WL.setB 19 hb0 (by kernel_rfl) ?_
          refine WL.run ht hn 3 ⟨[(1, .sv (.one (.ptr 0 0))), (3, .sv (.one (.ptr 1 0))), (22, .sv (.one (B (decide ((m.fImages.length : Int) > 4)))))], [.box [I m.fBase, LS (lsT intT) m.fImages, LS intT m.fCoding] 67 false, .box [I (m.fImages.length : Int)] 3 false]⟩ (by kernel_rfl) ?_
          exact WL.nil (sub_ok (by simp only [hb0]; kernel_rfl))
      · refine En.cond (b := ((decide ((m.fImages.length : Int) < 1)) || (decide ((m.fImages.length : Int) > 4)))) (by kernel_rfl) (fun hb => ?_) (fun hb => ?_)
        · replace h := h.1 hb
          refine En.seq ?_
          refine En.region ?_
          refine WL.run ht hn 1 ⟨[(2, .sv (.one (I 1)))], [.gone, .gone]⟩ (by kernel_rfl) ?_
          refine WL.nil ?_
          refine En.ret ?_
          exact En.back ht 1 h (by kernel_rfl) rfl
        · replace h := h.2 hb
          refine En.skip ?_
          refine En.seq ?_
          obtain ⟨J, h, hJ⟩ := h
          refine En.seqJ (σ := Bool) (fun zz => J zz) (fun zz => ⟨[(1, .sv (.one (.ptr 0 0))), (3, .sv (.one (.ptr 1 0))), (33, .sv (.one (B zz)))], [.box [I m.fBase, LS (lsT intT) m.fImages, LS intT m.fCoding] 67 false, .box [I (m.fImages.length : Int)] 3 false]⟩) ?_ ?_
          · refine En.region ?_
            refine WL.run ht hn 6 ⟨[(1, .sv (.one (.ptr 0 0))), (3, .sv (.one (.ptr 1 0))), (28, .sv (.one (B ((m.fCoding.length : Int) != (m.fImages.length : Int)))))], [.box [I m.fBase, LS (lsT intT) m.fImages, LS intT m.fCoding] 67 false, .box [I (m.fImages.length : Int)] 3 false]⟩ (by kernel_rfl) ?_
            refine splitB ((m.fCoding.length : Int) != (m.fImages.length : Int)) (fun hb => ?_) (fun hb => ?_)
            · replace h := h.1 hb
              refine WL.setB 28 hb (by kernel_rfl) ?_
              refine WL.run ht hn 5 ⟨[(1, .sv (.one (.ptr 0 0))), (3, .sv (.one (.ptr 1 0))), (33, .sv (.one (B true)))], [.box [I m.fBase, LS (lsT intT) m.fImages, LS intT m.fCoding] 67 false, .box [I (m.fImages.length : Int)] 3 false]⟩ (by kernel_rfl) ?_
              refine WL.nil ?_
              exact En.at (I := fun zz => J zz) (T := fun zz => ⟨[(1, .sv (.one (.ptr 0 0))), (3, .sv (.one (.ptr 1 0))), (33, .sv (.one (B zz)))], [.box [I m.fBase, LS (lsT intT) m.fImages, LS intT m.fCoding] 67 false, .box [I (m.fImages.length : Int)] 3 false]⟩) true h (by kernel_rfl)
            · replace h := h.2 hb
              refine WL.setB 28 hb (by kernel_rfl) ?_
              refine WL.run ht hn 3 ⟨[(1, .sv (.one (.ptr 0 0))), (3, .sv (.one (.ptr 1 0))), (28, .sv (.one (B false))), (30, .sv (.one (LS (lsT intT) m.fImages))), (31, .sv (.one (.fn 121 [0])))], [.box [I m.fBase, LS (lsT intT) m.fImages, LS intT m.fCoding] 67 false, .box [I (m.fImages.length : Int)] 3 false]⟩ (by kernel_rfl) ?_
              have hp := h.1
              replace h := h.2
              refine WL.mt0 (K := []) (p := none) hn (by rfl) (mt_lendF [0] (by rfl) (by rfl) (mt_ghost 31 (.sv (.one (.rd (fvR (fun (x_ : (List Int)) => [.sv (.one (LS intT x_))]) (fun (r : Bool) => .sv (.one (B r))) (fun _ => True) (fun w => (w.length : Int) != (m).fBase))))) (by rfl) (fv_of (M := [.box [I m.fBase, LS (lsT intT) m.fImages, LS intT m.fCoding] 67 true]) (caps := [0]) (fun x_ _ => seqC1_ct x_ m) en121 rfl (by kernel_rfl) (by rfl) (fun _ => rfl)) (mt_call (anyLInt_ct m.fImages (fun _ => True) (fun w => (w.length : Int) != (m).fBase) hp) en77 (caps := []) [] rfl (by rfl) (by kernel_rfl) (by kernel_rfl) (by rfl) (by rfl) (by rfl)))) (by rfl) (by rfl) (by rfl) ?_
              refine WL.run ht hn 1 ⟨[(1, .sv (.one (.ptr 0 0))), (3, .sv (.one (.ptr 1 0))), (33, .sv (.one (B (m.fImages.any (fun w => (w.length : Int) != (m).fBase)))))], [.box [I m.fBase, LS (lsT intT) m.fImages, LS intT m.fCoding] 67 false, .box [I (m.fImages.length : Int)] 3 false]⟩ (by kernel_rfl) ?_
              refine WL.nil ?_
              exact En.at (I := fun zz => J zz) (T := fun zz => ⟨[(1, .sv (.one (.ptr 0 0))), (3, .sv (.one (.ptr 1 0))), (33, .sv (.one (B zz)))], [.box [I m.fBase, LS (lsT intT) m.fImages, LS intT m.fCoding] 67 false, .box [I (m.fImages.length : Int)] 3 false]⟩) (m.fImages.any (fun w => (w.length : Int) != (m).fBase)) h (by kernel_rfl)
          · intro x33 h
            replace h := hJ _ h
            show En c ⟨[(1, .sv (.one (.ptr 0 0))), (3, .sv (.one (.ptr 1 0))), (33, .sv (.one (B x33)))], [.box [I m.fBase, LS (lsT intT) m.fImages, LS intT m.fCoding] 67 false, .box [I (m.fImages.length : Int)] 3 false]⟩ _
            refine En.cond (b := x33) (by kernel_rfl) (fun hb => ?_) (fun hb => ?_)
            · replace h := h.1 hb
              refine En.seq ?_
              refine En.region ?_
              refine WL.run ht hn 1 ⟨[(2, .sv (.one (I 3)))], [.gone, .gone]⟩ (by kernel_rfl) ?_
              refine WL.nil ?_
              refine En.ret ?_
              exact En.back ht 3 h (by kernel_rfl) rfl
            · replace h := h.2 hb
              refine En.skip ?_
              refine En.seq ?_
              refine En.seq ?_
              refine En.region ?_
              refine WL.run ht hn 4 ⟨[(1, .sv (.one (.ptr 0 0))), (3, .sv (.one (.ptr 1 0))), (35, .sv (.one (LS (lsT intT) m.fImages))), (36, .sv (.one (I (m.fImages.length : Int)))), (37, .sv (.one (I 0)))], [.box [I m.fBase, LS (lsT intT) m.fImages, LS intT m.fCoding] 67 false, .box [I (m.fImages.length : Int)] 3 false]⟩ (by kernel_rfl) ?_
              refine WL.nil ?_
              refine En.block ?_
              obtain ⟨Inv, mu, h0, hI⟩ := h
              refine En.loop (σ := Int) (fun zz => Inv zz) (fun zz => mu zz) (fun zz => ⟨[(1, .sv (.one (.ptr 0 0))), (3, .sv (.one (.ptr 1 0))), (35, .sv (.one (LS (lsT intT) m.fImages))), (36, .sv (.one (I (m.fImages.length : Int)))), (37, .sv (.one (I zz)))], [.box [I m.fBase, LS (lsT intT) m.fImages, LS intT m.fCoding] 67 false, .box [I (m.fImages.length : Int)] 3 false]⟩) 0 h0 (sub_ok (by kernel_rfl)) ?_
              intro x37 h
              replace h := hI _ h
              show En c ⟨[(1, .sv (.one (.ptr 0 0))), (3, .sv (.one (.ptr 1 0))), (35, .sv (.one (LS (lsT intT) m.fImages))), (36, .sv (.one (I (m.fImages.length : Int)))), (37, .sv (.one (I x37)))], [.box [I m.fBase, LS (lsT intT) m.fImages, LS intT m.fCoding] 67 false, .box [I (m.fImages.length : Int)] 3 false]⟩ _
              refine En.seq ?_
              refine En.region ?_
              refine WL.run ht hn 1 ⟨[(1, .sv (.one (.ptr 0 0))), (3, .sv (.one (.ptr 1 0))), (35, .sv (.one (LS (lsT intT) m.fImages))), (36, .sv (.one (I (m.fImages.length : Int)))), (37, .sv (.one (I x37))), (38, .sv (.one (B (decide (x37 < (m.fImages.length : Int))))))], [.box [I m.fBase, LS (lsT intT) m.fImages, LS intT m.fCoding] 67 false, .box [I (m.fImages.length : Int)] 3 false]⟩ (by kernel_rfl) ?_
              refine WL.nil ?_
              refine En.seq ?_
              refine En.cond (b := (decide (x37 < (m.fImages.length : Int)))) (by kernel_rfl) (fun hb => ?_) (fun hb => ?_)
              · replace h := h.1 hb
                refine En.skip ?_
                refine En.seq ?_
                refine En.block ?_
                refine En.seq ?_
                refine En.region ?_
                refine WL.run ht hn 1 ⟨[(1, .sv (.one (.ptr 0 0))), (3, .sv (.one (.ptr 1 0))), (35, .sv (.one (LS (lsT intT) m.fImages))), (36, .sv (.one (I (m.fImages.length : Int)))), (37, .sv (.one (I x37))), (39, .sv (.one (I x37)))], [.box [I m.fBase, LS (lsT intT) m.fImages, LS intT m.fCoding] 67 false, .box [I (m.fImages.length : Int)] 3 false]⟩ (by kernel_rfl) ?_
                obtain ⟨e, he, h⟩ := h
                refine WL.val hn (by rfl) (val_index (T := (lsT intT)) (l := m.fImages) (i := x37) ht rfl (by rfl) (by rfl) (by rfl) (by rfl) (by rfl) (by rfl) he) (by rfl) ?_
                refine WL.val hn (by rfl) (val_load (s := .one (LS intT e)) ht rfl (by rfl) (by rfl) (by rfl) (by rfl) (by rfl)) (by rfl) ?_
                refine WL.run ht hn 2 ⟨[(1, .sv (.one (.ptr 0 0))), (3, .sv (.one (.ptr 1 0))), (4, .sv (.one (I x37))), (5, .sv (.one (LS intT e))), (35, .sv (.one (LS (lsT intT) m.fImages))), (36, .sv (.one (I (m.fImages.length : Int)))), (37, .sv (.one (I x37)))], [.box [I m.fBase, LS (lsT intT) m.fImages, LS intT m.fCoding] 67 false, .box [I (m.fImages.length : Int)] 3 false]⟩ (by kernel_rfl) ?_
                refine WL.nil ?_
                obtain ⟨J_2, h, hJ_2⟩ := h
                refine En.seqJ (σ := Bool) (fun zz => J_2 zz) (fun zz => ⟨[(1, .sv (.one (.ptr 0 0))), (3, .sv (.one (.ptr 1 0))), (35, .sv (.one (LS (lsT intT) m.fImages))), (36, .sv (.one (I (m.fImages.length : Int)))), (37, .sv (.one (I x37))), (60, .sv (.one (B zz)))], [.box [I m.fBase, LS (lsT intT) m.fImages, LS intT m.fCoding] 67 false, .box [I (m.fImages.length : Int)] 3 false]⟩) ?_ ?_
                · refine En.region ?_
                  refine WL.run ht hn 2 ⟨[(1, .sv (.one (.ptr 0 0))), (3, .sv (.one (.ptr 1 0))), (4, .sv (.one (I x37))), (35, .sv (.one (LS (lsT intT) m.fImages))), (36, .sv (.one (I (m.fImages.length : Int)))), (37, .sv (.one (I x37))), (42, .sv (.one (LS intT e))), (43, .sv (.one (.fn 122 [1])))], [.box [I m.fBase, LS (lsT intT) m.fImages, LS intT m.fCoding] 67 false, .box [I (m.fImages.length : Int)] 3 false]⟩ (by kernel_rfl) ?_
                  have hp := h.1
                  replace h := h.2
                  refine WL.mt0 (K := []) (p := none) hn (by rfl) (mt_lendF [1] (by rfl) (by rfl) (mt_ghost 43 (.sv (.one (.rd (fvR (fun (x_ : Int) => [.sv (.one (I x_))]) (fun (r : Bool) => .sv (.one (B r))) (fun _ => True) (seqNo (m.fImages.length : Int)))))) (by rfl) (fv_of (M := [.box [I (m.fImages.length : Int)] 3 true]) (caps := [1]) (fun x_ _ => seqC2_ct x_ (m.fImages.length : Int)) en122 rfl (by kernel_rfl) (by rfl) (fun _ => rfl)) (mt_call (anyInt_ct e (fun _ => True) (seqNo (m.fImages.length : Int)) hp) en79 (caps := []) [] rfl (by rfl) (by kernel_rfl) (by kernel_rfl) (by rfl) (by rfl) (by rfl)))) (by rfl) (by rfl) (by rfl) ?_
                  refine WL.run ht hn 1 ⟨[(1, .sv (.one (.ptr 0 0))), (3, .sv (.one (.ptr 1 0))), (4, .sv (.one (I x37))), (35, .sv (.one (LS (lsT intT) m.fImages))), (36, .sv (.one (I (m.fImages.length : Int)))), (37, .sv (.one (I x37))), (45, .sv (.one (B (e.any (seqNo (m.fImages.length : Int))))))], [.box [I m.fBase, LS (lsT intT) m.fImages, LS intT m.fCoding] 67 false, .box [I (m.fImages.length : Int)] 3 false]⟩ (by kernel_rfl) ?_
                  refine splitB (e.any (seqNo (m.fImages.length : Int))) (fun hb => ?_) (fun hb => ?_)
                  · replace h := h.1 hb
                    refine WL.setB 45 hb (by kernel_rfl) ?_
                    refine WL.run ht hn 15 ⟨[(1, .sv (.one (.ptr 0 0))), (3, .sv (.one (.ptr 1 0))), (35, .sv (.one (LS (lsT intT) m.fImages))), (36, .sv (.one (I (m.fImages.length : Int)))), (37, .sv (.one (I x37))), (60, .sv (.one (B true)))], [.box [I m.fBase, LS (lsT intT) m.fImages, LS intT m.fCoding] 67 false, .box [I (m.fImages.length : Int)] 3 false]⟩ (by kernel_rfl) ?_
                    refine WL.nil ?_
                    exact En.at (I := fun zz => J_2 zz) (T := fun zz => ⟨[(1, .sv (.one (.ptr 0 0))), (3, .sv (.one (.ptr 1 0))), (35, .sv (.one (LS (lsT intT) m.fImages))), (36, .sv (.one (I (m.fImages.length : Int)))), (37, .sv (.one (I x37))), (60, .sv (.one (B zz)))], [.box [I m.fBase, LS (lsT intT) m.fImages, LS intT m.fCoding] 67 false, .box [I (m.fImages.length : Int)] 3 false]⟩) true h (by kernel_rfl)
                  · replace h := h.2 hb
                    refine WL.setB 45 hb (by kernel_rfl) ?_
                    refine WL.run ht hn 3 ⟨[(1, .sv (.one (.ptr 0 0))), (3, .sv (.one (.ptr 1 0))), (4, .sv (.one (I x37))), (35, .sv (.one (LS (lsT intT) m.fImages))), (36, .sv (.one (I (m.fImages.length : Int)))), (37, .sv (.one (I x37))), (45, .sv (.one (B false))), (47, .sv (.one (LS intT m.fCoding))), (48, .sv (.one (I x37)))], [.box [I m.fBase, LS (lsT intT) m.fImages, LS intT m.fCoding] 67 false, .box [I (m.fImages.length : Int)] 3 false]⟩ (by kernel_rfl) ?_
                    obtain ⟨e_2, he_2, h⟩ := h
                    refine WL.val hn (by rfl) (val_index (T := intT) (l := m.fCoding) (i := x37) ht rfl (by rfl) (by rfl) (by rfl) (by rfl) (by rfl) (by rfl) he_2) (by rfl) ?_
                    refine WL.val hn (by rfl) (val_load (s := .one (I e_2)) ht rfl (by rfl) (by rfl) (by rfl) (by rfl) (by rfl)) (by rfl) ?_
                    refine WL.run ht hn 3 ⟨[(1, .sv (.one (.ptr 0 0))), (3, .sv (.one (.ptr 1 0))), (4, .sv (.one (I x37))), (35, .sv (.one (LS (lsT intT) m.fImages))), (36, .sv (.one (I (m.fImages.length : Int)))), (37, .sv (.one (I x37))), (53, .sv (.one (B (decide (e_2 < 0)))))], [.box [I m.fBase, LS (lsT intT) m.fImages, LS intT m.fCoding] 67 false, .box [I (m.fImages.length : Int)] 3 false]⟩ (by kernel_rfl) ?_
                    refine splitB (decide (e_2 < 0)) (fun hb => ?_) (fun hb => ?_)
                    · replace h := h.1 hb
                      refine WL.setB 53 hb (by kernel_rfl) ?_
                      refine WL.run ht hn 7 ⟨[(1, .sv (.one (.ptr 0 0))), (3, .sv (.one (.ptr 1 0))), (35, .sv (.one (LS (lsT intT) m.fImages))), (36, .sv (.one (I (m.fImages.length : Int)))), (37, .sv (.one (I x37))), (60, .sv (.one (B true)))], [.box [I m.fBase, LS (lsT intT) m.fImages, LS intT m.fCoding] 67 false, .box [I (m.fImages.length : Int)] 3 false]⟩ (by kernel_rfl) ?_
                      refine WL.nil ?_
                      exact En.at (I := fun zz => J_2 zz) (T := fun zz => ⟨[(1, .sv (.one (.ptr 0 0))), (3, .sv (.one (.ptr 1 0))), (35, .sv (.one (LS (lsT intT) m.fImages))), (36, .sv (.one (I (m.fImages.length : Int)))), (37, .sv (.one (I x37))), (60, .sv (.one (B zz)))], [.box [I m.fBase, LS (lsT intT) m.fImages, LS intT m.fCoding] 67 false, .box [I (m.fImages.length : Int)] 3 false]⟩) true h (by kernel_rfl)
                    · replace h := h.2 hb
                      refine WL.setB 53 hb (by kernel_rfl) ?_
                      refine WL.run ht hn 3 ⟨[(1, .sv (.one (.ptr 0 0))), (3, .sv (.one (.ptr 1 0))), (35, .sv (.one (LS (lsT intT) m.fImages))), (36, .sv (.one (I (m.fImages.length : Int)))), (37, .sv (.one (I x37))), (53, .sv (.one (B false))), (55, .sv (.one (LS intT m.fCoding))), (56, .sv (.one (I x37)))], [.box [I m.fBase, LS (lsT intT) m.fImages, LS intT m.fCoding] 67 false, .box [I (m.fImages.length : Int)] 3 false]⟩ (by kernel_rfl) ?_
                      obtain ⟨e_3, he_3, h⟩ := h
                      refine WL.val hn (by rfl) (val_index (T := intT) (l := m.fCoding) (i := x37) ht rfl (by rfl) (by rfl) (by rfl) (by rfl) (by rfl) (by rfl) he_3) (by rfl) ?_
                      refine WL.val hn (by rfl) (val_load (s := .one (I e_3)) ht rfl (by rfl) (by rfl) (by rfl) (by rfl) (by rfl)) (by rfl) ?_
                      refine WL.run ht hn 2 ⟨[(1, .sv (.one (.ptr 0 0))), (3, .sv (.one (.ptr 1 0))), (35, .sv (.one (LS (lsT intT) m.fImages))), (36, .sv (.one (I (m.fImages.length : Int)))), (37, .sv (.one (I x37))), (60, .sv (.one (B (decide (e_3 > 9)))))], [.box [I m.fBase, LS (lsT intT) m.fImages, LS intT m.fCoding] 67 false, .box [I (m.fImages.length : Int)] 3 false]⟩ (by kernel_rfl) ?_
                      refine WL.nil ?_
                      exact En.at (I := fun zz => J_2 zz) (T := fun zz => ⟨[(1, .sv (.one (.ptr 0 0))), (3, .sv (.one (.ptr 1 0))), (35, .sv (.one (LS (lsT intT) m.fImages))), (36, .sv (.one (I (m.fImages.length : Int)))), (37, .sv (.one (I x37))), (60, .sv (.one (B zz)))], [.box [I m.fBase, LS (lsT intT) m.fImages, LS intT m.fCoding] 67 false, .box [I (m.fImages.length : Int)] 3 false]⟩) (decide (e_3 > 9)) h (by kernel_rfl)
                · intro x60 h
                  replace h := hJ_2 _ h
                  show En c ⟨[(1, .sv (.one (.ptr 0 0))), (3, .sv (.one (.ptr 1 0))), (35, .sv (.one (LS (lsT intT) m.fImages))), (36, .sv (.one (I (m.fImages.length : Int)))), (37, .sv (.one (I x37))), (60, .sv (.one (B x60)))], [.box [I m.fBase, LS (lsT intT) m.fImages, LS intT m.fCoding] 67 false, .box [I (m.fImages.length : Int)] 3 false]⟩ _
                  refine En.cond (b := x60) (by kernel_rfl) (fun hb => ?_) (fun hb => ?_)
                  · replace h := h.1 hb
                    refine En.seq ?_
                    refine En.region ?_
                    refine WL.run ht hn 1 ⟨[(2, .sv (.one (I 2)))], [.gone, .gone]⟩ (by kernel_rfl) ?_
                    refine WL.nil ?_
                    refine En.ret ?_
                    exact En.back ht 2 h (by kernel_rfl) rfl
                  · replace h := h.2 hb
                    refine En.skip ?_
                    refine En.region ?_
                    refine WL.run ht hn 2 ⟨[(1, .sv (.one (.ptr 0 0))), (3, .sv (.one (.ptr 1 0))), (35, .sv (.one (LS (lsT intT) m.fImages))), (36, .sv (.one (I (m.fImages.length : Int)))), (37, .sv (.one (I (wr (x37 + 1)))))], [.box [I m.fBase, LS (lsT intT) m.fImages, LS intT m.fCoding] 67 false, .box [I (m.fImages.length : Int)] 3 false]⟩ (by kernel_rfl) ?_
                    refine WL.nil ?_
                    exact En.at (I := fun zz => Inv zz ∧ mu zz < mu x37) (T := fun zz => ⟨[(1, .sv (.one (.ptr 0 0))), (3, .sv (.one (.ptr 1 0))), (35, .sv (.one (LS (lsT intT) m.fImages))), (36, .sv (.one (I (m.fImages.length : Int)))), (37, .sv (.one (I zz)))], [.box [I m.fBase, LS (lsT intT) m.fImages, LS intT m.fCoding] 67 false, .box [I (m.fImages.length : Int)] 3 false]⟩) (wr (x37 + 1)) h (by kernel_rfl)
              · replace h := h.2 hb
                refine En.exit rfl ?_
                refine En.seq ?_
                refine En.seq ?_
                refine En.region ?_
                refine WL.run ht hn 2 ⟨[(63, .sv (.one (LS (lsT intT) m.fImages)))], [.gone, .gone]⟩ (by kernel_rfl) ?_
                obtain ⟨e_4, he_4, h⟩ := h
                refine WL.val hn (by rfl) (val_index (T := (lsT intT)) (l := m.fImages) (i := 0) ht rfl (by rfl) (by rfl) (by rfl) (by rfl) (by rfl) (by rfl) he_4) (by rfl) ?_
                refine WL.val hn (by rfl) (val_load (s := .one (LS intT e_4)) ht rfl (by rfl) (by rfl) (by rfl) (by rfl) (by rfl)) (by rfl) ?_
                obtain ⟨e_5, he_5, h⟩ := h
                refine WL.val hn (by rfl) (val_index (T := intT) (l := e_4) (i := 0) ht rfl (by rfl) (by rfl) (by rfl) (by rfl) (by rfl) (by rfl) he_5) (by rfl) ?_
                refine WL.val hn (by rfl) (val_load (s := .one (I e_5)) ht rfl (by rfl) (by rfl) (by rfl) (by rfl) (by rfl)) (by rfl) ?_
                refine WL.run ht hn 1 ⟨[(68, .sv (.one (B (e_5 != 0))))], [.gone, .gone]⟩ (by kernel_rfl) ?_
                refine WL.nil ?_
                refine En.cond (b := (e_5 != 0)) (by kernel_rfl) (fun hb => ?_) (fun hb => ?_)
                · replace h := h.1 hb
                  refine En.seq ?_
                  refine En.region ?_
                  refine WL.run ht hn 1 ⟨[(2, .sv (.one (I 3)))], [.gone, .gone]⟩ (by kernel_rfl) ?_
                  refine WL.nil ?_
                  refine En.ret ?_
                  exact En.back ht 3 h (by kernel_rfl) rfl
                · replace h := h.2 hb
                  refine En.skip ?_
                  refine En.seq ?_
                  refine En.region ?_
                  refine WL.run ht hn 1 ⟨[(2, .sv (.one (I 0)))], [.gone, .gone]⟩ (by kernel_rfl) ?_
                  refine WL.nil ?_
                  refine En.ret ?_
                  exact En.back ht 0 h (by kernel_rfl) rfl
theorem en64 : ∀ args w, (callFunc 64 args).run Try.prog w = .ok (.enter 64 args) w := enters_of Try.func64 (by kernel_rfl) rfl
theorem seqCheck_ct (m : ApiMorph)  : Ct 64 [.sv (.agg [I m.fBase, LS (lsT intT) m.fImages, LS intT m.fCoding])] [] (fun (_ : Unit) => True) (fun _ => .sv (.one (I (seqErr m)))) := by
  refine (seqCheck_walk m (fun res_ => res_ = (seqErr m)) ?_).fun
  intro _ _
  refine ⟨fun h1 => ?_, fun h1 => ⟨fun h2 => ?_, fun h2 => ?_⟩⟩
  · show _ = seqErr m
    unfold seqErr; rw [if_pos h1]
  · show _ = seqErr m
    unfold seqErr; rw [if_neg (by rw [h1]; decide), if_pos h2]
  refine ⟨fun b => b = (((m.fCoding.length : Int) != (m.fImages.length : Int)) || m.fImages.any (fun w => (w.length : Int) != m.fBase)), ⟨fun h => by rw [h]; rfl, fun h => ⟨fun _ _ => trivial, by rw [h]; rfl⟩⟩, ?_⟩
  rintro b rfl
  refine ⟨fun h3 => ?_, fun h3 => ?_⟩
  · show _ = seqErr m
    unfold seqErr; rw [if_neg (by rw [h1]; decide), if_neg (by rw [h2]; decide), if_pos h3]
  have hE : seqErr m = if (List.range m.fImages.length).any (seqBad m) then 2 else if (m.fImages.getD 0 []).getD 0 0 != 0 then 3 else 0 := by
    unfold seqErr; rw [if_neg (by rw [h1]; decide), if_neg (by rw [h2]; decide), if_neg (by rw [h3]; decide)]
  simp only [Bool.or_eq_false_iff, decide_eq_false_iff_not, List.any_eq_false, bne_eq_false_iff_eq, bne_iff_ne, ne_eq, Decidable.not_not] at h1 h2 h3
  refine ⟨fun i => ∃ k : Nat, i = k ∧ k ≤ m.fImages.length ∧ ∀ j, j < k → seqBad m j = false, fun i => m.fImages.length - i.toNat, ⟨0, rfl, Nat.zero_le _, fun j hj => absurd hj (Nat.not_lt_zero _)⟩, ?_⟩
  rintro i ⟨k, rfl, hk, ht⟩
  refine ⟨fun hb => ?_, fun hb => ?_⟩
  · have hlt := dlt hb
    have hi : m.fImages.getD k [] = m.fImages[k] := by rw [List.getD_eq_getElem?_getD, List.getElem?_eq_getElem hlt]; rfl
    have hc : ((k : Nat) : Int).toNat = k := by omega
    have hci : idx m.fCoding (k : Int) = some (m.fCoding.getD k 0) := by
      have := idx_of (l := m.fCoding) (i := (k : Int)) 0 (by omega) (by omega)
      rwa [hc] at this
    refine ⟨_, idx_at hlt, fun b => b = seqBad m k, ⟨fun _ _ => trivial, fun h => ?_, fun h => ⟨_, hci, fun h' => ?_, fun h' => ⟨_, hci, ?_⟩⟩⟩, ?_⟩
    · show true = seqBad m k
      unfold seqBad
      rw [hi, h]
      rfl
    · show true = seqBad m k
      unfold seqBad
      rw [hi, h, h']
      rfl
    · show _ = seqBad m k
      unfold seqBad
      rw [hi, h, h']
      rfl
    · rintro b rfl
      refine ⟨fun h => ?_, fun h => ⟨⟨k + 1, wsucc (by omega), hlt, fun j hj => ?_⟩, mu_up hlt (by omega)⟩⟩
      · show _ = seqErr m
        rw [hE, if_pos (List.any_eq_true.2 ⟨k, List.mem_range.2 hlt, h⟩)]
      · by_cases e : j = k
        · rw [e]; exact h
        · exact ht j (by omega)
  · have hge := dge hb
    rw [if_neg (by
      rw [Bool.not_eq_true, List.any_eq_false]
      intro j hj
      rw [ht j (by have := List.mem_range.1 hj; omega)]
      decide)] at hE
    have hl : 0 < m.fImages.length := by omega
    have hr := h3.2 _ (List.getElem_mem hl)
    have hg : m.fImages.getD 0 [] = m.fImages[0] := by rw [List.getD_eq_getElem?_getD, List.getElem?_eq_getElem hl]; rfl
    refine ⟨_, idx_at (k := 0) hl, _, idx_of (i := 0) 0 (by decide) (by omega), fun h => ?_, fun h => ?_⟩
    · show _ = seqErr m
      rw [hE, hg, if_pos (show (m.fImages[0].getD 0 0 != 0) = true from h)]
    · show _ = seqErr m
      rw [hE, hg, if_neg (by rw [show (m.fImages[0].getD 0 0 != 0) = false from h]; decide)]
/-- the letter at a place -/
def letN (m : ApiMorph) (n : Nat) : Int :=
  if h : n = 0 then 0 else if hb : 2 ≤ m.fBase then (m.fImages.getD (letN m (n / m.fBase.toNat)).toNat []).getD (n % m.fBase.toNat) 0 else 0
termination_by n
decreasing_by exact Nat.div_lt_self (by omega) (by omega)
def letR (m : ApiMorph) (n : Int) : Int := letN m n.toNat
def LetPre (m : ApiMorph) (n : Int) : Prop := MorOk m ∧ 0 ≤ n ∧ n ≤ 1000000000000000
theorem letN_in {m : ApiMorph} (h : MorOk m) (n : Nat) : 0 ≤ letN m n ∧ letN m n < (m.fImages.length : Int) := by
  have hs := h.size
  have hb := h.base
  induction n using Nat.strongRecOn with
  | _ n ih =>
    rw [letN]
    split
    · omega
    · rename_i hn
      rw [dif_pos hb.1]
      have := ih (n / m.fBase.toNat) (Nat.div_lt_self (by omega) (by omega))
      have hm := getD_mem (l := m.fImages) (i := (letN m (n / m.fBase.toNat)).toNat) (z := []) (by omega)
      have hr := h.rows _ hm
      have := Nat.mod_lt n (y := m.fBase.toNat) (by omega)
      exact h.in_ _ hm _ (getD_mem (by omega))
theorem letN_pos {m : ApiMorph} (h : MorOk m) {n : Nat} (hn : n ≠ 0) : letN m n = (m.fImages.getD (letN m (n / m.fBase.toNat)).toNat []).getD (n % m.fBase.toNat) 0 := by
  rw [letN, dif_neg hn, dif_pos h.base.1]
theorem divB {m : ApiMorph} (h : MorOk m) {n : Int} (h0 : 0 ≤ n) (h1 : n ≤ 1000000000000000) : wr (Int.tdiv n m.fBase) = ((n.toNat / m.fBase.toNat : Nat) : Int) := by
  have hb := h.base
  obtain ⟨k, rfl⟩ := Int.eq_ofNat_of_zero_le h0
  obtain ⟨b, hbe⟩ := Int.eq_ofNat_of_zero_le (a := m.fBase) (by omega)
  rw [hbe, Int.toNat_natCast, Int.toNat_natCast]
  have : Int.tdiv (k : Int) (b : Int) = ((k / b : Nat) : Int) := rfl
  rw [this]
  have hle := Nat.div_le_self k b
  generalize k / b = d at hle ⊢
  exact wr_in (by omega) (by omega)
theorem modB {m : ApiMorph} (h : MorOk m) {n : Int} (h0 : 0 ≤ n) : Int.tmod n m.fBase = ((n.toNat % m.fBase.toNat : Nat) : Int) := by
  have hb := h.base
  obtain ⟨k, rfl⟩ := Int.eq_ofNat_of_zero_le h0
  obtain ⟨b, hbe⟩ := Int.eq_ofNat_of_zero_le (a := m.fBase) (by omega)
  rw [hbe, Int.toNat_natCast, Int.toNat_natCast]
  rfl
theorem en69 : ∀ args w, (callFunc 69 args).run Try.prog w = .ok (.enter 69 args) w := enters_of Try.func69 (by kernel_rfl) rfl
def letter_vc (m : ApiMorph) (n : Int) (Q : Int → Prop) : Prop :=
  m.fImages.length ≤ 9223372036854775807 →
  m.fCoding.length ≤ 9223372036854775807 →
  (IfP (n == 0) (Q 0) ((m.fBase ≠ 0) ∧
  (m = m ∧ 0 ≤ (wr (Int.tdiv n m.fBase)) ∧ (wr (Int.tdiv n m.fBase)) < n) ∧
  ∃ e, idx m.fImages (letR m (wr (Int.tdiv n m.fBase))) = some e ∧
  (m.fBase ≠ 0) ∧
  ∃ e_2, idx e (Int.tmod n m.fBase) = some e_2 ∧
  Q e_2))
theorem letter_walk (m : ApiMorph) (n : Int) (ih : ∀ (m_0 : ApiMorph) (n_0 : Int), m_0 = m ∧ 0 ≤ n_0 ∧ n_0 < n → Ct 69 [.sv (.agg [I m_0.fBase, LS (lsT intT) m_0.fImages, LS intT m_0.fCoding]), .sv (.one (I n_0))] [] (fun (_ : Unit) => True) (fun _ => .sv (.one (I (letR m_0 n_0))))) (Q : Int → Prop) (h : letter_vc m n Q) : Ct 69 [.sv (.agg [I m.fBase, LS (lsT intT) m.fImages, LS intT m.fCoding]), .sv (.one (I n))] [] Q (fun (r : Int) => .sv (.one (I r))) := by
  have ht := tab_ok
  refine Ct.body Try.func69 rfl rfl rfl rfl (fun c hn => ?_)
  unfold letter_vc at h
  refine En.lenA 0 1 (by rfl) (by rfl) (fun hl => ?_)
  replace h := h hl
  clear hl
  refine En.lenA 0 2 (by rfl) (by rfl) (fun hl => ?_)
  replace h := h hl
  clear hl
  refine En.seq ?_
  refine En.region ?_
  refine WL.run ht hn 2 ⟨[(1, .sv (.one (I n))), (2, .sv (.one (.ptr 0 0)))], [.box [I m.fBase, LS (lsT intT) m.fImages, LS intT m.fCoding] 67 false]⟩ (by kernel_rfl) ?_
  refine WL.nil ?_
  refine En.seq ?_
  refine En.seq ?_
  refine En.region ?_
  refine WL.run ht hn 2 ⟨[(1, .sv (.one (I n))), (2, .sv (.one (.ptr 0 0))), (6, .sv (.one (B (n == 0))))], [.box [I m.fBase, LS (lsT intT) m.fImages, LS intT m.fCoding] 67 false]⟩ (by kernel_rfl) ?_
  refine WL.nil ?_
  refine En.cond (b := (n == 0)) (by kernel_rfl) (fun hb => ?_) (fun hb => ?_)
  · replace h := h.1 hb
    refine En.seq ?_
    refine En.region ?_
    refine WL.run ht hn 1 ⟨[(4, .sv (.one (I 0)))], [.gone]⟩ (by kernel_rfl) ?_
    refine WL.nil ?_
    refine En.ret ?_
    exact En.back ht 0 h (by kernel_rfl) rfl
  · replace h := h.2 hb
    refine En.skip ?_
    refine En.seq ?_
    have hz := h.1
    replace h := h.2
    have hp_2 := h.1
    replace h := h.2
    obtain ⟨e, he, h⟩ := h
    have hz_2 := h.1
    replace h := h.2
    obtain ⟨e_2, he_2, h⟩ := h
    refine En.regionA ⟨[(1, .sv (.one (I n))), (2, .sv (.one (.ptr 0 0)))], [.sv (.one (.ptr 0 1)), .sv (.one (LS (lsT intT) m.fImages)), .sv (.agg [I m.fBase, LS (lsT intT) m.fImages, LS intT m.fCoding]), .sv (.one (I n)), .sv (.one (.ptr 0 0)), .sv (.one (I m.fBase)), .sv (.one (I (wr (Int.tdiv n m.fBase)))), .sv (.one (I (letR m (wr (Int.tdiv n m.fBase))))), .sv (.one (.pe (svR (.one (LS intT e))) 1)), .sv (.one (LS intT e)), .sv (.one (I n)), .sv (.one (.ptr 0 0)), .sv (.one (I m.fBase)), .sv (.one (I (Int.tmod n m.fBase))), .sv (.one (.pe (svR (.one (I e_2))) 1)), .sv (.one (I e_2)), .sv (.one (I e_2))], [⟨.box [I m.fBase, LS (lsT intT) m.fImages, LS intT m.fCoding] 67 false, none, none, none⟩]⟩ ⟨[(4, .sv (.one (I e_2)))], [.gone]⟩ (by kernel_rfl) hn (by kernel_rfl) (by rfl) (by kernel_rfl) ?_ (by kernel_rfl) ?_
    · exact ⟨.mt ⟨[(2, .sv (.one (.ptr 0 0)))], []⟩ [] none (by kernel_rfl) (by rfl) (mt_ev ht (by kernel_rfl)) rfl rfl rfl rfl,
    .mt ⟨[(7, .sv (.one (.ptr 0 1)))], [.box [I m.fBase, LS (lsT intT) m.fImages, LS intT m.fCoding] 67 false]⟩ [] none (by kernel_rfl) (by rfl) (mt_ev ht (by kernel_rfl)) rfl rfl rfl rfl,
    .mt ⟨[(2, .sv (.one (.ptr 0 0)))], [.box [I m.fBase, LS (lsT intT) m.fImages, LS intT m.fCoding] 67 false]⟩ [] none (by kernel_rfl) (by rfl) (mt_ev ht (by kernel_rfl)) rfl rfl rfl rfl,
    .mt ⟨[(1, .sv (.one (I n)))], []⟩ [] none (by kernel_rfl) (by rfl) (mt_ev ht (by kernel_rfl)) rfl rfl rfl rfl,
    .mt ⟨[(2, .sv (.one (.ptr 0 0)))], []⟩ [] none (by kernel_rfl) (by rfl) (mt_ev ht (by kernel_rfl)) rfl rfl rfl rfl,
    .mt ⟨[(11, .sv (.one (.ptr 0 0)))], [.box [I m.fBase, LS (lsT intT) m.fImages, LS intT m.fCoding] 67 false]⟩ [] none (by kernel_rfl) (by rfl) (mt_ev ht (by kernel_rfl)) rfl rfl rfl rfl,
    .mt ⟨[(10, .sv (.one (I n))), (12, .sv (.one (I m.fBase)))], []⟩ [] none (by kernel_rfl) (by rfl) (mt_val (val_div (u := n) (v := m.fBase) rfl (by rfl) (by rfl) hz (.inl ⟨rfl, rfl⟩))) rfl rfl rfl rfl,
    .mt ⟨[(9, .sv (.agg [I m.fBase, LS (lsT intT) m.fImages, LS intT m.fCoding])), (13, .sv (.one (I (wr (Int.tdiv n m.fBase)))))], []⟩ [] none (by kernel_rfl) (by rfl) (mt_call (ih m (wr (Int.tdiv n m.fBase)) hp_2) en69 (caps := []) [] rfl (by rfl) (by kernel_rfl) (by kernel_rfl) (by rfl) (by rfl) (by rfl)) rfl rfl rfl rfl,
    .mt ⟨[(8, .sv (.one (LS (lsT intT) m.fImages))), (14, .sv (.one (I (letR m (wr (Int.tdiv n m.fBase))))))], []⟩ [] none (by kernel_rfl) (by rfl) (mt_val (val_index (T := (lsT intT)) (l := m.fImages) (i := (letR m (wr (Int.tdiv n m.fBase)))) ht rfl (by rfl) (by rfl) (by rfl) (by rfl) (by rfl) (by rfl) he)) rfl rfl rfl rfl,
    .mt ⟨[(15, .sv (.one (.pe (svR (.one (LS intT e))) 1)))], []⟩ [] none (by kernel_rfl) (by rfl) (mt_val (val_load (s := .one (LS intT e)) ht rfl (by rfl) (by rfl) (by rfl) (by rfl) (by rfl))) rfl rfl rfl rfl,
    .mt ⟨[(1, .sv (.one (I n)))], []⟩ [] none (by kernel_rfl) (by rfl) (mt_ev ht (by kernel_rfl)) rfl rfl rfl rfl,
    .mt ⟨[(2, .sv (.one (.ptr 0 0)))], []⟩ [] none (by kernel_rfl) (by rfl) (mt_ev ht (by kernel_rfl)) rfl rfl rfl rfl,
    .mt ⟨[(18, .sv (.one (.ptr 0 0)))], [.box [I m.fBase, LS (lsT intT) m.fImages, LS intT m.fCoding] 67 false]⟩ [] none (by kernel_rfl) (by rfl) (mt_ev ht (by kernel_rfl)) rfl rfl rfl rfl,
    .mt ⟨[(17, .sv (.one (I n))), (19, .sv (.one (I m.fBase)))], []⟩ [] none (by kernel_rfl) (by rfl) (mt_val (val_div (u := n) (v := m.fBase) rfl (by rfl) (by rfl) hz_2 (.inr ⟨rfl, rfl⟩))) rfl rfl rfl rfl,
    .mt ⟨[(16, .sv (.one (LS intT e))), (20, .sv (.one (I (Int.tmod n m.fBase))))], []⟩ [] none (by kernel_rfl) (by rfl) (mt_val (val_index (T := intT) (l := e) (i := (Int.tmod n m.fBase)) ht rfl (by rfl) (by rfl) (by rfl) (by rfl) (by rfl) (by rfl) he_2)) rfl rfl rfl rfl,
    .mt ⟨[(21, .sv (.one (.pe (svR (.one (I e_2))) 1)))], []⟩ [] none (by kernel_rfl) (by rfl) (mt_val (val_load (s := .one (I e_2)) ht rfl (by rfl) (by rfl) (by rfl) (by rfl) (by rfl))) rfl rfl rfl rfl,
    .mt ⟨[(22, .sv (.one (I e_2)))], []⟩ [] none (by kernel_rfl) (by rfl) (mt_ev ht (by kernel_rfl)) rfl rfl rfl rfl,
    trivial⟩
    · refine En.ret ?_
      exact En.back ht e_2 h (by kernel_rfl) rfl
theorem letter_ct (m : ApiMorph) (n : Int) (hp : LetPre m n) : Ct 69 [.sv (.agg [I m.fBase, LS (lsT intT) m.fImages, LS intT m.fCoding]), .sv (.one (I n))] [] (fun (_ : Unit) => True) (fun _ => .sv (.one (I (letR m n)))) := by
  obtain ⟨h, h0, h1⟩ := hp
  obtain ⟨k, rfl⟩ := Int.eq_ofNat_of_zero_le h0
  induction k using Nat.strongRecOn with
  | _ k IH =>
    have hb := h.base
    have hsz := h.size
    refine (letter_walk m (k : Int) (fun m' n' hn => ?_) (fun r => r = letR m (k : Int)) ?_).fun
    · obtain ⟨rfl, hn0, hn1⟩ := hn
      obtain ⟨j, rfl⟩ := Int.eq_ofNat_of_zero_le hn0
      exact IH j (by omega) hn0 (by omega)
    · intro _ _
      refine ⟨fun hz => ?_, fun hz => ?_⟩
      · have : (k : Int) = 0 := by simpa using hz
        show 0 = letR m (k : Int)
        rw [this]
        show 0 = letN m 0
        rw [letN, dif_pos rfl]
      · have hz : k ≠ 0 := by have : (k : Int) ≠ 0 := by simpa using hz
                              omega
        have hlt := Nat.div_lt_self (n := k) (k := m.fBase.toNat) (by omega) (by omega)
        rw [divB h h0 h1, modB h h0, Int.toNat_natCast]
        have hin := letN_in h (k / m.fBase.toNat)
        have hl : letR m ((k / m.fBase.toNat : Nat) : Int) = letN m (k / m.fBase.toNat) := rfl
        rw [hl]
        have hm := getD_mem (l := m.fImages) (i := (letN m (k / m.fBase.toNat)).toNat) (z := []) (by omega)
        have hr := h.rows _ hm
        have hmod := Nat.mod_lt k (y := m.fBase.toNat) (by omega)
        refine ⟨by omega, ⟨rfl, Int.natCast_nonneg _, by exact_mod_cast hlt⟩, _, idx_of [] hin.1 hin.2, by omega, _, idx_of 0 (by omega) (by omega), ?_⟩
        show _ = letN m k
        rw [letN_pos h hz]
        rfl
def atR (m : ApiMorph) (n : Int) : Int × Int := if seqErr m = 0 then (if n < 0 then (0, 2) else (m.fCoding.getD (letR m n).toNat 0, 0)) else (0, seqErr m)
def seqAt_vc (m : ApiMorph) (n : Int) (Q : (Int × Int) → Prop) : Prop :=
  m.fImages.length ≤ 9223372036854775807 →
  m.fCoding.length ≤ 9223372036854775807 →
  (IfP ((seqErr m) != 0) (Q (0, (seqErr m))) (IfP (decide (n < 0)) (Q (0, 2)) ((LetPre m n) ∧
  ∃ e, idx m.fCoding (letR m n) = some e ∧
  Q (e, 0))))
theorem seqAt_walk (m : ApiMorph) (n : Int) (Q : (Int × Int) → Prop) (h : seqAt_vc m n Q) : Ct 30 [.sv (.agg [I m.fBase, LS (lsT intT) m.fImages, LS intT m.fCoding]), .sv (.one (I n))] [] Q (fun (r : (Int × Int)) => .tup [.one (I r.1), .one (I r.2)]) := by
  have ht := tab_ok
  refine Ct.body Try.func30 rfl rfl rfl rfl (fun c hn => ?_)
  unfold seqAt_vc at h
  refine En.lenA 0 1 (by rfl) (by rfl) (fun hl => ?_)
  replace h := h hl
  clear hl
  refine En.lenA 0 2 (by rfl) (by rfl) (fun hl => ?_)
  replace h := h hl
  clear hl
  refine En.seq ?_
  refine En.region ?_
  refine WL.run ht hn 3 ⟨[(1, .sv (.one (I n))), (2, .sv (.one (.ptr 0 0)))], [.box [I m.fBase, LS (lsT intT) m.fImages, LS intT m.fCoding] 67 false]⟩ (by kernel_rfl) ?_
  refine WL.nil ?_
  refine En.seq ?_
  refine En.seq ?_
  refine En.region ?_
  refine WL.run ht hn 1 ⟨[(1, .sv (.one (I n))), (2, .sv (.one (.ptr 0 0))), (7, .sv (.agg [I m.fBase, LS (lsT intT) m.fImages, LS intT m.fCoding]))], [.box [I m.fBase, LS (lsT intT) m.fImages, LS intT m.fCoding] 67 false]⟩ (by kernel_rfl) ?_
  refine WL.mt0 (K := []) (p := none) hn (by rfl) (mt_call (seqCheck_ct m) en64 (caps := []) [] rfl (by rfl) (by kernel_rfl) (by kernel_rfl) (by rfl) (by rfl) (by rfl)) (by rfl) (by rfl) (by rfl) ?_
  refine WL.run ht hn 1 ⟨[(1, .sv (.one (I n))), (2, .sv (.one (.ptr 0 0))), (6, .sv (.one (I (seqErr m))))], [.box [I m.fBase, LS (lsT intT) m.fImages, LS intT m.fCoding] 67 false]⟩ (by kernel_rfl) ?_
  refine WL.nil ?_
  refine En.seq ?_
  refine En.region ?_
  refine WL.run ht hn 2 ⟨[(1, .sv (.one (I n))), (2, .sv (.one (.ptr 0 0))), (6, .sv (.one (I (seqErr m)))), (10, .sv (.one (B ((seqErr m) != 0))))], [.box [I m.fBase, LS (lsT intT) m.fImages, LS intT m.fCoding] 67 false]⟩ (by kernel_rfl) ?_
  refine WL.nil ?_
  refine En.cond (b := ((seqErr m) != 0)) (by kernel_rfl) (fun hb => ?_) (fun hb => ?_)
  · replace h := h.1 hb
    refine En.seq ?_
    refine En.region ?_
    refine WL.run ht hn 3 ⟨[(4, .sv (.one (I 0))), (5, .sv (.one (I (seqErr m))))], [.gone]⟩ (by kernel_rfl) ?_
    refine WL.nil ?_
    refine En.ret ?_
    exact En.back ht (0, (seqErr m)) h (by kernel_rfl) rfl
  · replace h := h.2 hb
    refine En.skip ?_
    refine En.seq ?_
    refine En.seq ?_
    refine En.region ?_
    refine WL.run ht hn 2 ⟨[(1, .sv (.one (I n))), (2, .sv (.one (.ptr 0 0))), (13, .sv (.one (B (decide (n < 0)))))], [.box [I m.fBase, LS (lsT intT) m.fImages, LS intT m.fCoding] 67 false]⟩ (by kernel_rfl) ?_
    refine WL.nil ?_
    refine En.cond (b := (decide (n < 0))) (by kernel_rfl) (fun hb => ?_) (fun hb => ?_)
    · replace h := h.1 hb
      refine En.seq ?_
      refine En.region ?_
      refine WL.run ht hn 2 ⟨[(4, .sv (.one (I 0))), (5, .sv (.one (I 2)))], [.gone]⟩ (by kernel_rfl) ?_
      refine WL.nil ?_
      refine En.ret ?_
      exact En.back ht (0, 2) h (by kernel_rfl) rfl
    · replace h := h.2 hb
      refine En.skip ?_
      refine En.seq ?_
      have hp_2 := h.1
      replace h := h.2
      obtain ⟨e, he, h⟩ := h
      refine En.regionA ⟨[(1, .sv (.one (I n))), (2, .sv (.one (.ptr 0 0)))], [.sv (.one (.ptr 0 2)), .sv (.one (LS intT m.fCoding)), .sv (.agg [I m.fBase, LS (lsT intT) m.fImages, LS intT m.fCoding]), .sv (.one (I n)), .sv (.one (I (letR m n))), .sv (.one (.pe (svR (.one (I e))) 1)), .sv (.one (I e)), .sv (.one (I e)), .sv (.one (I 0))], [⟨.box [I m.fBase, LS (lsT intT) m.fImages, LS intT m.fCoding] 67 false, none, none, none⟩]⟩ ⟨[(4, .sv (.one (I e))), (5, .sv (.one (I 0)))], [.gone]⟩ (by kernel_rfl) hn (by kernel_rfl) (by rfl) (by kernel_rfl) ?_ (by kernel_rfl) ?_
      · exact ⟨.mt ⟨[(2, .sv (.one (.ptr 0 0)))], []⟩ [] none (by kernel_rfl) (by rfl) (mt_ev ht (by kernel_rfl)) rfl rfl rfl rfl,
    .mt ⟨[(14, .sv (.one (.ptr 0 2)))], [.box [I m.fBase, LS (lsT intT) m.fImages, LS intT m.fCoding] 67 false]⟩ [] none (by kernel_rfl) (by rfl) (mt_ev ht (by kernel_rfl)) rfl rfl rfl rfl,
    .mt ⟨[(2, .sv (.one (.ptr 0 0)))], [.box [I m.fBase, LS (lsT intT) m.fImages, LS intT m.fCoding] 67 false]⟩ [] none (by kernel_rfl) (by rfl) (mt_ev ht (by kernel_rfl)) rfl rfl rfl rfl,
    .mt ⟨[(1, .sv (.one (I n)))], []⟩ [] none (by kernel_rfl) (by rfl) (mt_ev ht (by kernel_rfl)) rfl rfl rfl rfl,
    .mt ⟨[(16, .sv (.agg [I m.fBase, LS (lsT intT) m.fImages, LS intT m.fCoding])), (17, .sv (.one (I n)))], []⟩ [] none (by kernel_rfl) (by rfl) (mt_call (letter_ct m n hp_2) en69 (caps := []) [] rfl (by rfl) (by kernel_rfl) (by kernel_rfl) (by rfl) (by rfl) (by rfl)) rfl rfl rfl rfl,
    .mt ⟨[(15, .sv (.one (LS intT m.fCoding))), (18, .sv (.one (I (letR m n))))], []⟩ [] none (by kernel_rfl) (by rfl) (mt_val (val_index (T := intT) (l := m.fCoding) (i := (letR m n)) ht rfl (by rfl) (by rfl) (by rfl) (by rfl) (by rfl) (by rfl) he)) rfl rfl rfl rfl,
    .mt ⟨[(19, .sv (.one (.pe (svR (.one (I e))) 1)))], []⟩ [] none (by kernel_rfl) (by rfl) (mt_val (val_load (s := .one (I e)) ht rfl (by rfl) (by rfl) (by rfl) (by rfl) (by rfl))) rfl rfl rfl rfl,
    .mt ⟨[(20, .sv (.one (I e)))], []⟩ [] none (by kernel_rfl) (by rfl) (mt_ev ht (by kernel_rfl)) rfl rfl rfl rfl,
    .mt ⟨[], []⟩ [] none (by kernel_rfl) (by rfl) (mt_ev ht (by kernel_rfl)) rfl rfl rfl rfl,
    trivial⟩
      · refine En.ret ?_
        exact En.back ht (e, 0) h (by kernel_rfl) rfl
theorem en30 : ∀ args w, (callFunc 30 args).run Try.prog w = .ok (.enter 30 args) w := enters_of Try.func30 (by kernel_rfl) rfl
theorem seqAt_ct (m : ApiMorph) (n : Int) (hp : n ≤ 1000000000000000)  : Ct 30 [.sv (.agg [I m.fBase, LS (lsT intT) m.fImages, LS intT m.fCoding]), .sv (.one (I n))] [] (fun (_ : Unit) => True) (fun _ => .tup [.one (I (atR m n).1), .one (I (atR m n).2)]) := by
  refine (seqAt_walk m n (fun res_ => res_ = (atR m n)) ?_).fun
  intro _ _
  refine ⟨fun h => ?_, fun h => ⟨fun h2 => ?_, fun h2 => ?_⟩⟩
  · show _ = atR m n
    unfold atR
    rw [if_neg (by simpa using h)]
  · show _ = atR m n
    unfold atR
    rw [if_pos (by simpa using h), if_pos (of_decide_eq_true h2)]
  have h : seqErr m = 0 := by simpa using h
  have h2 := of_decide_eq_false h2
  have hm := seqErr_ok h
  have hin := letN_in hm n.toNat
  refine ⟨⟨hm, by omega, hp⟩, _, idx_of (l := m.fCoding) (i := letR m n) 0 hin.1 (by rw [hm.coding]; exact hin.2), ?_⟩
  show _ = atR m n
  unfold atR
  rw [if_pos h, if_neg h2]
end Go.Proofs.Ytfpdnigihjmohaa

/- seqs.counts, seqs.Counts. No condition. -/
namespace Go.Proofs.Ytfpdnigihjmohaa
open Go.RowKit Go.MapKept
set_option linter.unusedSimpArgs false
set_option linter.unusedVariables false
set_option maxRecDepth 100000

/-- how often a letter stands below a place -/
def cntN (m : ApiMorph) (n : Nat) (b : Nat) : Nat := (List.range n).countP fun k => letN m k == (b : Int)
/-- how often b stands in the image of a -/
def occ (m : ApiMorph) (a b : Nat) : Nat := (m.fImages.getD a []).countP fun x => x == (b : Int)
/-- what the first k letters bring -/
def brings (m : ApiMorph) (q : Nat) (k b : Nat) : Nat := ((List.range k).map fun a => cntN m q a * occ m a b).sum
theorem brings_succ (m : ApiMorph) (q k b : Nat) : brings m q (k + 1) b = brings m q k b + cntN m q k * occ m k b := by
  unfold brings
  rw [List.range_succ, List.map_append, List.sum_append]
  simp
theorem cntN_succ (m : ApiMorph) (n b : Nat) : cntN m (n + 1) b = cntN m n b + if letN m n = (b : Int) then 1 else 0 := by
  unfold cntN
  rw [List.range_succ, List.countP_append]
  by_cases h : letN m n = (b : Int) <;> simp [h]
theorem sum_pick {f : Nat → Nat} {c : Nat} : ∀ k, ((List.range k).map fun a => if c = a then f a else 0).sum = if c < k then f c else 0
  | 0 => by simp
  | k + 1 => by
    rw [List.range_succ, List.map_append, List.sum_append, sum_pick k]
    by_cases h : c = k
    · subst h; simp
    · by_cases h2 : c < k
      · rw [if_pos h2, if_pos (by omega)]; simp [h]
      · rw [if_neg h2, if_neg (by omega)]; simp [h]
theorem sum_add {f g : Nat → Nat} : ∀ k, ((List.range k).map fun a => f a + g a).sum = ((List.range k).map f).sum + ((List.range k).map g).sum
  | 0 => by simp
  | k + 1 => by
    rw [List.range_succ, List.map_append, List.map_append, List.map_append, List.sum_append, List.sum_append, List.sum_append, sum_add k]
    simp
    omega
theorem count_block {m : ApiMorph} (h : MorOk m) (q b : Nat) : ∀ d, d ≤ m.fBase.toNat → cntN m (q * m.fBase.toNat + d) b = cntN m (q * m.fBase.toNat) b + ((m.fImages.getD (letN m q).toNat []).take d).countP fun x => x == (b : Int)
  | 0, _ => by simp
  | d + 1, hd => by
    have hb := h.base
    have hin := letN_in h q
    have hm := getD_mem (l := m.fImages) (i := (letN m q).toNat) (z := []) (by omega)
    have hr := h.rows _ hm
    have hlt : d < (m.fImages.getD (letN m q).toNat []).length := by omega
    rw [show q * m.fBase.toNat + (d + 1) = (q * m.fBase.toNat + d) + 1 by omega, cntN_succ, count_block h q b d (by omega), List.take_add_one, List.countP_append, List.getElem?_eq_getElem hlt]
    have e : letN m (q * m.fBase.toNat + d) = (m.fImages.getD (letN m q).toNat [])[d] := by
      have hg : (m.fImages.getD (letN m q).toNat []).getD d 0 = (m.fImages.getD (letN m q).toNat [])[d] := by rw [List.getD_eq_getElem?_getD, List.getElem?_eq_getElem hlt]; rfl
      rw [← hg]
      have hd1 : (q * m.fBase.toNat + d) / m.fBase.toNat = q := by
        rw [Nat.mul_comm, Nat.mul_add_div (by omega), Nat.div_eq_of_lt (by omega), Nat.add_zero]
      have hd2 : (q * m.fBase.toNat + d) % m.fBase.toNat = d := by
        rw [Nat.mul_comm, Nat.mul_add_mod, Nat.mod_eq_of_lt (by omega)]
      by_cases hz : q * m.fBase.toNat + d = 0
      · have hq : q = 0 := by
          rcases Nat.eq_zero_of_add_eq_zero hz with ⟨h1, _⟩
          rcases Nat.mul_eq_zero.1 h1 with h1 | h1
          · exact h1
          · omega
        have hd0 : d = 0 := by omega
        subst hq hd0
        have h0 : letN m 0 = 0 := by rw [letN, dif_pos rfl]
        rw [hz, h0]
        exact h.first.symm
      · rw [letN_pos h hz, hd1, hd2]
    rw [e]
    by_cases hx : (m.fImages.getD (letN m q).toNat [])[d] = (b : Int)
    · simp [hx] <;> omega
    · simp [hx] <;> omega
/-- MORPHISMS COUNT: what stands below q times the base is what the letters below q bring -/
theorem brings_all {m : ApiMorph} (h : MorOk m) (b : Nat) : ∀ q, brings m q m.fImages.length b = cntN m (q * m.fBase.toNat) b
  | 0 => by
    unfold brings cntN
    rw [Nat.zero_mul]
    have : ∀ k, ((List.range k).map fun (a : Nat) => List.countP (fun k => letN m k == (a : Int)) (List.range 0) * occ m a b).sum = 0 := by
      intro k
      induction k with
      | zero => rfl
      | succ k ih =>
        rw [List.range_succ, List.map_append, List.sum_append, ih]
        simp
    rw [this]
    simp
  | q + 1 => by
    have hb := h.base
    have hin := letN_in h q
    have hm := getD_mem (l := m.fImages) (i := (letN m q).toNat) (z := []) (by omega)
    have hr := h.rows _ hm
    have h1 := count_block h q b m.fBase.toNat (Nat.le_refl _)
    rw [List.take_of_length_le (by omega)] at h1
    rw [Nat.succ_mul, h1, ← brings_all h b q]
    have e : ∀ a, cntN m (q + 1) a * occ m a b = cntN m q a * occ m a b + if (letN m q).toNat = a then occ m a b else 0 := fun a => by
      rw [cntN_succ, Nat.add_mul]
      by_cases hx : (letN m q).toNat = a
      · rw [if_pos hx, if_pos (by omega), Nat.one_mul]
      · rw [if_neg hx, if_neg (by omega), Nat.zero_mul]
    unfold brings
    rw [List.map_congr_left fun a _ => e a, sum_add, sum_pick, if_pos (by omega)]
    rfl
/-- counts as the program has them -/
def cntL (n : Nat) (f : Nat → Nat) : List Int := (List.range n).map fun a => ((f a : Nat) : Int)
theorem cntL_len {n : Nat} {f : Nat → Nat} : (cntL n f).length = n := by simp [cntL]
theorem cntL_at {n : Nat} {f : Nat → Nat} {k : Nat} (h : k < n) (z : Int) : (cntL n f).getD k z = f k := by
  unfold cntL
  rw [List.getD_eq_getElem?_getD, List.getElem?_map, List.getElem?_range h]
  rfl
theorem cntL_congr {n : Nat} {f g : Nat → Nat} (h : ∀ a, a < n → f a = g a) : cntL n f = cntL n g := List.map_congr_left fun a ha => by rw [h a (List.mem_range.1 ha)]
theorem cntL_set {n : Nat} {f : Nat → Nat} {c x : Nat} : (cntL n f).set c ((f c + x : Nat) : Int) = cntL n fun a => f a + if a = c then x else 0 := by
  refine List.ext_getElem? fun j => ?_
  unfold cntL
  rw [List.getElem?_set]
  by_cases hj : j < n
  · by_cases e : c = j
    · subst e
      rw [if_pos rfl, if_pos (by simpa using hj)]
      simp [hj]
    · rw [if_neg e]
      simp [hj, Ne.symm e]
  · by_cases e : c = j
    · subst e
      rw [if_pos rfl, if_neg (by simpa using hj)]
      simp [hj]
    · rw [if_neg e]
      simp [hj]
def cntR (m : ApiMorph) (n : Int) : List Int := cntL m.fImages.length (cntN m n.toNat)
theorem occ_le {m : ApiMorph} (h : MorOk m) (a b : Nat) : occ m a b ≤ 4 := by
  unfold occ
  have h1 := List.countP_le_length (p := fun x => x == (b : Int)) (l := m.fImages.getD a [])
  by_cases ha : a < m.fImages.length
  · have := h.rows _ (getD_mem (z := []) ha)
    have := h.base
    omega
  · rw [List.getD_eq_getElem?_getD, List.getElem?_eq_none (by omega)]
    simp
theorem cntN_le (m : ApiMorph) (n b : Nat) : cntN m n b ≤ n := by
  unfold cntN
  have := List.countP_le_length (p := fun k => letN m k == (b : Int)) (l := List.range n)
  simpa using this
theorem brings_le {m : ApiMorph} (h : MorOk m) (q : Nat) : ∀ k b, brings m q k b ≤ k * (q * 4)
  | 0, b => by simp [brings]
  | k + 1, b => by
    have h1 := brings_le h q k b
    have h2 := Nat.mul_le_mul (cntN_le m q k) (occ_le h k b)
    rw [brings_succ, Nat.succ_mul]
    omega
theorem en68 : ∀ args w, (callFunc 68 args).run Try.prog w = .ok (.enter 68 args) w := enters_of Try.func68 (by kernel_rfl) rfl
def counts_vc (m : ApiMorph) (n : Int) (Q : (List Int) → Prop) : Prop :=
  m.fImages.length ≤ 9223372036854775807 →
  m.fCoding.length ≤ 9223372036854775807 →
  (makeOk (m.fImages.length : Int) (m.fImages.length : Int) 8 ∧
  IfP (n == 0) (Q (List.replicate ((m.fImages.length : Int)).toNat (0 : Int))) (IfP (n == 1) (∃ e, idx (List.replicate ((m.fImages.length : Int)).toNat (0 : Int)) 0 = some e ∧
  Q ((List.replicate ((m.fImages.length : Int)).toNat (0 : Int)).set (0 : Int).toNat 1)) ((m.fBase ≠ 0) ∧
  (m = m ∧ 0 ≤ (wr (Int.tdiv n m.fBase)) ∧ (wr (Int.tdiv n m.fBase)) < n) ∧
  ∃ (Inv : Int → (List Int) → Prop) (mu : Int → (List Int) → Nat), Inv 0 (List.replicate ((m.fImages.length : Int)).toNat (0 : Int)) ∧
  ∀ (x30 : Int) (l1 : (List Int)) , Inv x30 l1 → (IfP (decide (x30 < ((cntR m (wr (Int.tdiv n m.fBase))).length : Int))) (∃ e_2, idx (cntR m (wr (Int.tdiv n m.fBase))) x30 = some e_2 ∧
  ∃ e_3, idx m.fImages x30 = some e_3 ∧
  ∃ (Inv_2 : Int → (List Int) → Prop) (mu_2 : Int → (List Int) → Nat), Inv_2 0 l1 ∧
  ∀ (x41 : Int) (l1_2 : (List Int)) , Inv_2 x41 l1_2 → (IfP (decide (x41 < (e_3.length : Int))) (∃ e_4, idx e_3 x41 = some e_4 ∧
  ∃ e_5, idx l1_2 e_4 = some e_5 ∧
  ∃ e_6, idx l1_2 e_4 = some e_6 ∧
  (Inv_2 (wr (x41 + 1)) (l1_2.set (e_4).toNat (wr (e_5 + e_2))) ∧ mu_2 (wr (x41 + 1)) (l1_2.set (e_4).toNat (wr (e_5 + e_2))) < mu_2 x41 l1_2)) ((Inv (wr (x30 + 1)) l1_2 ∧ mu (wr (x30 + 1)) l1_2 < mu x30 l1)))) ((m.fBase ≠ 0) ∧
  ∃ (Inv_3 : Int → (List Int) → Prop) (mu_3 : Int → (List Int) → Nat), Inv_3 (wr ((wr (Int.tdiv n m.fBase)) * m.fBase)) l1 ∧
  ∀ (x10 : Int) (l1_3 : (List Int)) , Inv_3 x10 l1_3 → (IfP (decide (x10 < n)) ((LetPre m x10) ∧
  ∃ e_7, idx l1_3 (letR m x10) = some e_7 ∧
  ∃ e_8, idx l1_3 (letR m x10) = some e_8 ∧
  (Inv_3 (wr (x10 + 1)) (l1_3.set ((letR m x10)).toNat (wr (e_7 + 1))) ∧ mu_3 (wr (x10 + 1)) (l1_3.set ((letR m x10)).toNat (wr (e_7 + 1))) < mu_3 x10 l1_3)) (Q l1_3)))))))
set_option maxHeartbeats 2000000 in
theorem counts_walk (m : ApiMorph) (n : Int) (ih : ∀ (m_0 : ApiMorph) (n_0 : Int), m_0 = m ∧ 0 ≤ n_0 ∧ n_0 < n → CtI 68 [.sv (.agg [I m_0.fBase, LS (lsT intT) m_0.fImages, LS intT m_0.fCoding]), .sv (.one (I n_0))] [] (rowI 3 intT (cntR m_0 n_0))) (Q : (List Int) → Prop) (h : counts_vc m n Q) : CtJ 68 [.sv (.agg [I m.fBase, LS (lsT intT) m.fImages, LS intT m.fCoding]), .sv (.one (I n))] [] Q (fun (r : (List Int)) => rowI 3 intT r) := by
  have ht := tab_ok
  refine CtJ.body Try.func68 rfl rfl rfl rfl (fun c hn hmay => ?_)
  unfold counts_vc at h
  refine En.lenA 0 1 (by rfl) (by rfl) (fun hl => ?_)
  replace h := h hl
  clear hl
  refine En.lenA 0 2 (by rfl) (by rfl) (fun hl => ?_)
  replace h := h hl
  clear hl
  refine En.seq ?_
  refine En.region ?_
  refine WL.run ht hn 2 ⟨[(1, .sv (.one (I n))), (2, .sv (.one (.ptr 0 0)))], [.box [I m.fBase, LS (lsT intT) m.fImages, LS intT m.fCoding] 67 false]⟩ (by kernel_rfl) ?_
  refine WL.nil ?_
  refine En.seq ?_
  refine En.region ?_
  refine WL.run ht hn 3 ⟨[(1, .sv (.one (I n))), (2, .sv (.one (.ptr 0 0))), (13, .sv (.one (I (m.fImages.length : Int))))], [.box [I m.fBase, LS (lsT intT) m.fImages, LS intT m.fCoding] 67 false]⟩ (by kernel_rfl) ?_
  have hp := h.1
  replace h := h.2
  refine WL.mt0 (K := []) (p := some (1, rowI 3 intT (List.replicate ((m.fImages.length : Int)).toNat (0 : Int)))) hn (by rfl) (mt_make (T := intT) (0 : Int) (zv := (.int .i64 0)) 1 (l := (m.fImages.length : Int)) (cp := (m.fImages.length : Int)) ht rfl (by rfl) (by rfl) (by rfl) (by rfl) (by decide) (by rfl) (by rfl) hp.1 hp.2.1 hp.2.2 (hp.le (by decide)) rfl (fun _ => ⟨rfl, trivial⟩)) (by rfl) (by rfl) (by rfl) ?_
  refine WL.run ht hn 1 ⟨[(1, .sv (.one (I n))), (2, .sv (.one (.ptr 0 0))), (5, .sv (.one (.own 1)))], [.box [I m.fBase, LS (lsT intT) m.fImages, LS intT m.fCoding] 67 false, rowI 3 intT (List.replicate ((m.fImages.length : Int)).toNat (0 : Int))]⟩ (by kernel_rfl) ?_
  refine WL.nil ?_
  refine En.seq ?_
  refine En.seq ?_
  refine En.region ?_
  refine WL.run ht hn 2 ⟨[(1, .sv (.one (I n))), (2, .sv (.one (.ptr 0 0))), (5, .sv (.one (.own 1))), (16, .sv (.one (B (n == 0))))], [.box [I m.fBase, LS (lsT intT) m.fImages, LS intT m.fCoding] 67 false, rowI 3 intT (List.replicate ((m.fImages.length : Int)).toNat (0 : Int))]⟩ (by kernel_rfl) ?_
  refine WL.nil ?_
  refine En.cond (b := (n == 0)) (by kernel_rfl) (fun hb => ?_) (fun hb => ?_)
  · replace h := h.1 hb
    refine En.seq ?_
    refine En.region ?_
    refine WL.run ht hn 2 ⟨[(4, .sv (.one (.own 1)))], [.gone, rowI 3 intT (List.replicate ((m.fImages.length : Int)).toNat (0 : Int))]⟩ (by kernel_rfl) ?_
    refine WL.nil ?_
    refine En.ret ?_
    exact En.backJ (itf := fun l => rowI 3 intT l) hmay (by rfl) (by rfl) rfl rfl h
  · replace h := h.2 hb
    refine En.skip ?_
    refine En.seq ?_
    refine En.seq ?_
    refine En.region ?_
    refine WL.run ht hn 2 ⟨[(1, .sv (.one (I n))), (2, .sv (.one (.ptr 0 0))), (5, .sv (.one (.own 1))), (19, .sv (.one (B (n == 1))))], [.box [I m.fBase, LS (lsT intT) m.fImages, LS intT m.fCoding] 67 false, rowI 3 intT (List.replicate ((m.fImages.length : Int)).toNat (0 : Int))]⟩ (by kernel_rfl) ?_
    refine WL.nil ?_
    refine En.cond (b := (n == 1)) (by kernel_rfl) (fun hb => ?_) (fun hb => ?_)
    · replace h := h.1 hb
      refine En.seq ?_
      refine En.region ?_
      refine WL.run ht hn 1 ⟨[(5, .sv (.one (.own 1))), (20, .sv (.one (.own 1)))], [.gone, rowI 3 intT (List.replicate ((m.fImages.length : Int)).toNat (0 : Int))]⟩ (by kernel_rfl) ?_
      obtain ⟨e, he, h⟩ := h
      refine WL.val hn (by rfl) (val_indexO (T := intT) (l := (List.replicate ((m.fImages.length : Int)).toNat (0 : Int))) (k := 0) ht rfl (by rfl) (by rfl) (by rfl) (by rfl) (by decide) (by rfl) (by rfl) (by rfl) he) (by rfl) ?_
      refine WL.storeO (T := intT) (l := (List.replicate ((m.fImages.length : Int)).toNat (0 : Int))) (y := 1) ht hn (by rfl) rfl (by rfl) (by rfl) (fun _ h => by cases h) (by rfl) (by rfl) (idx_lt he) (by rfl) (by rfl) (by rfl) (by rfl) ?_
      refine WL.nil ?_
      refine En.seq ?_
      refine En.region ?_
      refine WL.run ht hn 2 ⟨[(4, .sv (.one (.own 1)))], [.gone, rowI 3 intT ((List.replicate ((m.fImages.length : Int)).toNat (0 : Int)).set (0 : Int).toNat 1)]⟩ (by kernel_rfl) ?_
      refine WL.nil ?_
      refine En.ret ?_
      exact En.backJ (itf := fun l => rowI 3 intT l) hmay (by rfl) (by rfl) rfl rfl h
    · replace h := h.2 hb
      refine En.skip ?_
      refine En.seq ?_
      refine En.seq ?_
      have hz := h.1
      replace h := h.2
      have hp_2 := h.1
      replace h := h.2
      refine En.regionA ⟨[(1, .sv (.one (I n))), (2, .sv (.one (.ptr 0 0))), (5, .sv (.one (.own 1)))], [.sv (.agg [I m.fBase, LS (lsT intT) m.fImages, LS intT m.fCoding]), .sv (.one (I n)), .sv (.one (.ptr 0 0)), .sv (.one (I m.fBase)), .sv (.one (I (wr (Int.tdiv n m.fBase)))), .sv (.one (.own 2)), .sv (.one (I ((cntR m (wr (Int.tdiv n m.fBase))).length : Int))), .sv (.one (I 0))], [⟨.box [I m.fBase, LS (lsT intT) m.fImages, LS intT m.fCoding] 67 false, none, none, none⟩, ⟨rowI 3 intT (List.replicate ((m.fImages.length : Int)).toNat (0 : Int)), none, none, none⟩, ⟨rowI 3 intT (cntR m (wr (Int.tdiv n m.fBase))), some 5, none, none⟩]⟩ ⟨[(1, .sv (.one (I n))), (2, .sv (.one (.ptr 0 0))), (5, .sv (.one (.own 1))), (28, .sv (.one (.own 2))), (29, .sv (.one (I ((cntR m (wr (Int.tdiv n m.fBase))).length : Int)))), (30, .sv (.one (I 0)))], [.box [I m.fBase, LS (lsT intT) m.fImages, LS intT m.fCoding] 67 false, rowI 3 intT (List.replicate ((m.fImages.length : Int)).toNat (0 : Int)), rowI 3 intT (cntR m (wr (Int.tdiv n m.fBase)))]⟩ (by kernel_rfl) hn (by kernel_rfl) (by rfl) (by kernel_rfl) ?_ (by kernel_rfl) ?_
      · exact ⟨.mt ⟨[(2, .sv (.one (.ptr 0 0)))], [.box [I m.fBase, LS (lsT intT) m.fImages, LS intT m.fCoding] 67 false]⟩ [] none (by kernel_rfl) (by rfl) (mt_ev ht (by kernel_rfl)) rfl rfl rfl rfl,
    .mt ⟨[(1, .sv (.one (I n)))], []⟩ [] none (by kernel_rfl) (by rfl) (mt_ev ht (by kernel_rfl)) rfl rfl rfl rfl,
    .mt ⟨[(2, .sv (.one (.ptr 0 0)))], []⟩ [] none (by kernel_rfl) (by rfl) (mt_ev ht (by kernel_rfl)) rfl rfl rfl rfl,
    .mt ⟨[(25, .sv (.one (.ptr 0 0)))], [.box [I m.fBase, LS (lsT intT) m.fImages, LS intT m.fCoding] 67 false]⟩ [] none (by kernel_rfl) (by rfl) (mt_ev ht (by kernel_rfl)) rfl rfl rfl rfl,
    .mt ⟨[(24, .sv (.one (I n))), (26, .sv (.one (I m.fBase)))], []⟩ [] none (by kernel_rfl) (by rfl) (mt_val (val_div (u := n) (v := m.fBase) rfl (by rfl) (by rfl) hz (.inl ⟨rfl, rfl⟩))) rfl rfl rfl rfl,
    .mt ⟨[(23, .sv (.agg [I m.fBase, LS (lsT intT) m.fImages, LS intT m.fCoding])), (27, .sv (.one (I (wr (Int.tdiv n m.fBase)))))], []⟩ [] (some 2) (by kernel_rfl) (by rfl) (mt_callI 2 (ih m (wr (Int.tdiv n m.fBase)) hp_2) en68 (caps := []) [] rfl rfl (by rfl) (by kernel_rfl) (by kernel_rfl) (by rfl) (by rfl)) rfl rfl rfl rfl,
    .mt ⟨[(28, .sv (.one (.own 2)))], [.gone, .gone, rowI 3 intT (cntR m (wr (Int.tdiv n m.fBase)))]⟩ [] none (by kernel_rfl) (by rfl) (mt_ev ht (by kernel_rfl)) rfl rfl rfl rfl,
    .mt ⟨[], []⟩ [] none (by kernel_rfl) (by rfl) (mt_ev ht (by kernel_rfl)) rfl rfl rfl rfl,
    trivial⟩
      · refine En.block ?_
        obtain ⟨Inv, mu, h0_3, hI_3⟩ := h
        refine En.loop (σ := Int × (List Int)) (fun zz => Inv zz.1 zz.2) (fun zz => mu zz.1 zz.2) (fun zz => ⟨[(1, .sv (.one (I n))), (2, .sv (.one (.ptr 0 0))), (5, .sv (.one (.own 1))), (28, .sv (.one (.own 2))), (29, .sv (.one (I ((cntR m (wr (Int.tdiv n m.fBase))).length : Int)))), (30, .sv (.one (I zz.1)))], [.box [I m.fBase, LS (lsT intT) m.fImages, LS intT m.fCoding] 67 false, rowI 3 intT zz.2, rowI 3 intT (cntR m (wr (Int.tdiv n m.fBase)))]⟩) (0, (List.replicate ((m.fImages.length : Int)).toNat (0 : Int))) h0_3 (sub_ok (by kernel_rfl)) ?_
        rintro ⟨x30, l1⟩ h
        replace h := hI_3 _ _ h
        show En c ⟨[(1, .sv (.one (I n))), (2, .sv (.one (.ptr 0 0))), (5, .sv (.one (.own 1))), (28, .sv (.one (.own 2))), (29, .sv (.one (I ((cntR m (wr (Int.tdiv n m.fBase))).length : Int)))), (30, .sv (.one (I x30)))], [.box [I m.fBase, LS (lsT intT) m.fImages, LS intT m.fCoding] 67 false, rowI 3 intT l1, rowI 3 intT (cntR m (wr (Int.tdiv n m.fBase)))]⟩ _
        refine En.seq ?_
        refine En.region ?_
        refine WL.run ht hn 1 ⟨[(1, .sv (.one (I n))), (2, .sv (.one (.ptr 0 0))), (5, .sv (.one (.own 1))), (28, .sv (.one (.own 2))), (29, .sv (.one (I ((cntR m (wr (Int.tdiv n m.fBase))).length : Int)))), (30, .sv (.one (I x30))), (31, .sv (.one (B (decide (x30 < ((cntR m (wr (Int.tdiv n m.fBase))).length : Int))))))], [.box [I m.fBase, LS (lsT intT) m.fImages, LS intT m.fCoding] 67 false, rowI 3 intT l1, rowI 3 intT (cntR m (wr (Int.tdiv n m.fBase)))]⟩ (by kernel_rfl) ?_
        refine WL.nil ?_
        refine En.seq ?_
        refine En.cond (b := (decide (x30 < ((cntR m (wr (Int.tdiv n m.fBase))).length : Int)))) (by kernel_rfl) (fun hb => ?_) (fun hb => ?_)
        · replace h := h.1 hb
          refine En.skip ?_
          refine En.seq ?_
          refine En.block ?_
          refine En.seq ?_
          refine En.region ?_
          refine WL.run ht hn 1 ⟨[(1, .sv (.one (I n))), (2, .sv (.one (.ptr 0 0))), (5, .sv (.one (.own 1))), (28, .sv (.one (.own 2))), (29, .sv (.one (I ((cntR m (wr (Int.tdiv n m.fBase))).length : Int)))), (30, .sv (.one (I x30))), (32, .sv (.one (I x30)))], [.box [I m.fBase, LS (lsT intT) m.fImages, LS intT m.fCoding] 67 false, rowI 3 intT l1, rowI 3 intT (cntR m (wr (Int.tdiv n m.fBase)))]⟩ (by kernel_rfl) ?_
          obtain ⟨e_2, he_2, h⟩ := h
          refine WL.val hn (by rfl) (val_indexO (T := intT) (l := (cntR m (wr (Int.tdiv n m.fBase)))) (k := x30) ht rfl (by rfl) (by rfl) (by rfl) (by rfl) (by decide) (by rfl) (by rfl) (by rfl) he_2) (by rfl) ?_
          refine WL.val hn (by rfl) (val_loadO (T := intT) (l := (cntR m (wr (Int.tdiv n m.fBase)))) (y := e_2) ht rfl (by rfl) (by rfl) (by rfl) (by rfl) (by rfl) (idx_some he_2).2.2 (by rfl)) (by rfl) ?_
          refine WL.run ht hn 2 ⟨[(1, .sv (.one (I n))), (2, .sv (.one (.ptr 0 0))), (5, .sv (.one (.own 1))), (6, .sv (.one (I x30))), (7, .sv (.one (I e_2))), (28, .sv (.one (.own 2))), (29, .sv (.one (I ((cntR m (wr (Int.tdiv n m.fBase))).length : Int)))), (30, .sv (.one (I x30)))], [.box [I m.fBase, LS (lsT intT) m.fImages, LS intT m.fCoding] 67 false, rowI 3 intT l1, rowI 3 intT (cntR m (wr (Int.tdiv n m.fBase)))]⟩ (by kernel_rfl) ?_
          refine WL.nil ?_
          refine En.seq ?_
          refine En.region ?_
          refine WL.run ht hn 3 ⟨[(1, .sv (.one (I n))), (2, .sv (.one (.ptr 0 0))), (5, .sv (.one (.own 1))), (7, .sv (.one (I e_2))), (28, .sv (.one (.own 2))), (29, .sv (.one (I ((cntR m (wr (Int.tdiv n m.fBase))).length : Int)))), (30, .sv (.one (I x30))), (36, .sv (.one (LS (lsT intT) m.fImages))), (37, .sv (.one (I x30)))], [.box [I m.fBase, LS (lsT intT) m.fImages, LS intT m.fCoding] 67 false, rowI 3 intT l1, rowI 3 intT (cntR m (wr (Int.tdiv n m.fBase)))]⟩ (by kernel_rfl) ?_
          obtain ⟨e_3, he_3, h⟩ := h
          refine WL.val hn (by rfl) (val_index (T := (lsT intT)) (l := m.fImages) (i := x30) ht rfl (by rfl) (by rfl) (by rfl) (by rfl) (by rfl) (by rfl) he_3) (by rfl) ?_
          refine WL.val hn (by rfl) (val_load (s := .one (LS intT e_3)) ht rfl (by rfl) (by rfl) (by rfl) (by rfl) (by rfl)) (by rfl) ?_
          refine WL.run ht hn 2 ⟨[(1, .sv (.one (I n))), (2, .sv (.one (.ptr 0 0))), (5, .sv (.one (.own 1))), (7, .sv (.one (I e_2))), (28, .sv (.one (.own 2))), (29, .sv (.one (I ((cntR m (wr (Int.tdiv n m.fBase))).length : Int)))), (30, .sv (.one (I x30))), (39, .sv (.one (LS intT e_3))), (40, .sv (.one (I (e_3.length : Int)))), (41, .sv (.one (I 0)))], [.box [I m.fBase, LS (lsT intT) m.fImages, LS intT m.fCoding] 67 false, rowI 3 intT l1, rowI 3 intT (cntR m (wr (Int.tdiv n m.fBase)))]⟩ (by kernel_rfl) ?_
          refine WL.nil ?_
          refine En.block ?_
          obtain ⟨Inv_2, mu_2, h0, hI⟩ := h
          refine En.loop (σ := Int × (List Int)) (fun zz => Inv_2 zz.1 zz.2) (fun zz => mu_2 zz.1 zz.2) (fun zz => ⟨[(1, .sv (.one (I n))), (2, .sv (.one (.ptr 0 0))), (5, .sv (.one (.own 1))), (7, .sv (.one (I e_2))), (28, .sv (.one (.own 2))), (29, .sv (.one (I ((cntR m (wr (Int.tdiv n m.fBase))).length : Int)))), (30, .sv (.one (I x30))), (39, .sv (.one (LS intT e_3))), (40, .sv (.one (I (e_3.length : Int)))), (41, .sv (.one (I zz.1)))], [.box [I m.fBase, LS (lsT intT) m.fImages, LS intT m.fCoding] 67 false, rowI 3 intT zz.2, rowI 3 intT (cntR m (wr (Int.tdiv n m.fBase)))]⟩) (0, l1) h0 (sub_ok (by kernel_rfl)) ?_
          rintro ⟨x41, l1_2⟩ h
          replace h := hI _ _ h
          show En c ⟨[(1, .sv (.one (I n))), (2, .sv (.one (.ptr 0 0))), (5, .sv (.one (.own 1))), (7, .sv (.one (I e_2))), (28, .sv (.one (.own 2))), (29, .sv (.one (I ((cntR m (wr (Int.tdiv n m.fBase))).length : Int)))), (30, .sv (.one (I x30))), (39, .sv (.one (LS intT e_3))), (40, .sv (.one (I (e_3.length : Int)))), (41, .sv (.one (I x41)))], [.box [I m.fBase, LS (lsT intT) m.fImages, LS intT m.fCoding] 67 false, rowI 3 intT l1_2, rowI 3 intT (cntR m (wr (Int.tdiv n m.fBase)))]⟩ _
          refine En.seq ?_
          refine En.region ?_
          refine WL.run ht hn 1 ⟨[(1, .sv (.one (I n))), (2, .sv (.one (.ptr 0 0))), (5, .sv (.one (.own 1))), (7, .sv (.one (I e_2))), (28, .sv (.one (.own 2))), (29, .sv (.one (I ((cntR m (wr (Int.tdiv n m.fBase))).length : Int)))), (30, .sv (.one (I x30))), (39, .sv (.one (LS intT e_3))), (40, .sv (.one (I (e_3.length : Int)))), (41, .sv (.one (I x41))), (42, .sv (.one (B (decide (x41 < (e_3.length : Int))))))], [.box [I m.fBase, LS (lsT intT) m.fImages, LS intT m.fCoding] 67 false, rowI 3 intT l1_2, rowI 3 intT (cntR m (wr (Int.tdiv n m.fBase)))]⟩ (by kernel_rfl) ?_
          refine WL.nil ?_
          refine En.seq ?_
          refine En.cond (b := (decide (x41 < (e_3.length : Int)))) (by kernel_rfl) (fun hb => ?_) (fun hb => ?_)
          · replace h := h.1 hb
            refine En.skip ?_
            refine En.seq ?_
            refine En.block ?_
            refine En.seq ?_
            refine En.region ?_
            obtain ⟨e_4, he_4, h⟩ := h
            refine WL.val hn (by rfl) (val_index (T := intT) (l := e_3) (i := x41) ht rfl (by rfl) (by rfl) (by rfl) (by rfl) (by rfl) (by rfl) he_4) (by rfl) ?_
            refine WL.val hn (by rfl) (val_load (s := .one (I e_4)) ht rfl (by rfl) (by rfl) (by rfl) (by rfl) (by rfl)) (by rfl) ?_
            refine WL.run ht hn 1 ⟨[(1, .sv (.one (I n))), (2, .sv (.one (.ptr 0 0))), (5, .sv (.one (.own 1))), (7, .sv (.one (I e_2))), (9, .sv (.one (I e_4))), (28, .sv (.one (.own 2))), (29, .sv (.one (I ((cntR m (wr (Int.tdiv n m.fBase))).length : Int)))), (30, .sv (.one (I x30))), (39, .sv (.one (LS intT e_3))), (40, .sv (.one (I (e_3.length : Int)))), (41, .sv (.one (I x41)))], [.box [I m.fBase, LS (lsT intT) m.fImages, LS intT m.fCoding] 67 false, rowI 3 intT l1_2, rowI 3 intT (cntR m (wr (Int.tdiv n m.fBase)))]⟩ (by kernel_rfl) ?_
            refine WL.nil ?_
            refine En.region ?_
            refine WL.run ht hn 2 ⟨[(1, .sv (.one (I n))), (2, .sv (.one (.ptr 0 0))), (5, .sv (.one (.own 1))), (7, .sv (.one (I e_2))), (28, .sv (.one (.own 2))), (29, .sv (.one (I ((cntR m (wr (Int.tdiv n m.fBase))).length : Int)))), (30, .sv (.one (I x30))), (39, .sv (.one (LS intT e_3))), (40, .sv (.one (I (e_3.length : Int)))), (41, .sv (.one (I x41))), (45, .sv (.one (.own 1))), (46, .sv (.one (I e_4)))], [.box [I m.fBase, LS (lsT intT) m.fImages, LS intT m.fCoding] 67 false, rowI 3 intT l1_2, rowI 3 intT (cntR m (wr (Int.tdiv n m.fBase)))]⟩ (by kernel_rfl) ?_
            obtain ⟨e_5, he_5, h⟩ := h
            refine WL.val hn (by rfl) (val_indexO (T := intT) (l := l1_2) (k := e_4) ht rfl (by rfl) (by rfl) (by rfl) (by rfl) (by decide) (by rfl) (by rfl) (by rfl) he_5) (by rfl) ?_
            refine WL.val hn (by rfl) (val_loadO (T := intT) (l := l1_2) (y := e_5) ht rfl (by rfl) (by rfl) (by rfl) (by rfl) (by rfl) (idx_some he_5).2.2 (by rfl)) (by rfl) ?_
            refine WL.run ht hn 2 ⟨[(1, .sv (.one (I n))), (2, .sv (.one (.ptr 0 0))), (5, .sv (.one (.own 1))), (7, .sv (.one (I e_2))), (28, .sv (.one (.own 2))), (29, .sv (.one (I ((cntR m (wr (Int.tdiv n m.fBase))).length : Int)))), (30, .sv (.one (I x30))), (39, .sv (.one (LS intT e_3))), (40, .sv (.one (I (e_3.length : Int)))), (41, .sv (.one (I x41))), (45, .sv (.one (.own 1))), (46, .sv (.one (I e_4))), (50, .sv (.one (I (wr (e_5 + e_2)))))], [.box [I m.fBase, LS (lsT intT) m.fImages, LS intT m.fCoding] 67 false, rowI 3 intT l1_2, rowI 3 intT (cntR m (wr (Int.tdiv n m.fBase)))]⟩ (by kernel_rfl) ?_
            obtain ⟨e_6, he_6, h⟩ := h
            refine WL.val hn (by rfl) (val_indexO (T := intT) (l := l1_2) (k := e_4) ht rfl (by rfl) (by rfl) (by rfl) (by rfl) (by decide) (by rfl) (by rfl) (by rfl) he_6) (by rfl) ?_
            refine WL.storeO (T := intT) (l := l1_2) (y := (wr (e_5 + e_2))) ht hn (by rfl) rfl (by rfl) (by rfl) (fun _ h => by cases h) (by rfl) (by rfl) (idx_lt he_6) (by rfl) (by rfl) (by rfl) (by rfl) ?_
            refine WL.nil ?_
            refine En.region ?_
            refine WL.run ht hn 2 ⟨[(1, .sv (.one (I n))), (2, .sv (.one (.ptr 0 0))), (5, .sv (.one (.own 1))), (7, .sv (.one (I e_2))), (28, .sv (.one (.own 2))), (29, .sv (.one (I ((cntR m (wr (Int.tdiv n m.fBase))).length : Int)))), (30, .sv (.one (I x30))), (39, .sv (.one (LS intT e_3))), (40, .sv (.one (I (e_3.length : Int)))), (41, .sv (.one (I (wr (x41 + 1)))))], [.box [I m.fBase, LS (lsT intT) m.fImages, LS intT m.fCoding] 67 false, rowI 3 intT (l1_2.set (e_4).toNat (wr (e_5 + e_2))), rowI 3 intT (cntR m (wr (Int.tdiv n m.fBase)))]⟩ (by kernel_rfl) ?_
            refine WL.nil ?_
            exact En.at (I := fun zz => Inv_2 zz.1 zz.2 ∧ mu_2 zz.1 zz.2 < mu_2 x41 l1_2) (T := fun zz => ⟨[(1, .sv (.one (I n))), (2, .sv (.one (.ptr 0 0))), (5, .sv (.one (.own 1))), (7, .sv (.one (I e_2))), (28, .sv (.one (.own 2))), (29, .sv (.one (I ((cntR m (wr (Int.tdiv n m.fBase))).length : Int)))), (30, .sv (.one (I x30))), (39, .sv (.one (LS intT e_3))), (40, .sv (.one (I (e_3.length : Int)))), (41, .sv (.one (I zz.1)))], [.box [I m.fBase, LS (lsT intT) m.fImages, LS intT m.fCoding] 67 false, rowI 3 intT zz.2, rowI 3 intT (cntR m (wr (Int.tdiv n m.fBase)))]⟩) ((wr (x41 + 1)), (l1_2.set (e_4).toNat (wr (e_5 + e_2)))) h (by kernel_rfl)
          · replace h := h.2 hb
            refine En.exit rfl ?_
            refine En.region ?_
            refine WL.run ht hn 2 ⟨[(1, .sv (.one (I n))), (2, .sv (.one (.ptr 0 0))), (5, .sv (.one (.own 1))), (28, .sv (.one (.own 2))), (29, .sv (.one (I ((cntR m (wr (Int.tdiv n m.fBase))).length : Int)))), (30, .sv (.one (I (wr (x30 + 1)))))], [.box [I m.fBase, LS (lsT intT) m.fImages, LS intT m.fCoding] 67 false, rowI 3 intT l1_2, rowI 3 intT (cntR m (wr (Int.tdiv n m.fBase)))]⟩ (by kernel_rfl) ?_
            refine WL.nil ?_
            exact En.at (I := fun zz => Inv zz.1 zz.2 ∧ mu zz.1 zz.2 < mu x30 l1) (T := fun zz => ⟨[(1, .sv (.one (I n))), (2, .sv (.one (.ptr 0 0))), (5, .sv (.one (.own 1))), (28, .sv (.one (.own 2))), (29, .sv (.one (I ((cntR m (wr (Int.tdiv n m.fBase))).length : Int)))), (30, .sv (.one (I zz.1)))], [.box [I m.fBase, LS (lsT intT) m.fImages, LS intT m.fCoding] 67 false, rowI 3 intT zz.2, rowI 3 intT (cntR m (wr (Int.tdiv n m.fBase)))]⟩) ((wr (x30 + 1)), l1_2) h (by kernel_rfl)
        · replace h := h.2 hb
          refine En.exit rfl ?_
          refine En.seq ?_
          refine En.seq ?_
          refine En.regionS (by kernel_rfl) (by kernel_rfl) ?_
          refine SL.run ht hn 3 ⟨[(1, .sv (.one (I n))), (2, .sv (.one (.ptr 0 0))), (5, .sv (.one (.own 1))), (54, .sv (.one (I n))), (55, .sv (.one (.ptr 0 0))), (56, .sv (.one (I m.fBase)))], [.box [I m.fBase, LS (lsT intT) m.fImages, LS intT m.fCoding] 67 false, rowI 3 intT l1, .gone]⟩ (by kernel_rfl) ?_
          have hz_2 := h.1
          replace h := h.2
          refine SL.val hn (by rfl) (val_div (u := n) (v := m.fBase) rfl (by rfl) (by rfl) hz_2 (.inl ⟨rfl, rfl⟩)) (by rfl) ?_
          refine SL.run ht hn 4 ⟨[(1, .sv (.one (I n))), (2, .sv (.one (.ptr 0 0))), (5, .sv (.one (.own 1))), (10, .sv (.one (I (wr ((wr (Int.tdiv n m.fBase)) * m.fBase))))), (54, .sv (.one (I n))), (55, .sv (.one (.ptr 0 0))), (56, .sv (.one (I m.fBase))), (57, .sv (.one (I (wr (Int.tdiv n m.fBase))))), (58, .sv (.one (.ptr 0 0))), (59, .sv (.one (I m.fBase))), (60, .sv (.one (I (wr ((wr (Int.tdiv n m.fBase)) * m.fBase)))))], [.box [I m.fBase, LS (lsT intT) m.fImages, LS intT m.fCoding] 67 false, rowI 3 intT l1, .gone]⟩ (by kernel_rfl) ?_
          refine SL.nil ⟨by kernel_rfl, ?_⟩
          refine En.block ?_
          obtain ⟨Inv_3, mu_3, h0_2, hI_2⟩ := h
          refine En.loop (σ := Int × (List Int)) (fun zz => Inv_3 zz.1 zz.2) (fun zz => mu_3 zz.1 zz.2) (fun zz => ⟨[(1, .sv (.one (I n))), (2, .sv (.one (.ptr 0 0))), (5, .sv (.one (.own 1))), (10, .sv (.one (I zz.1)))], [.box [I m.fBase, LS (lsT intT) m.fImages, LS intT m.fCoding] 67 false, rowI 3 intT zz.2, .gone]⟩) ((wr ((wr (Int.tdiv n m.fBase)) * m.fBase)), l1) h0_2 (sub_ok (by kernel_rfl)) ?_
          rintro ⟨x10, l1_3⟩ h
          replace h := hI_2 _ _ h
          show En c ⟨[(1, .sv (.one (I n))), (2, .sv (.one (.ptr 0 0))), (5, .sv (.one (.own 1))), (10, .sv (.one (I x10)))], [.box [I m.fBase, LS (lsT intT) m.fImages, LS intT m.fCoding] 67 false, rowI 3 intT l1_3, .gone]⟩ _
          refine En.seq ?_
          refine En.seq ?_
          refine En.region ?_
          refine WL.run ht hn 3 ⟨[(1, .sv (.one (I n))), (2, .sv (.one (.ptr 0 0))), (5, .sv (.one (.own 1))), (10, .sv (.one (I x10))), (63, .sv (.one (B (decide (x10 < n)))))], [.box [I m.fBase, LS (lsT intT) m.fImages, LS intT m.fCoding] 67 false, rowI 3 intT l1_3, .gone]⟩ (by kernel_rfl) ?_
          refine WL.nil ?_
          refine En.cond (b := (decide (x10 < n))) (by kernel_rfl) (fun hb => ?_) (fun hb => ?_)
          · replace h := h.1 hb
            refine En.skip ?_
            refine En.seq ?_
            refine En.block ?_
            refine En.region ?_
            refine WL.run ht hn 3 ⟨[(1, .sv (.one (I n))), (2, .sv (.one (.ptr 0 0))), (5, .sv (.one (.own 1))), (10, .sv (.one (I x10))), (66, .sv (.one (.own 1))), (67, .sv (.agg [I m.fBase, LS (lsT intT) m.fImages, LS intT m.fCoding])), (68, .sv (.one (I x10)))], [.box [I m.fBase, LS (lsT intT) m.fImages, LS intT m.fCoding] 67 false, rowI 3 intT l1_3, .gone]⟩ (by kernel_rfl) ?_
            have hp := h.1
            replace h := h.2
            refine WL.mt0 (K := []) (p := none) hn (by rfl) (mt_call (letter_ct m x10 hp) en69 (caps := []) [] rfl (by rfl) (by kernel_rfl) (by kernel_rfl) (by rfl) (by rfl) (by rfl)) (by rfl) (by rfl) (by rfl) ?_
            obtain ⟨e_7, he_7, h⟩ := h
            refine WL.val hn (by rfl) (val_indexO (T := intT) (l := l1_3) (k := (letR m x10)) ht rfl (by rfl) (by rfl) (by rfl) (by rfl) (by decide) (by rfl) (by rfl) (by rfl) he_7) (by rfl) ?_
            refine WL.val hn (by rfl) (val_loadO (T := intT) (l := l1_3) (y := e_7) ht rfl (by rfl) (by rfl) (by rfl) (by rfl) (by rfl) (idx_some he_7).2.2 (by rfl)) (by rfl) ?_
            refine WL.run ht hn 1 ⟨[(1, .sv (.one (I n))), (2, .sv (.one (.ptr 0 0))), (5, .sv (.one (.own 1))), (10, .sv (.one (I x10))), (66, .sv (.one (.own 1))), (69, .sv (.one (I (letR m x10)))), (72, .sv (.one (I (wr (e_7 + 1)))))], [.box [I m.fBase, LS (lsT intT) m.fImages, LS intT m.fCoding] 67 false, rowI 3 intT l1_3, .gone]⟩ (by kernel_rfl) ?_
            obtain ⟨e_8, he_8, h⟩ := h
            refine WL.val hn (by rfl) (val_indexO (T := intT) (l := l1_3) (k := (letR m x10)) ht rfl (by rfl) (by rfl) (by rfl) (by rfl) (by decide) (by rfl) (by rfl) (by rfl) he_8) (by rfl) ?_
            refine WL.storeO (T := intT) (l := l1_3) (y := (wr (e_7 + 1))) ht hn (by rfl) rfl (by rfl) (by rfl) (fun _ h => by cases h) (by rfl) (by rfl) (idx_lt he_8) (by rfl) (by rfl) (by rfl) (by rfl) ?_
            refine WL.nil ?_
            refine En.region ?_
            refine WL.run ht hn 3 ⟨[(1, .sv (.one (I n))), (2, .sv (.one (.ptr 0 0))), (5, .sv (.one (.own 1))), (10, .sv (.one (I (wr (x10 + 1)))))], [.box [I m.fBase, LS (lsT intT) m.fImages, LS intT m.fCoding] 67 false, rowI 3 intT (l1_3.set ((letR m x10)).toNat (wr (e_7 + 1))), .gone]⟩ (by kernel_rfl) ?_
            refine WL.nil ?_
            exact En.at (I := fun zz => Inv_3 zz.1 zz.2 ∧ mu_3 zz.1 zz.2 < mu_3 x10 l1_3) (T := fun zz => ⟨[(1, .sv (.one (I n))), (2, .sv (.one (.ptr 0 0))), (5, .sv (.one (.own 1))), (10, .sv (.one (I zz.1)))], [.box [I m.fBase, LS (lsT intT) m.fImages, LS intT m.fCoding] 67 false, rowI 3 intT zz.2, .gone]⟩) ((wr (x10 + 1)), (l1_3.set ((letR m x10)).toNat (wr (e_7 + 1)))) h (by kernel_rfl)
          · replace h := h.2 hb
            refine En.exit rfl ?_
            refine En.seq ?_
            refine En.region ?_
            refine WL.run ht hn 2 ⟨[(4, .sv (.one (.own 1)))], [.gone, rowI 3 intT l1_3, .gone]⟩ (by kernel_rfl) ?_
            refine WL.nil ?_
            refine En.ret ?_
            exact En.backJ (itf := fun l => rowI 3 intT l) hmay (by rfl) (by rfl) rfl rfl h
theorem counts_ct (m : ApiMorph) (n : Int) (hp : LetPre m n) : CtI 68 [.sv (.agg [I m.fBase, LS (lsT intT) m.fImages, LS intT m.fCoding]), .sv (.one (I n))] [] (rowI 3 intT (cntR m n)) := by
  obtain ⟨h, h0, h1⟩ := hp
  obtain ⟨k, rfl⟩ := Int.eq_ofNat_of_zero_le h0
  induction k using Nat.strongRecOn with
  | _ k IH =>
    have hb := h.base
    have hsz := h.size
    refine (counts_walk m (k : Int) (fun m' n' hn => ?_) (fun r => r = cntR m (k : Int)) ?_).fun
    · obtain ⟨rfl, hn0, hn1⟩ := hn
      obtain ⟨j, rfl⟩ := Int.eq_ofNat_of_zero_le hn0
      exact IH j (by omega) hn0 (by omega)
    · intro _ _
      have hz : List.replicate (m.fImages.length : Int).toNat (0 : Int) = cntL m.fImages.length fun _ => 0 := by
        rw [Int.toNat_natCast]
        simp [cntL, List.map_const']
      rw [hz]
      refine ⟨by unfold makeOk; omega, fun hk => ?_, fun hk => ⟨fun hk1 => ?_, fun hk1 => ?_⟩⟩
      · have : k = 0 := by have : (k : Int) = 0 := by simpa using hk
                           omega
        subst this
        exact cntL_congr fun a _ => by simp [cntN]
      · have : k = 1 := by have : (k : Int) = 1 := by simpa using hk1
                           omega
        subst this
        refine ⟨_, idx_of 0 (by decide) (by rw [cntL_len]; omega), ?_⟩
        have h2 := cntL_set (n := m.fImages.length) (f := fun _ => 0) (c := 0) (x := 1)
        refine h2.trans (cntL_congr fun a _ => ?_)
        have h3 := cntN_succ m 0 a
        have h4 : letN m 0 = 0 := by rw [letN, dif_pos rfl]
        have h5 : cntN m 0 a = 0 := by simp [cntN]
        show 0 + (if a = 0 then 1 else 0) = cntN m 1 a
        rw [h3, h4, h5]
        by_cases e : a = 0
        · rw [if_pos e, if_pos (by omega)]
        · rw [if_neg e, if_neg (by omega)]
      · have hk0 : k ≠ 0 := by have : (k : Int) ≠ 0 := by simpa using hk
                               omega
        have hlt := Nat.div_lt_self (n := k) (k := m.fBase.toNat) (by omega) (by omega)
        have hqB := Nat.div_mul_le_self k m.fBase.toNat
        rw [divB h h0 h1, Int.toNat_natCast]
        generalize k / m.fBase.toNat = q at hlt hqB
        refine ⟨by omega, ⟨rfl, Int.natCast_nonneg _, by exact_mod_cast hlt⟩, ?_⟩
        rw [show cntR m ((q : Nat) : Int) = cntL m.fImages.length (cntN m q) from rfl]
        refine ⟨fun i l => ∃ a : Nat, i = a ∧ a ≤ m.fImages.length ∧ l = cntL m.fImages.length (brings m q a), fun i _ => m.fImages.length - i.toNat, ⟨0, rfl, Nat.zero_le _, cntL_congr fun _ _ => by simp [brings]⟩, ?_⟩
        rintro i l ⟨a, rfl, ha, rfl⟩
        rw [cntL_len]
        refine ⟨fun hb1 => ?_, fun hb1 => ?_⟩
        · have hla := dlt hb1
          have hma := getD_mem (l := m.fImages) (i := a) (z := []) hla
          have hra := h.rows _ hma
          refine ⟨_, idx_of 0 (by omega) (by rw [cntL_len]; omega), _, idx_of [] (by omega) (by omega), ?_⟩
          rw [Int.toNat_natCast, cntL_at hla]
          have hbr := brings_le h q a
          have hcq := cntN_le m q a
          have hocc : occ m a = fun b => (m.fImages.getD a []).countP fun x => x == ((b : Nat) : Int) := rfl
          generalize m.fImages.getD a [] = W at hma hra hocc
          refine ⟨fun j l => ∃ d : Nat, j = d ∧ d ≤ W.length ∧ l = cntL m.fImages.length (fun b => brings m q a b + cntN m q a * ((W.take d).countP fun x => x == (b : Int))), fun j _ => W.length - j.toNat, ⟨0, rfl, Nat.zero_le _, by simp⟩, ?_⟩
          rintro j l ⟨d, rfl, hd, rfl⟩
          refine ⟨fun hb2 => ?_, fun hb2 => ?_⟩
          · have hld := dlt hb2
            have hin := h.in_ _ hma _ (List.getElem_mem hld)
            refine ⟨_, idx_at hld, _, idx_of 0 hin.1 (by rw [cntL_len]; exact hin.2), _, idx_of 0 hin.1 (by rw [cntL_len]; exact hin.2), ⟨d + 1, wsucc (by omega), hld, ?_⟩, mu_up hld (by omega)⟩
            obtain ⟨c, hc⟩ := Int.eq_ofNat_of_zero_le hin.1
            have hcN : c < m.fImages.length := by omega
            have hcnt : (W.take d).countP (fun x => x == (c : Int)) ≤ 4 := by
              have := List.countP_le_length (p := fun x => x == (c : Int)) (l := W.take d)
              rw [List.length_take] at this
              omega
            have hmul := Nat.mul_le_mul hcq hcnt
            have hbrc := hbr c
            have hN4 : a * (q * 4) ≤ 4 * (q * 4) := Nat.mul_le_mul_right _ (by omega)
            rw [hc, Int.toNat_natCast, cntL_at hcN, wr_in (by omega) (by omega), ← Int.natCast_add, cntL_set]
            refine cntL_congr fun b _ => ?_
            rw [List.take_add_one, List.countP_append, List.getElem?_eq_getElem hld, hc, Nat.mul_add, ← Nat.add_assoc]
            congr 1
            by_cases e : b = c
            · subst e; simp
            · have h1 : ¬ c = b := fun h => e h.symm
              have h2 : ¬ (c : Int) = (b : Int) := by omega
              rw [if_neg e]
              simp [h1, h2]
          · have hge := dge hb2
            rw [List.take_of_length_le hge]
            refine ⟨⟨a + 1, wsucc (by omega), hla, cntL_congr fun b _ => ?_⟩, mu_up hla (by omega)⟩
            rw [brings_succ, hocc]
        · have : a = m.fImages.length := by have := dge hb1; omega
          subst this
          have hw : wr (((q : Nat) : Int) * m.fBase) = ((q * m.fBase.toNat : Nat) : Int) := by
            have : ((q : Nat) : Int) * m.fBase = ((q * m.fBase.toNat : Nat) : Int) := by
              rw [Int.natCast_mul, show ((m.fBase.toNat : Nat) : Int) = m.fBase by omega]
            rw [this, wr_in (by omega) (by omega)]
          rw [hw]
          refine ⟨by omega, fun i l => ∃ j : Nat, i = j ∧ j ≤ k ∧ l = cntL m.fImages.length (cntN m j), fun i _ => k - i.toNat, ⟨q * m.fBase.toNat, rfl, hqB, cntL_congr fun b _ => brings_all h b q⟩, ?_⟩
          rintro i l ⟨j, rfl, hj, rfl⟩
          refine ⟨fun hb3 => ?_, fun hb3 => ?_⟩
          · have hlj : j < k := by have := of_decide_eq_true hb3; omega
            have hin := letN_in h j
            have hl : letR m ((j : Nat) : Int) = letN m j := rfl
            rw [hl]
            refine ⟨⟨h, by omega, by omega⟩, _, idx_of 0 hin.1 (by rw [cntL_len]; exact hin.2), _, idx_of 0 hin.1 (by rw [cntL_len]; exact hin.2), ⟨j + 1, wsucc (by omega), hlj, ?_⟩, ?_⟩
            · obtain ⟨c, hc⟩ := Int.eq_ofNat_of_zero_le hin.1
              have hle := cntN_le m j c
              rw [hc, Int.toNat_natCast, cntL_at (by omega), wr_in (by omega) (by omega)]
              have := cntL_set (n := m.fImages.length) (f := cntN m j) (c := c) (x := 1)
              refine this.trans (cntL_congr fun b _ => ?_)
              rw [cntN_succ, hc]
              by_cases e : b = c
              · rw [if_pos e, if_pos (by omega)]
              · rw [if_neg e, if_neg (by omega)]
            · show k - (wr ((j : Int) + 1)).toNat < k - (j : Int).toNat
              rw [wsucc (by omega)]
              omega
          · have : j = k := by have := of_decide_eq_false hb3; omega
            subst this
            rfl
end Go.Proofs.Ytfpdnigihjmohaa

/- seqs.Counts, seqs.Differ. No condition. -/
namespace Go.Proofs.Ytfpdnigihjmohaa
open Go.RowKit Go.MapKept
set_option linter.unusedSimpArgs false
set_option linter.unusedVariables false
set_option maxRecDepth 100000

def codeN (m : ApiMorph) (a : Nat) : Int := m.fCoding.getD a 0
/-- how often a number stands below a place -/
def valN (m : ApiMorph) (n v : Nat) : Nat := (List.range n).countP fun k => codeN m (letN m k).toNat == (v : Int)
theorem valN_succ (m : ApiMorph) (n v : Nat) : valN m (n + 1) v = valN m n v + if codeN m (letN m n).toNat = (v : Int) then 1 else 0 := by
  unfold valN
  rw [List.range_succ, List.countP_append]
  by_cases h : codeN m (letN m n).toNat = (v : Int) <;> simp [h]
theorem valN_le (m : ApiMorph) (n v : Nat) : valN m n v ≤ n := by
  unfold valN
  have := List.countP_le_length (p := fun k => codeN m (letN m k).toNat == (v : Int)) (l := List.range n)
  simpa using this
def tell (m : ApiMorph) (n k v : Nat) : Nat := ((List.range k).map fun a => if codeN m a = (v : Int) then cntN m n a else 0).sum
theorem tell_succ (m : ApiMorph) (n k v : Nat) : tell m n (k + 1) v = tell m n k v + if codeN m k = (v : Int) then cntN m n k else 0 := by
  unfold tell
  rw [List.range_succ, List.map_append, List.sum_append]
  simp
theorem tell_le (m : ApiMorph) (n : Nat) : ∀ k v, tell m n k v ≤ k * n
  | 0, v => by simp [tell]
  | k + 1, v => by
    have h1 := tell_le m n k v
    have h2 := cntN_le m n k
    rw [tell_succ, Nat.succ_mul]
    split <;> omega
theorem tell_all {m : ApiMorph} (h : MorOk m) (v : Nat) : ∀ n, tell m n m.fImages.length v = valN m n v
  | 0 => by
    have : ∀ k, tell m 0 k v = 0 := by
      intro k
      induction k with
      | zero => simp [tell]
      | succ k ih =>
        have : cntN m 0 k = 0 := by simp [cntN]
        rw [tell_succ, ih, this]
        simp
    rw [this]
    simp [valN]
  | n + 1 => by
    have hin := letN_in h n
    rw [valN_succ, ← tell_all h v n]
    have e : ∀ a, (if codeN m a = (v : Int) then cntN m (n + 1) a else 0) = (if codeN m a = (v : Int) then cntN m n a else 0) + if (letN m n).toNat = a then (if codeN m a = (v : Int) then 1 else 0) else 0 := fun a => by
      rw [cntN_succ]
      by_cases h1 : codeN m a = (v : Int)
      · rw [if_pos h1, if_pos h1, if_pos h1]
        by_cases h2 : (letN m n).toNat = a
        · rw [if_pos h2, if_pos (by omega)]
        · rw [if_neg h2, if_neg (by omega)]
      · rw [if_neg h1, if_neg h1, if_neg h1]
        simp
    unfold tell
    rw [List.map_congr_left fun a _ => e a, sum_add, sum_pick, if_pos (by omega)]
noncomputable def countsR (m : ApiMorph) (n : Int) : List Int × Int := if seqErr m = 0 then (if n < 0 ∨ n > 1000000000000000 then ([], 2) else (cntL 10 (valN m n.toNat), 0)) else ([], seqErr m)
def seqCounts_vc (m : ApiMorph) (n : Int) (Q : ((List Int) × Int) → Prop) : Prop :=
  m.fImages.length ≤ 9223372036854775807 →
  m.fCoding.length ≤ 9223372036854775807 →
  (IfP ((seqErr m) != 0) (Q ([], (seqErr m))) (IfP ((decide (n < 0)) || (decide (n > 1000000000000000))) (Q ([], 2)) (makeOk 10 10 8 ∧
  (LetPre m n) ∧
  ∃ (Inv : Int → (List Int) → Prop) (mu : Int → (List Int) → Nat), Inv 0 (List.replicate (10 : Int).toNat (0 : Int)) ∧
  ∀ (x26 : Int) (l1 : (List Int)) , Inv x26 l1 → (IfP (decide (x26 < ((cntR m n).length : Int))) (∃ e, idx (cntR m n) x26 = some e ∧
  ∃ e_2, idx m.fCoding x26 = some e_2 ∧
  ∃ e_3, idx l1 e_2 = some e_3 ∧
  ∃ e_4, idx l1 e_2 = some e_4 ∧
  (Inv (wr (x26 + 1)) (l1.set (e_2).toNat (wr (e_3 + e))) ∧ mu (wr (x26 + 1)) (l1.set (e_2).toNat (wr (e_3 + e))) < mu x26 l1)) (Q (l1, 0))))))
theorem seqCounts_walk (m : ApiMorph) (n : Int) (Q : ((List Int) × Int) → Prop) (h : seqCounts_vc m n Q) : Ct 29 [.sv (.agg [I m.fBase, LS (lsT intT) m.fImages, LS intT m.fCoding]), .sv (.one (I n))] [] Q (fun (r : ((List Int) × Int)) => .tup [.one (LS intT r.1), .one (I r.2)]) := by
  have ht := tab_ok
  refine Ct.body Try.func29 rfl rfl rfl rfl (fun c hn => ?_)
  unfold seqCounts_vc at h
  refine En.lenA 0 1 (by rfl) (by rfl) (fun hl => ?_)
  replace h := h hl
  clear hl
  refine En.lenA 0 2 (by rfl) (by rfl) (fun hl => ?_)
  replace h := h hl
  clear hl
  refine En.seq ?_
  refine En.region ?_
  refine WL.run ht hn 3 ⟨[(1, .sv (.one (I n))), (2, .sv (.one (.ptr 0 0)))], [.box [I m.fBase, LS (lsT intT) m.fImages, LS intT m.fCoding] 67 false]⟩ (by kernel_rfl) ?_
  refine WL.nil ?_
  refine En.seq ?_
  refine En.seq ?_
  refine En.region ?_
  refine WL.run ht hn 1 ⟨[(1, .sv (.one (I n))), (2, .sv (.one (.ptr 0 0))), (10, .sv (.agg [I m.fBase, LS (lsT intT) m.fImages, LS intT m.fCoding]))], [.box [I m.fBase, LS (lsT intT) m.fImages, LS intT m.fCoding] 67 false]⟩ (by kernel_rfl) ?_
  refine WL.mt0 (K := []) (p := none) hn (by rfl) (mt_call (seqCheck_ct m) en64 (caps := []) [] rfl (by rfl) (by kernel_rfl) (by kernel_rfl) (by rfl) (by rfl) (by rfl)) (by rfl) (by rfl) (by rfl) ?_
  refine WL.run ht hn 1 ⟨[(1, .sv (.one (I n))), (2, .sv (.one (.ptr 0 0))), (6, .sv (.one (I (seqErr m))))], [.box [I m.fBase, LS (lsT intT) m.fImages, LS intT m.fCoding] 67 false]⟩ (by kernel_rfl) ?_
  refine WL.nil ?_
  refine En.seq ?_
  refine En.region ?_
  refine WL.run ht hn 2 ⟨[(1, .sv (.one (I n))), (2, .sv (.one (.ptr 0 0))), (6, .sv (.one (I (seqErr m)))), (13, .sv (.one (B ((seqErr m) != 0))))], [.box [I m.fBase, LS (lsT intT) m.fImages, LS intT m.fCoding] 67 false]⟩ (by kernel_rfl) ?_
  refine WL.nil ?_
  refine En.cond (b := ((seqErr m) != 0)) (by kernel_rfl) (fun hb => ?_) (fun hb => ?_)
  · replace h := h.1 hb
    refine En.seq ?_
    refine En.region ?_
    refine WL.run ht hn 3 ⟨[(4, .sv (.one (.v (.slice none 0 0)))), (5, .sv (.one (I (seqErr m))))], [.gone]⟩ (by kernel_rfl) ?_
    refine WL.nil ?_
    refine En.ret ?_
    refine En.nilLS 4 intT (by rfl) ?_
    exact En.back ht ([], (seqErr m)) h (by kernel_rfl) rfl
  · replace h := h.2 hb
    refine En.skip ?_
    refine En.seq ?_
    refine En.seq ?_
    refine En.region ?_
    refine WL.run ht hn 3 ⟨[(1, .sv (.one (I n))), (2, .sv (.one (.ptr 0 0))), (17, .sv (.one (B (decide (n < 0)))))], [.box [I m.fBase, LS (lsT intT) m.fImages, LS intT m.fCoding] 67 false]⟩ (by kernel_rfl) ?_
    refine WL.thru ⟨[(1, .sv (.one (I n))), (2, .sv (.one (.ptr 0 0))), (20, .sv (.one (B ((decide (n < 0)) || (decide (n > 1000000000000000))))))], [.box [I m.fBase, LS (lsT intT) m.fImages, LS intT m.fCoding] 67 false]⟩ ?_ ?_
    · refine splitB (decide (n < 0)) (fun hb0 => ?_) (fun hb0 => ?_)
      · refine WL.setB 17 hb0 (by kernel_rfl) ?_
        refine WL.run ht hn 3 ⟨[(1, .sv (.one (I n))), (2, .sv (.one (.ptr 0 0))), (20, .sv (.one (B true)))], [.box [I m.fBase, LS (lsT intT) m.fImages, LS intT m.fCoding] 67 false]⟩ (by kernel_rfl) ?_
        exact WL.nil (sub_ok (by simp only [hb0]; kernel_rfl))
      · refine WL.setB 17 hb0 (by kernel_rfl) ?_
        refine WL.run ht hn 3 ⟨[(1, .sv (.one (I n))), (2, .sv (.one (.ptr 0 0))), (20, .sv (.one (B (decide (n > 1000000000000000)))))], [.box [I m.fBase, LS (lsT intT) m.fImages, LS intT m.fCoding] 67 false]⟩ (by kernel_rfl) ?_
        exact WL.nil (sub_ok (by simp only [hb0]; kernel_rfl))
    · refine En.cond (b := ((decide (n < 0)) || (decide (n > 1000000000000000)))) (by kernel_rfl) (fun hb => ?_) (fun hb => ?_)
      · replace h := h.1 hb
        refine En.seq ?_
        refine En.region ?_
        refine WL.run ht hn 2 ⟨[(4, .sv (.one (.v (.slice none 0 0)))), (5, .sv (.one (I 2)))], [.gone]⟩ (by kernel_rfl) ?_
        refine WL.nil ?_
        refine En.ret ?_
        refine En.nilLS 4 intT (by rfl) ?_
        exact En.back ht ([], 2) h (by kernel_rfl) rfl
      · replace h := h.2 hb
        refine En.skip ?_
        refine En.seq ?_
        refine En.region ?_
        have hp := h.1
        replace h := h.2
        refine WL.mt0 (K := []) (p := some (1, rowI 3 intT (List.replicate (10 : Int).toNat (0 : Int)))) hn (by rfl) (mt_make (T := intT) (0 : Int) (zv := (.int .i64 0)) 1 (l := 10) (cp := 10) ht rfl (by rfl) (by rfl) (by rfl) (by rfl) (by decide) (by rfl) (by rfl) hp.1 hp.2.1 hp.2.2 (hp.le (by decide)) rfl (fun _ => ⟨rfl, trivial⟩)) (by rfl) (by rfl) (by rfl) ?_
        refine WL.run ht hn 1 ⟨[(1, .sv (.one (I n))), (2, .sv (.one (.ptr 0 0))), (7, .sv (.one (.own 1)))], [.box [I m.fBase, LS (lsT intT) m.fImages, LS intT m.fCoding] 67 false, rowI 3 intT (List.replicate (10 : Int).toNat (0 : Int))]⟩ (by kernel_rfl) ?_
        refine WL.nil ?_
        refine En.seq ?_
        refine En.seq ?_
        refine En.region ?_
        refine WL.run ht hn 2 ⟨[(2, .sv (.one (.ptr 0 0))), (7, .sv (.one (.own 1))), (22, .sv (.agg [I m.fBase, LS (lsT intT) m.fImages, LS intT m.fCoding])), (23, .sv (.one (I n)))], [.box [I m.fBase, LS (lsT intT) m.fImages, LS intT m.fCoding] 67 false, rowI 3 intT (List.replicate (10 : Int).toNat (0 : Int))]⟩ (by kernel_rfl) ?_
        have hp := h.1
        replace h := h.2
        refine WL.mt0 (K := []) (p := some (2, rowI 3 intT (cntR m n))) hn (by rfl) (mt_callI 2 (counts_ct m n hp) en68 (caps := []) [] rfl rfl (by rfl) (by kernel_rfl) (by kernel_rfl) (by rfl) (by rfl)) (by rfl) (by rfl) (by rfl) ?_
        refine WL.run ht hn 2 ⟨[(2, .sv (.one (.ptr 0 0))), (7, .sv (.one (.own 1))), (24, .sv (.one (.own 2))), (25, .sv (.one (I ((cntR m n).length : Int)))), (26, .sv (.one (I 0)))], [.box [I m.fBase, LS (lsT intT) m.fImages, LS intT m.fCoding] 67 false, rowI 3 intT (List.replicate (10 : Int).toNat (0 : Int)), rowI 3 intT (cntR m n)]⟩ (by kernel_rfl) ?_
        refine WL.nil ?_
        refine En.block ?_
        obtain ⟨Inv, mu, h0, hI⟩ := h
        refine En.loop (σ := Int × (List Int)) (fun zz => Inv zz.1 zz.2) (fun zz => mu zz.1 zz.2) (fun zz => ⟨[(2, .sv (.one (.ptr 0 0))), (7, .sv (.one (.own 1))), (24, .sv (.one (.own 2))), (25, .sv (.one (I ((cntR m n).length : Int)))), (26, .sv (.one (I zz.1)))], [.box [I m.fBase, LS (lsT intT) m.fImages, LS intT m.fCoding] 67 false, rowI 3 intT zz.2, rowI 3 intT (cntR m n)]⟩) (0, (List.replicate (10 : Int).toNat (0 : Int))) h0 (sub_ok (by kernel_rfl)) ?_
        rintro ⟨x26, l1⟩ h
        replace h := hI _ _ h
        show En c ⟨[(2, .sv (.one (.ptr 0 0))), (7, .sv (.one (.own 1))), (24, .sv (.one (.own 2))), (25, .sv (.one (I ((cntR m n).length : Int)))), (26, .sv (.one (I x26)))], [.box [I m.fBase, LS (lsT intT) m.fImages, LS intT m.fCoding] 67 false, rowI 3 intT l1, rowI 3 intT (cntR m n)]⟩ _
        refine En.seq ?_
        refine En.region ?_
        refine WL.run ht hn 1 ⟨[(2, .sv (.one (.ptr 0 0))), (7, .sv (.one (.own 1))), (24, .sv (.one (.own 2))), (25, .sv (.one (I ((cntR m n).length : Int)))), (26, .sv (.one (I x26))), (27, .sv (.one (B (decide (x26 < ((cntR m n).length : Int))))))], [.box [I m.fBase, LS (lsT intT) m.fImages, LS intT m.fCoding] 67 false, rowI 3 intT l1, rowI 3 intT (cntR m n)]⟩ (by kernel_rfl) ?_
        refine WL.nil ?_
        refine En.seq ?_
        refine En.cond (b := (decide (x26 < ((cntR m n).length : Int)))) (by kernel_rfl) (fun hb => ?_) (fun hb => ?_)
        · replace h := h.1 hb
          refine En.skip ?_
          refine En.seq ?_
          refine En.block ?_
          refine En.seq ?_
          refine En.region ?_
          refine WL.run ht hn 1 ⟨[(2, .sv (.one (.ptr 0 0))), (7, .sv (.one (.own 1))), (24, .sv (.one (.own 2))), (25, .sv (.one (I ((cntR m n).length : Int)))), (26, .sv (.one (I x26))), (28, .sv (.one (I x26)))], [.box [I m.fBase, LS (lsT intT) m.fImages, LS intT m.fCoding] 67 false, rowI 3 intT l1, rowI 3 intT (cntR m n)]⟩ (by kernel_rfl) ?_
          obtain ⟨e, he, h⟩ := h
          refine WL.val hn (by rfl) (val_indexO (T := intT) (l := (cntR m n)) (k := x26) ht rfl (by rfl) (by rfl) (by rfl) (by rfl) (by decide) (by rfl) (by rfl) (by rfl) he) (by rfl) ?_
          refine WL.val hn (by rfl) (val_loadO (T := intT) (l := (cntR m n)) (y := e) ht rfl (by rfl) (by rfl) (by rfl) (by rfl) (by rfl) (idx_some he).2.2 (by rfl)) (by rfl) ?_
          refine WL.run ht hn 2 ⟨[(2, .sv (.one (.ptr 0 0))), (7, .sv (.one (.own 1))), (8, .sv (.one (I x26))), (9, .sv (.one (I e))), (24, .sv (.one (.own 2))), (25, .sv (.one (I ((cntR m n).length : Int)))), (26, .sv (.one (I x26)))], [.box [I m.fBase, LS (lsT intT) m.fImages, LS intT m.fCoding] 67 false, rowI 3 intT l1, rowI 3 intT (cntR m n)]⟩ (by kernel_rfl) ?_
          refine WL.nil ?_
          refine En.region ?_
          refine WL.run ht hn 4 ⟨[(2, .sv (.one (.ptr 0 0))), (7, .sv (.one (.own 1))), (9, .sv (.one (I e))), (24, .sv (.one (.own 2))), (25, .sv (.one (I ((cntR m n).length : Int)))), (26, .sv (.one (I x26))), (31, .sv (.one (.own 1))), (33, .sv (.one (LS intT m.fCoding))), (34, .sv (.one (I x26)))], [.box [I m.fBase, LS (lsT intT) m.fImages, LS intT m.fCoding] 67 false, rowI 3 intT l1, rowI 3 intT (cntR m n)]⟩ (by kernel_rfl) ?_
          obtain ⟨e_2, he_2, h⟩ := h
          refine WL.val hn (by rfl) (val_index (T := intT) (l := m.fCoding) (i := x26) ht rfl (by rfl) (by rfl) (by rfl) (by rfl) (by rfl) (by rfl) he_2) (by rfl) ?_
          refine WL.val hn (by rfl) (val_load (s := .one (I e_2)) ht rfl (by rfl) (by rfl) (by rfl) (by rfl) (by rfl)) (by rfl) ?_
          obtain ⟨e_3, he_3, h⟩ := h
          refine WL.val hn (by rfl) (val_indexO (T := intT) (l := l1) (k := e_2) ht rfl (by rfl) (by rfl) (by rfl) (by rfl) (by decide) (by rfl) (by rfl) (by rfl) he_3) (by rfl) ?_
          refine WL.val hn (by rfl) (val_loadO (T := intT) (l := l1) (y := e_3) ht rfl (by rfl) (by rfl) (by rfl) (by rfl) (by rfl) (idx_some he_3).2.2 (by rfl)) (by rfl) ?_
          refine WL.run ht hn 2 ⟨[(2, .sv (.one (.ptr 0 0))), (7, .sv (.one (.own 1))), (24, .sv (.one (.own 2))), (25, .sv (.one (I ((cntR m n).length : Int)))), (26, .sv (.one (I x26))), (31, .sv (.one (.own 1))), (36, .sv (.one (I e_2))), (40, .sv (.one (I (wr (e_3 + e)))))], [.box [I m.fBase, LS (lsT intT) m.fImages, LS intT m.fCoding] 67 false, rowI 3 intT l1, rowI 3 intT (cntR m n)]⟩ (by kernel_rfl) ?_
          obtain ⟨e_4, he_4, h⟩ := h
          refine WL.val hn (by rfl) (val_indexO (T := intT) (l := l1) (k := e_2) ht rfl (by rfl) (by rfl) (by rfl) (by rfl) (by decide) (by rfl) (by rfl) (by rfl) he_4) (by rfl) ?_
          refine WL.storeO (T := intT) (l := l1) (y := (wr (e_3 + e))) ht hn (by rfl) rfl (by rfl) (by rfl) (fun _ h => by cases h) (by rfl) (by rfl) (idx_lt he_4) (by rfl) (by rfl) (by rfl) (by rfl) ?_
          refine WL.nil ?_
          refine En.region ?_
          refine WL.run ht hn 2 ⟨[(2, .sv (.one (.ptr 0 0))), (7, .sv (.one (.own 1))), (24, .sv (.one (.own 2))), (25, .sv (.one (I ((cntR m n).length : Int)))), (26, .sv (.one (I (wr (x26 + 1)))))], [.box [I m.fBase, LS (lsT intT) m.fImages, LS intT m.fCoding] 67 false, rowI 3 intT (l1.set (e_2).toNat (wr (e_3 + e))), rowI 3 intT (cntR m n)]⟩ (by kernel_rfl) ?_
          refine WL.nil ?_
          exact En.at (I := fun zz => Inv zz.1 zz.2 ∧ mu zz.1 zz.2 < mu x26 l1) (T := fun zz => ⟨[(2, .sv (.one (.ptr 0 0))), (7, .sv (.one (.own 1))), (24, .sv (.one (.own 2))), (25, .sv (.one (I ((cntR m n).length : Int)))), (26, .sv (.one (I zz.1)))], [.box [I m.fBase, LS (lsT intT) m.fImages, LS intT m.fCoding] 67 false, rowI 3 intT zz.2, rowI 3 intT (cntR m n)]⟩) ((wr (x26 + 1)), (l1.set (e_2).toNat (wr (e_3 + e)))) h (by kernel_rfl)
        · replace h := h.2 hb
          refine En.exit rfl ?_
          refine En.seq ?_
          refine En.region ?_
          refine WL.run ht hn 3 ⟨[(4, .sv (.one (.own 1))), (5, .sv (.one (I 0)))], [.gone, rowI 3 intT l1, .gone]⟩ (by kernel_rfl) ?_
          refine WL.nil ?_
          refine En.ret ?_
          refine En.seal (T := intT) (l := l1) (e := 3) 1 rfl ?_
          exact En.back ht (l1, 0) h (by kernel_rfl) rfl
theorem en29 : ∀ args w, (callFunc 29 args).run Try.prog w = .ok (.enter 29 args) w := enters_of Try.func29 (by kernel_rfl) rfl
theorem seqCounts_ct (m : ApiMorph) (n : Int)  : Ct 29 [.sv (.agg [I m.fBase, LS (lsT intT) m.fImages, LS intT m.fCoding]), .sv (.one (I n))] [] (fun (_ : Unit) => True) (fun _ => .tup [.one (LS intT (countsR m n).1), .one (I (countsR m n).2)]) := by
  refine (seqCounts_walk m n (fun res_ => res_ = (countsR m n)) ?_).fun
  intro _ _
  refine ⟨fun h => ?_, fun h => ⟨fun h2 => ?_, fun h2 => ?_⟩⟩
  · show _ = countsR m n
    unfold countsR
    rw [if_neg (by simpa using h)]
  · show _ = countsR m n
    unfold countsR
    rw [if_pos (by simpa using h), if_pos (by simpa using h2)]
  have h : seqErr m = 0 := by simpa using h
  simp only [Bool.or_eq_false_iff, decide_eq_false_iff_not] at h2
  have hm := seqErr_ok h
  have hsz := hm.size
  obtain ⟨k, rfl⟩ := Int.eq_ofNat_of_zero_le (a := n) (by omega)
  have hR : countsR m (k : Int) = (cntL 10 (valN m k), 0) := by
    unfold countsR
    rw [if_pos h, if_neg (by omega)]
    rfl
  rw [hR]
  have hz : List.replicate (10 : Int).toNat (0 : Int) = cntL 10 fun _ => 0 := by decide
  rw [hz, show cntR m (k : Int) = cntL m.fImages.length (cntN m k) from rfl]
  refine ⟨by unfold makeOk; omega, ⟨hm, by omega, by omega⟩, fun i l => ∃ a : Nat, i = a ∧ a ≤ m.fImages.length ∧ l = cntL 10 (tell m k a), fun i _ => m.fImages.length - i.toNat, ⟨0, rfl, Nat.zero_le _, cntL_congr fun _ _ => by simp [tell]⟩, ?_⟩
  rintro i l ⟨a, rfl, ha, rfl⟩
  rw [cntL_len]
  refine ⟨fun hb => ?_, fun hb => ?_⟩
  · have hla := dlt hb
    have hc : a < m.fCoding.length := by rw [hm.coding]; exact hla
    have hcode := hm.code _ (getD_mem (l := m.fCoding) (i := a) (z := 0) hc)
    have hce : m.fCoding.getD (a : Int).toNat 0 = codeN m a := rfl
    refine ⟨_, idx_of 0 (by omega) (by rw [cntL_len]; omega), _, idx_of 0 (by omega) (by omega), _, idx_of 0 hcode.1 (by rw [cntL_len]; show m.fCoding.getD a 0 < _; omega), _, idx_of 0 hcode.1 (by rw [cntL_len]; show m.fCoding.getD a 0 < _; omega), ⟨a + 1, wsucc (by omega), hla, ?_⟩, mu_up hla (by omega)⟩
    rw [hce, Int.toNat_natCast, cntL_at hla]
    have hcode : 0 ≤ codeN m a ∧ codeN m a ≤ 9 := hcode
    obtain ⟨c, hcc⟩ := Int.eq_ofNat_of_zero_le hcode.1
    have h1 := cntN_le m k a
    have h3 := tell_le m k a c
    have h4 : a * k ≤ 4 * k := Nat.mul_le_mul_right _ (by omega)
    rw [hcc, Int.toNat_natCast, cntL_at (by omega), wr_in (by omega) (by omega), ← Int.natCast_add, cntL_set]
    refine cntL_congr fun b _ => ?_
    rw [tell_succ, hcc]
    by_cases e : b = c
    · rw [if_pos e, if_pos (by omega)]
    · rw [if_neg e, if_neg (by omega)]
  · have : a = m.fImages.length := by have := dge hb; omega
    subst this
    show (_, _) = (_, _)
    congr 1
    exact cntL_congr fun v _ => tell_all hm v k
end Go.Proofs.Ytfpdnigihjmohaa

