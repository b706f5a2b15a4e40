/- Lemmas towards the statement: mirrors of functions, and plain laws. No condition. -/
import Derived.Test.YtiejmeedkhkfgaaPackStackGoes2
namespace Go.Proofs.Ytiejmeedkhkfgaa
open Go.RowKit Go.MapKept
set_option linter.unusedSimpArgs false
set_option linter.unusedVariables false
set_option maxRecDepth 100000
theorem letsOut_any {c : Cfg} {N Z : Po} (h : LetsOut (OnlyP c N)) : LetsOut (OnlyP c Z) := by
 obtain ⟨a, w, h⟩ := h
 exact h.elim
theorem wp_anyN {c : Cfg} {o : Oper} {a : Act} {w : World} {K N Z : Po} (hh : o.wp Try.prog a w K (OnlyP c N)) : o.wp Try.prog a w K (OnlyP c Z) := by
 unfold Oper.wp at *
 generalize (execOp a.eval o).run Try.prog w = r at *
 cases r with
 | ok n w' =>
  cases n <;> simp only [Oper.upon] at hh ⊢ <;>
   first
    | exact hh
    | exact Calls.mono hh (fun e w'' he => by cases e <;> first | exact he | exact letsOut_any he)
 | halt x w' => cases x <;> simp only [Oper.upon] at hh ⊢ <;> exact hh
section
variable {c : Cfg} {l : List Oper} {N : Po} {S : St} {fuel : Nat} {listed : Array Bool}
def RD (c : Cfg) (l : List Oper) (N : Po) (fuel : Nat) (listed : Array Bool) (S : St) : Prop := ∀ a w, Ok c S a w → wpAny Try.prog .any l.toArray (OnlyP c N) fuel listed a w
theorem RD.nil (hr : Region.ready .any l.toArray listed = []) (h : En c S N) : RD c l N 0 listed S := fun a w hk => ⟨hr, h a w hk⟩
def RDs (c : Cfg) (l : List Oper) (N : Po) (fuel : Nat) (listed : Array Bool) (S : St) : List Nat → Prop
 | [] => True
 | i :: r => (∃ (o : Oper) (S' : St) (L' : Array Bool), l[i]? = some o ∧ WL c l.toArray [o] S (fun a w => Ok c S' a w) ∧ listed.setIfInBounds i true = L' ∧ RD c l N fuel L' S') ∧ RDs c l N fuel listed S r
theorem RDs.get : ∀ {is : List Nat}, RDs c l N fuel listed S is → ∀ i ∈ is, ∃ (o : Oper) (S' : St), l[i]? = some o ∧ WL c l.toArray [o] S (fun a w => Ok c S' a w) ∧ RD c l N fuel (listed.setIfInBounds i true) S'
 | j :: r, h, i, hi => by
  rcases List.mem_cons.1 hi with e | hi
  ·subst e
   obtain ⟨o, S', L', h1, h2, h3, h4⟩ := h.1
   subst h3
   exact ⟨o, S', h1, h2, h4⟩
  ·exact RDs.get h.2 i hi
theorem RD.succ (is : List Nat) (hr : Region.ready .any l.toArray listed = is) (hne : is.isEmpty = false) (h : RDs c l N fuel listed S is) : RD c l N (fuel + 1) listed S := fun a w hk => by
 refine ⟨fun e => ?_, fun i hi => ?_⟩
 ·rw [hr] at e
  subst e
  cases hne
 ·rw [hr] at hi
  obtain ⟨o, S', ho, hw, hd⟩ := RDs.get h i hi
  have hw := hw a w hk
  have ho' : l.toArray[i]? = some o := by simpa using ho
  unfold wpOp
  rw [ho']
  simp only
  unfold wpList at hw
  split
  ·rename_i hwant
   rw [if_pos hwant] at hw
   rcases hw with hw | hw
   ·exact .inl (wp_anyN (Oper.wp_mono (fun a' w' h' => hd a' w' h') hw))
   ·exact .inr ⟨hw.1, letsOut_any hw.2⟩
  ·rename_i hwant
   rw [if_neg hwant] at hw
   exact hd _ _ hw
theorem RD.have {N : Po} {f : Nat} {L : Array Bool} (f' : Nat) (L' : Array Bool) (S' : St) (h1 : RD c l N f' L' S') (h2 : RD c l N f' L' S' → RD c l N f L S) : RD c l N f L S := h2 h1
theorem RD.start {f : Nat} {L : Array Bool} {S' : St} (h : RD c l N f L S') (hf : f = l.length) (hL : L = Array.replicate l.length false) (hs : ∀ a w, Ok c S a w → Ok c S' a w) : RD c l N l.length (Array.replicate l.length false) S := by
 subst hf
 subst hL
 exact fun a w hk => h a w (hs a w hk)
theorem WL.nilI {ops : Array Oper} : WL c ops [] S (fun a w => Ok c S a w) := fun _ _ hk => hk
theorem En.regionD {id : Nat} {E : List (Nat × Po)} {R : Po} (fin : St) (hm : Try.prog.follows .mixedOrders = true) (h : ∀ N : Po, En c fin N → RD c l N l.length (Array.replicate l.length false) S) (hN : En c fin N) : En c S (cwp (.region id l.toArray true) (PQ c N E R)) := fun a w ⟨g, hs', hok⟩ => by
 have hok1 : Ok' c S a w.drew g hs' := hok.grown (grown_drew w)
 refine Code.wp_mono (fun e a w q => ?_) (wp_region_any (Q := OnlyP c N) hm ?_)
 ·cases e <;> first | exact q | exact (q : False).elim
 ·have := h N hN a w.drew ⟨g, hs', hok1⟩
  simpa using this
end
section
variable {c : Cfg} {S : St}
end
section
variable {c : Cfg} {S S1 : St} {tab : Tab} {n : Nat} {o : Oper} {ops : Array Oper} {rest L : List Oper} {N : Po}
theorem WL.callQ {β : Type} (F2 : List (Nat × SC)) {f : Nat} {ins : List SC} {M : List Item} {pin : List Nat} {post : β → Prop} {out : β → SC} {M' : β → List Item} (ct : CtE f ins M pin post out M') (en : ∀ args w, (callFunc f args).run Try.prog w = .ok (.enter f args) w) {caps : List Nat} (rn : List Nat) {fo : Operand} {args : Array Operand} {ats : Array TypeId}
  (hn : c.n = n) (hw : wantE ops S.F o = some true) (ho : o.op = .call ⟨.value fo, args, ats⟩) (hf : evX S.F fo = some (.sv (.one (.fn f caps)))) (ha : ArgsAs c S args caps (ins.map (SC.ren (rnF rn S.M.length))))
  (hM : M.map (fun it => some (it.mv (rnF rn S.M.length))) = rn.map (fun j => S.M[j]?)) (hnd : rn.Nodup) (hsb : subE ⟨F2, S.M⟩ S = subX ⟨F2, S.M⟩) (hal : aloneE ⟨F2, S.M⟩ rn pin = true) (hpl : pin.all (fun i => Nat.blt i rn.length) = true)
  (h : ∀ r, post r → (refsB (M' r) && Nat.ble M.length (M' r).length && backC pin M (M' r) && (out r).refs.all (fun i => Nat.blt i (M' r).length)) = true ∧ ∃ S1, putE n o.dst ((out r).ren (rnF rn S.M.length)) ⟨F2, putItems (rnF rn S.M.length) S.M rn (M' r)⟩ = some S1 ∧ WL c ops rest S1 N) : WL c ops (o :: rest) S N := fun a w ⟨g, hs, hk⟩ => by
 unfold wpList
 rw [if_pos (wantE_ok hk hw)]
 refine .inl ?_
 unfold Oper.wp
 have hfv : a.eval fo = .func (.func f) #[] (caps.map hs).toArray := (evX_ok hk hf).1
 have hrun : (execOp a.eval o).run Try.prog w = .ok (.enter f ((args.toList.map a.eval) ++ caps.map hs).toArray) w := by
  unfold execOp
  simp only [ho, resolve, hfv, Deferred.ofValue, Sem.run_bind, Sem.run_pure, Result.andThen_ok, invoke]
  rw [show (#[] ++ Array.map a.eval args ++ (List.map hs caps).toArray : Array Value) = (args.toList.map a.eval ++ caps.map hs).toArray by simp]
  exact en _ _
 rw [hrun]
 refine (ct w g (fun i => hs (rnF rn S.M.length i)) _ hk.base.pers (okArgs_ren (ha a w g hs hk)) (items_in hk hM hnd)).mono ?_
 rintro e' w' ⟨v, g', hs', r, rfl, hq, h3, h4, h5, h6⟩
 obtain ⟨hc, S1, hp, hW⟩ := h r hq
 simp only [Bool.and_eq_true] at hc
 obtain ⟨⟨⟨c1, c2⟩, c3⟩, c4⟩ := hc
 obtain ⟨hsN, n1, n2⟩ := (sub_ok' hsb a w g hs hk).backE hM hnd hal c1 (Nat.le_of_ble_eq_true c2) (backB_of c3) h4 (fun i hi => by have := List.all_eq_true.1 hpl i hi; rwa [Nat.blt_eq] at this) h5 h6
 refine hW _ _ ⟨g', hsN, putE_ok n1 hn (SC.ren_ok (SC.ok_hs (fun i hi => n2 i ?_) h3)) hp⟩
 have := List.all_eq_true.1 c4 i hi
 rwa [Nat.blt_eq] at this
theorem nil_Agg {α : Type} {T : Ty α} {cells : List At} (j : Nat) (hj : cells[j]? = some (.v (.slice none 0 0))) (g : Gh) (hs : Nat → Value) (u : Value) (h : SC.ok g hs (.sv (.agg cells)) u) : SC.ok g hs (.sv (.agg (cells.set j (LS T ([] : List α))))) u := by
 obtain ⟨us, h1, h2⟩ := h
 exact ⟨us, h1, oks_nil j hj h2⟩
end
end Go.Proofs.Ytiejmeedkhkfgaa
namespace Go.Proofs.Ytiejmeedkhkfgaa
open Go.RowKit Go.MapKept
section
variable {c : Cfg} {S S1 S' : St} {tab : Tab} {n : Nat} {o : Oper} {ops : Array Oper} {rest L : List Oper} {N R : Po} {E : List (Nat × Po)}
theorem WL.r (ht : tab.ok) (hn : c.n = n) (k : Nat) (S' : St) (h : WL c ops (L.drop k) S' N) (e : (evL tab n ops (L.take k) S).map (subE S') = some (subX S') := by kernel_rfl) : WL c ops L S N := WL.run ht hn k S' e h
theorem WL.rn (ht : tab.ok) (hn : c.n = n) (k : Nat) (S' : St) (h : ∀ a w, Ok c S' a w → N a w) (e : (evL tab n ops (L.take k) S).map (subE S') = some (subX S') := by kernel_rfl) (e2 : L.drop k = [] := by rfl) : WL c ops L S N := WL.run ht hn k S' e (by rw [e2]; exact h)
theorem WL.rI (ht : tab.ok) (hn : c.n = n) (e : (evL tab n ops (L.take 1) S).map (subE S') = some (subX S') := by kernel_rfl) (e2 : L.drop 1 = [] := by rfl) : WL c ops L S (fun a w => Ok c S' a w) := WL.run ht hn 1 S' e (by rw [e2]; exact WL.nilI)
theorem WL.v {x : SC} (hn : c.n = n) (hv : Val c S o x) (h : WL c ops rest S' N) (hw : wantE ops S.F o = some true := by rfl) (e : putE n o.dst x S = some S' := by rfl) : WL c ops (o :: rest) S N := WL.val hn hw hv e h
theorem WL.m0 {x : SC} (hn : c.n = n) (hm : MT c S o x [] none) (h : WL c ops rest S1 N) (hw : wantE ops S.F o = some true := by rfl) (hr : refsNe S none = true := by rfl) (hu : usable S [] = true := by rfl) (e : putE n o.dst x ⟨S.F, newM S.M [] none⟩ = some S1 := by rfl) : WL c ops (o :: rest) S N := WL.mt0 hn hw hm hr hu e h
theorem WL.sB (t : Nat) {b b' : Bool} (e : b = b') (h : WL c ops L ⟨(t, .sv (.one (.v (.bool b')))) :: S.F, S.M⟩ N) (hl : look t S.F = some (.sv (.one (.v (.bool b)))) := by kernel_rfl) : WL c ops L S N := WL.setB t e hl h
theorem En.sr {id : Nat} {l : List Oper} {y : Code} (h : WL c l.toArray l S (cwp y (PQ c N E R))) : En c S (cwp (.seq (.region id l.toArray false) y) (PQ c N E R)) := En.seq (En.region h)
theorem En.cd {b : Bool} {o : Operand} {x y : Code} {Q : Exit → Act → World → Prop} (ht : b = true → En c S (cwp x Q)) (hf : b = false → En c S (cwp y Q)) (hb : evK S.F o = some (.bool b) := by kernel_rfl) : En c S (cwp (.cond o x y) Q) := En.cond hb ht hf
theorem En.rb {β : Type} {post : β → Prop} {out : β → SC} {rs : Array ResultVar} (ht : tab.ok) (r : β) (hp : post r) (e : evR tab S rs = some (out r) := by kernel_rfl) (hc : (out r).refs = [] := by rfl) : En c S (cwp .ret (PQ c N E (RetA c rs post out))) := En.ret (En.back ht r hp e hc)
theorem val_ld {s : SV} {sz t : Nat} {ti : TI} {x : Operand} (ht : tab.ok) (ho : o.op = .load t x) (h1 : tab t = some ti := by rfl) (h2 : ti.size = sz := by rfl) (h3 : svFits ti s = true := by rfl) (hx : evX S.F x = some (.sv (.one (.pe (svR s) sz))) := by rfl) (hc : s.refs = [] := by rfl) : Val c S o (.sv s) := val_load ht ho h1 h2 h3 hx hc
theorem val_ix {α : Type} {T : Ty α} {l : List α} {i : Int} {y : α} {t el : Nat} {ti te : TI} {x ix : Operand} {k : IntKind} {m : Nat} (ht : tab.ok) (ho : o.op = .indexAddr t x ix) (hy : idx l i = some y) (h1 : tab t = some ti := by rfl) (h2 : ti.sl = some el := by rfl) (h3 : tab el = some te := by rfl) (h4 : te.size = T.s := by rfl) (hx : evX S.F x = some (.sv (.one (.sl (slR T l) m))) := by rfl) (hi : evK S.F ix = some (.int k i) := by rfl) : Val c S o (.sv (.one (.pe (svR (T.sv y)) T.s))) := val_index ht ho h1 h2 h3 h4 hx hi hy
theorem val_fd {l : List At} {sz t f fo fs : Nat} {ag : Bool} {ti : TI} {x : Operand} {r : SV} (ht : tab.ok) (ho : o.op = .fieldAddr t x f) (h1 : tab t = some ti := by rfl) (h2 : ti.st = true := by rfl) (h3 : ti.offs[f]? = some (fo, fs + 1, ag) := by rfl) (h4 : partE l fo (fs + 1) ag = some r := by rfl) (hx : evX S.F x = some (.sv (.one (.pe (svR (.agg l)) sz))) := by rfl) (h6 : (svCells r).length = fs + 1 := by rfl) : Val c S o (.sv (.one (.pe (svR r) (fs + 1)))) := val_field ht ho h1 h2 h3 h4 hx h6
theorem mt_c {f : Nat} {ins : List SC} {M : List Item} {x : SC} (ct : Ct f ins M (fun (_ : Unit) => True) (fun _ => x)) (en : ∀ args w, (callFunc f args).run Try.prog w = .ok (.enter f args) w) {fo : Operand} {args : Array Operand} {ats : Array TypeId} (ho : o.op = .call ⟨.value fo, args, ats⟩) (hf : evX S.F fo = some (.sv (.one (.fn f []))) := by rfl) (ha : (match evXs S.F args.toList with | some l => some (l ++ ([] : List Nat).map fun i => .sv (.one (.ptr i 0))) | none => none) = some (ins.map (SC.ren fun i => ([] : List Nat).getD i 0)) := by kernel_rfl) (hM : fzE S.M (fun i => ([] : List Nat).getD i 0) 0 M = M.map (fun it => some (it.ren fun i => ([] : List Nat).getD i 0)) := by kernel_rfl) (hz : M.all fzB = true := by rfl) (hcl : x.refs = [] := by rfl) : MT c S o x [] none := mt_call ct en (caps := []) [] ho hf ha hM hz hcl rfl
theorem WL.cE {f : Nat} {ins : List SC} {M : List Item} {pin : List Nat} {out : Unit → SC} {M' : Unit → List Item} (ct : CtE f ins M pin (fun (_ : Unit) => True) out M') (en : ∀ args w, (callFunc f args).run Try.prog w = .ok (.enter f args) w) (rn : List Nat) {fo : Operand} {args : Array Operand} {ats : Array TypeId} (hn : c.n = n) (ho : o.op = .call ⟨.value fo, args, ats⟩) (h : WL c ops rest S1 N) (hw : wantE ops S.F o = some true := by rfl) (hf : evX S.F fo = some (.sv (.one (.fn f []))) := by rfl) (ha : (match evXs S.F args.toList with | some l => some (l ++ ([] : List Nat).map fun i => .sv (.one (.ptr i 0))) | none => none) = some (ins.map (SC.ren (rnF rn S.M.length))) := by kernel_rfl) (hM : M.map (fun it => some (it.mv (rnF rn S.M.length))) = rn.map (fun j => S.M[j]?) := by kernel_rfl) (hnd : rn.Nodup := by decide) (hal : aloneE S rn pin = true := by rfl) (hpl : pin.all (fun i => Nat.blt i rn.length) = true := by rfl) (hx : (refsB (M' ()) && Nat.ble M.length (M' ()).length && backC pin M (M' ()) && (out ()).refs.all (fun i => Nat.blt i (M' ()).length)) = true := by rfl) (e : putE n o.dst ((out ()).ren (rnF rn S.M.length)) ⟨S.F, putItems (rnF rn S.M.length) S.M rn (M' ())⟩ = some S1 := by rfl) : WL c ops (o :: rest) S N := WL.callE ct en (caps := []) rn hn hw ho hf (argsAs ha rfl) hM hnd hal hpl (fun _ _ => ⟨hx, S1, e, h⟩)
end
theorem StepOk.ev {c : Cfg} {C : Cert} {ops : List Oper} {i : Nat} {o : Oper} {tab : Tab} (S : St) (ht : tab.ok) (hf : fitsE C ops i S = fitsX S := by kernel_rfl) (hw : wantE ops.toArray S.F o = some true := by rfl) (e : evV tab S o = some (C.x i) := by kernel_rfl) (hk : killE C i = [] := by rfl) (hb : bornE C i = [] := by rfl) (hu : updE C i = [] := by rfl) (huse : usable S [] = true := by rfl) : StepOk c C ops i o := .mt S [] none hf hw (mt_ev ht e) hk hb hu huse
theorem StepOk.vl {c : Cfg} {C : Cert} {ops : List Oper} {i : Nat} {o : Oper} (S : St) (hm : MT c S o (C.x i) [] none) (hf : fitsE C ops i S = fitsX S := by kernel_rfl) (hw : wantE ops.toArray S.F o = some true := by rfl) (hk : killE C i = [] := by rfl) (hb : bornE C i = [] := by rfl) (hu : updE C i = [] := by rfl) (huse : usable S [] = true := by rfl) : StepOk c C ops i o := .mt S [] none hf hw hm hk hb hu huse
end Go.Proofs.Ytiejmeedkhkfgaa
namespace Go.Proofs.Ytiejmeedkhkfgaa
open Go.RowKit Go.MapKept
set_option linter.unusedSimpArgs false
set_option linter.unusedVariables false
set_option maxRecDepth 100000
structure ApiArrow where
 fFrom : Int
 fLetter : Int
 fTo : Int
deriving DecidableEq, Inhabited
abbrev ApiArrow.sv (x : ApiArrow) : SV := .agg [I x.fFrom, I x.fLetter, I x.fTo]
abbrev ApiArrow.ty : Ty ApiArrow := ⟨3, ApiArrow.sv⟩
structure ApiGraph where
 fLetters : Int
 fPlaces : Int
 fArrows : (List ApiArrow)
deriving DecidableEq, Inhabited
abbrev ApiGraph.sv (x : ApiGraph) : SV := .agg [I x.fLetters, I x.fPlaces, LS ApiArrow.ty x.fArrows]
abbrev ApiGraph.ty : Ty ApiGraph := ⟨3, ApiGraph.sv⟩
structure ApiFault where
 fCode : Int
 fAt : Int
deriving DecidableEq, Inhabited
abbrev ApiFault.sv (x : ApiFault) : SV := .agg [I x.fCode, I x.fAt]
abbrev ApiFault.ty : Ty ApiFault := ⟨2, ApiFault.sv⟩
structure ApiPush where
 fFrom : Int
 fTop : Int
 fTo : Int
 fPut : (List Int)
deriving DecidableEq, Inhabited
abbrev ApiPush.sv (x : ApiPush) : SV := .agg [I x.fFrom, I x.fTop, I x.fTo, LS intT x.fPut]
abbrev ApiPush.cl (x : ApiPush) : List At := [I x.fFrom, I x.fTop, I x.fTo, LS intT x.fPut]
abbrev ApiPush.ty : Ty ApiPush := ⟨4, ApiPush.sv⟩
structure ApiConfig where
 fControl : Int
 fStack : (List Int)
deriving DecidableEq, Inhabited
abbrev ApiConfig.sv (x : ApiConfig) : SV := .agg [I x.fControl, LS intT x.fStack]
abbrev ApiConfig.cl (x : ApiConfig) : List At := [I x.fControl, LS intT x.fStack]
abbrev ApiConfig.ty : Ty ApiConfig := ⟨2, ApiConfig.sv⟩
structure ApiDet where
 fLetters : Int
 fStart : Int
 fNext : (List (List Int))
 fMark : (List Int)
deriving DecidableEq, Inhabited
abbrev ApiDet.sv (x : ApiDet) : SV := .agg [I x.fLetters, I x.fStart, LS (lsT intT) x.fNext, LS intT x.fMark]
abbrev ApiDet.ty : Ty ApiDet := ⟨4, ApiDet.sv⟩
structure ApiQuery where
 fGuessed : Bool
 fWord : (List Int)
 fYes : Bool
 fGuess : ApiDet
 fRight : Bool
deriving DecidableEq, Inhabited
abbrev ApiQuery.sv (x : ApiQuery) : SV := .agg [B x.fGuessed, LS intT x.fWord, B x.fYes, I x.fGuess.fLetters, I x.fGuess.fStart, LS (lsT intT) x.fGuess.fNext, LS intT x.fGuess.fMark, B x.fRight]
abbrev ApiQuery.ty : Ty ApiQuery := ⟨8, ApiQuery.sv⟩
structure StackEdge where
 fFrom : Int
 fSign : Int
 fTo : Int
deriving DecidableEq, Inhabited
abbrev StackEdge.sv (x : StackEdge) : SV := .agg [I x.fFrom, I x.fSign, I x.fTo]
abbrev StackEdge.cl (x : StackEdge) : List At := [I x.fFrom, I x.fSign, I x.fTo]
abbrev StackEdge.ty : Ty StackEdge := ⟨3, StackEdge.sv⟩
structure StackWay where
 fTo : Int
 fCost : Int
 fOver : (List StackEdge)
deriving DecidableEq, Inhabited
abbrev StackWay.sv (x : StackWay) : SV := .agg [I x.fTo, I x.fCost, LS StackEdge.ty x.fOver]
abbrev StackWay.cl (x : StackWay) : List At := [I x.fTo, I x.fCost, LS StackEdge.ty x.fOver]
abbrev StackWay.ty : Ty StackWay := ⟨3, StackWay.sv⟩
structure LearnTeacher where
 fD : ApiDet
 fLog : (List ApiQuery)
deriving DecidableEq, Inhabited
abbrev LearnTeacher.sv (x : LearnTeacher) : SV := .agg [I x.fD.fLetters, I x.fD.fStart, LS (lsT intT) x.fD.fNext, LS intT x.fD.fMark, LS ApiQuery.ty x.fLog]
abbrev LearnTeacher.ty : Ty LearnTeacher := ⟨5, LearnTeacher.sv⟩
structure BranchWrong where
 fFault : ApiFault
deriving DecidableEq, Inhabited
abbrev BranchWrong.sv (x : BranchWrong) : SV := .agg [I x.fFault.fCode, I x.fFault.fAt]
abbrev BranchWrong.ty : Ty BranchWrong := ⟨2, BranchWrong.sv⟩
structure BranchReader where
 fText : ByteArray
 fI : Int
 fDeep : Int
 fCount : Int
deriving DecidableEq, Inhabited
abbrev BranchReader.sv (x : BranchReader) : SV := .agg [.v (.string x.fText), I x.fI, I x.fDeep, I x.fCount]
abbrev BranchReader.ty : Ty BranchReader := ⟨4, BranchReader.sv⟩
structure BranchWalker where
 fGraph : ApiGraph
 fNext : (List (List Int))
deriving DecidableEq, Inhabited
abbrev BranchWalker.sv (x : BranchWalker) : SV := .agg [I x.fGraph.fLetters, I x.fGraph.fPlaces, LS ApiArrow.ty x.fGraph.fArrows, LS (lsT intT) x.fNext]
abbrev BranchWalker.ty : Ty BranchWalker := ⟨4, BranchWalker.sv⟩
structure StackKnown where
 fRule : Int
 fCost : Int
 fOver : (List StackEdge)
deriving DecidableEq, Inhabited
abbrev StackKnown.sv (x : StackKnown) : SV := .agg [I x.fRule, I x.fCost, LS StackEdge.ty x.fOver]
abbrev StackKnown.cl (x : StackKnown) : List At := [I x.fRule, I x.fCost, LS StackEdge.ty x.fOver]
abbrev StackKnown.ty : Ty StackKnown := ⟨3, StackKnown.sv⟩
structure FixWrong where
 fFault : ApiFault
deriving DecidableEq, Inhabited
abbrev FixWrong.sv (x : FixWrong) : SV := .agg [I x.fFault.fCode, I x.fFault.fAt]
abbrev FixWrong.ty : Ty FixWrong := ⟨2, FixWrong.sv⟩
structure FixName where
 fSign : Int
 fTurned : Bool
deriving DecidableEq, Inhabited
abbrev FixName.sv (x : FixName) : SV := .agg [.v (.int .u8 x.fSign), B x.fTurned]
abbrev FixName.ty : Ty FixName := ⟨2, FixName.sv⟩
structure FixReader where
 fText : ByteArray
 fI : Int
 fDeep : Int
 fCount : Int
 fAround : (List FixName)
deriving DecidableEq, Inhabited
abbrev FixReader.sv (x : FixReader) : SV := .agg [.v (.string x.fText), I x.fI, I x.fDeep, I x.fCount, LS FixName.ty x.fAround]
abbrev FixReader.ty : Ty FixReader := ⟨5, FixReader.sv⟩
structure RegularPlaces where
 fLetters : (List Int)
 fNext : (List (List Int))
deriving DecidableEq, Inhabited
abbrev RegularPlaces.sv (x : RegularPlaces) : SV := .agg [LS intT x.fLetters, LS (lsT intT) x.fNext]
abbrev RegularPlaces.ty : Ty RegularPlaces := ⟨2, RegularPlaces.sv⟩
structure RegularStop where
 fFault : ApiFault
deriving DecidableEq, Inhabited
abbrev RegularStop.sv (x : RegularStop) : SV := .agg [I x.fFault.fCode, I x.fFault.fAt]
abbrev RegularStop.ty : Ty RegularStop := ⟨2, RegularStop.sv⟩
structure RegularReader where
 fText : ByteArray
 fI : Int
 fDeep : Int
deriving DecidableEq, Inhabited
abbrev RegularReader.sv (x : RegularReader) : SV := .agg [.v (.string x.fText), I x.fI, I x.fDeep]
abbrev RegularReader.ty : Ty RegularReader := ⟨3, RegularReader.sv⟩
structure RegularEnds where
 fEmpty : Bool
 fFirst : (List Int)
 fLast : (List Int)
deriving DecidableEq, Inhabited
abbrev RegularEnds.sv (x : RegularEnds) : SV := .agg [B x.fEmpty, LS intT x.fFirst, LS intT x.fLast]
abbrev RegularEnds.ty : Ty RegularEnds := ⟨3, RegularEnds.sv⟩
structure DetCouple where
 fE0 : Int
 fE1 : Int
deriving DecidableEq, Inhabited
abbrev DetCouple.sv (x : DetCouple) : SV := .agg [I x.fE0, I x.fE1]
abbrev DetCouple.ty : Ty DetCouple := ⟨2, DetCouple.sv⟩
structure DetSplit where
 fOwn : Int
 fNext : ByteArray
deriving DecidableEq, Inhabited
abbrev DetSplit.sv (x : DetSplit) : SV := .agg [I x.fOwn, .v (.string x.fNext)]
abbrev DetSplit.ty : Ty DetSplit := ⟨2, DetSplit.sv⟩
def tabs : List (Nat × TI) := [
 (3, ⟨false, false, 1, [.int .i64 0], [], some .i64, none, 8⟩),
 (4, ⟨false, false, 1, [.bool false], [], none, none, 1⟩),
 (5, ⟨false, false, 1, [.int .u8 0], [], some .u8, none, 1⟩),
 (9, ⟨false, false, 1, [.string ByteArray.empty], [], none, none, 16⟩),
 (21, ⟨false, false, 1, [.int .i32 0], [], some .i32, none, 4⟩),
 (22, ⟨false, false, 1, [.slice none 0 0], [], none, some 26, 24⟩),
 (24, ⟨true, true, 3, [.int .i64 0, .int .i64 0, .slice none 0 0], [(0, 1, false), (1, 1, false), (2, 1, false)], none, none, 40⟩),
 (26, ⟨true, true, 3, [.int .i64 0, .int .i64 0, .int .i64 0], [(0, 1, false), (1, 1, false), (2, 1, false)], none, none, 24⟩),
 (27, ⟨false, false, 1, [.slice none 0 0], [], none, some 4, 24⟩),
 (28, ⟨false, false, 1, [.int .i64 0], [], some .i64, none, 8⟩),
 (32, ⟨true, true, 2, [.int .i64 0, .int .i64 0], [(0, 1, false), (1, 1, false)], none, none, 16⟩),
 (34, ⟨false, false, 1, [.slice none 0 0], [], none, some 9, 24⟩),
 (36, ⟨false, false, 1, [.slice none 0 0], [], none, some 41, 24⟩),
 (37, ⟨false, false, 1, [.slice none 0 0], [], none, some 3, 24⟩),
 (39, ⟨true, true, 2, [.int .i64 0, .slice none 0 0], [(0, 1, false), (1, 1, false)], none, none, 32⟩),
 (41, ⟨true, true, 4, [.int .i64 0, .int .i64 0, .int .i64 0, .slice none 0 0], [(0, 1, false), (1, 1, false), (2, 1, false), (3, 1, false)], none, none, 48⟩),
 (51, ⟨false, false, 1, [.slice none 0 0], [], none, some 37, 24⟩),
 (53, ⟨true, true, 4, [.int .i64 0, .int .i64 0, .slice none 0 0, .slice none 0 0], [(0, 1, false), (1, 1, false), (2, 1, false), (3, 1, false)], none, none, 64⟩),
 (55, ⟨false, false, 1, [.slice none 0 0], [], none, some 59, 24⟩),
 (59, ⟨true, true, 8, [.bool false, .slice none 0 0, .bool false, .int .i64 0, .int .i64 0, .slice none 0 0, .slice none 0 0, .bool false], [(0, 1, false), (1, 1, false), (2, 1, false), (3, 4, true), (7, 1, false)], none, none, 112⟩),
 (63, ⟨false, false, 1, [.pointer none], [], none, none, 8⟩),
 (66, ⟨false, false, 1, [.pointer none], [], none, none, 8⟩),
 (72, ⟨false, false, 1, [.slice none 0 0], [], none, some 76, 24⟩),
 (74, ⟨false, false, 1, [.slice none 0 0], [], none, some 79, 24⟩),
 (76, ⟨true, true, 3, [.int .i64 0, .int .i64 0, .slice none 0 0], [(0, 1, false), (1, 1, false), (2, 1, false)], none, none, 40⟩),
 (79, ⟨true, true, 3, [.int .i64 0, .int .i64 0, .int .i64 0], [(0, 1, false), (1, 1, false), (2, 1, false)], none, none, 24⟩),
 (83, ⟨false, false, 1, [.pointer none], [], none, none, 8⟩),
 (92, ⟨false, false, 1, [.pointer none], [], none, none, 8⟩),
 (94, ⟨true, true, 5, [.int .i64 0, .int .i64 0, .slice none 0 0, .slice none 0 0, .slice none 0 0], [(0, 4, true), (4, 1, false)], none, none, 88⟩),
 (95, ⟨false, false, 1, [.map none], [], none, none, 8⟩),
 (97, ⟨true, true, 5, [.pointer none, .int .i64 0, .slice none 0 0, .slice none 0 0, .map none], [(0, 1, false), (1, 1, false), (2, 1, false), (3, 1, false), (4, 1, false)], none, none, 72⟩),
 (103, ⟨false, false, 1, [.nilFunc], [], none, none, 8⟩),
 (108, ⟨true, true, 2, [.int .i64 0, .int .i64 0], [(0, 2, true)], none, none, 16⟩),
 (111, ⟨true, true, 4, [.string ByteArray.empty, .int .i64 0, .int .i64 0, .int .i64 0], [(0, 1, false), (1, 1, false), (2, 1, false), (3, 1, false)], none, none, 40⟩),
 (115, ⟨true, true, 4, [.int .i64 0, .int .i64 0, .slice none 0 0, .slice none 0 0], [(0, 3, true), (3, 1, false)], none, none, 64⟩),
 (117, ⟨false, false, 1, [.slice none 0 0], [], none, some 63, 24⟩),
 (119, ⟨true, true, 4, [.int .u8 0, .bool false, .int .i64 0, .slice none 0 0], [(0, 1, false), (1, 1, false), (2, 1, false), (3, 1, false)], none, none, 40⟩),
 (124, ⟨false, false, 1, [.slice none 0 0], [], none, some 39, 24⟩),
 (125, ⟨false, false, 1, [.map none], [], none, none, 8⟩),
 (127, ⟨true, true, 3, [.int .i64 0, .slice none 0 0, .map none], [(0, 2, true), (2, 1, false)], none, none, 40⟩),
 (129, ⟨true, true, 3, [.int .i64 0, .int .i64 0, .slice none 0 0], [(0, 1, false), (1, 1, false), (2, 1, false)], none, none, 40⟩),
 (131, ⟨false, false, 1, [.map none], [], none, none, 8⟩),
 (136, ⟨false, false, 1, [.nilFunc], [], none, none, 8⟩),
 (140, ⟨true, true, 2, [.int .i64 0, .int .i64 0], [(0, 2, true)], none, none, 16⟩),
 (141, ⟨false, false, 1, [.pointer none], [], none, none, 8⟩),
 (142, ⟨false, false, 1, [.slice none 0 0], [], none, some 236, 24⟩),
 (144, ⟨true, true, 5, [.string ByteArray.empty, .int .i64 0, .int .i64 0, .int .i64 0, .slice none 0 0], [(0, 1, false), (1, 1, false), (2, 1, false), (3, 1, false), (4, 1, false)], none, none, 64⟩),
 (146, ⟨false, false, 1, [.slice none 0 0], [], none, some 27, 24⟩),
 (147, ⟨false, false, 1, [.slice none 0 0], [], none, some 83, 24⟩),
 (149, ⟨true, true, 3, [.int .u8 0, .int .i64 0, .slice none 0 0], [(0, 1, false), (1, 1, false), (2, 1, false)], none, none, 40⟩),
 (153, ⟨false, false, 1, [.pointer none], [], none, none, 8⟩),
 (158, ⟨false, false, 1, [.pointer none], [], none, none, 8⟩),
 (162, ⟨true, true, 2, [.slice none 0 0, .slice none 0 0], [(0, 1, false), (1, 1, false)], none, none, 48⟩),
 (180, ⟨false, false, 1, [.int .u64 0], [], some .u64, none, 8⟩),
 (184, ⟨true, true, 2, [.int .i64 0, .int .i64 0], [(0, 2, true)], none, none, 16⟩),
 (187, ⟨true, true, 3, [.string ByteArray.empty, .int .i64 0, .int .i64 0], [(0, 1, false), (1, 1, false), (2, 1, false)], none, none, 32⟩),
 (191, ⟨true, true, 3, [.bool false, .slice none 0 0, .slice none 0 0], [(0, 1, false), (1, 1, false), (2, 1, false)], none, none, 56⟩),
 (193, ⟨false, false, 1, [.map none], [], none, none, 8⟩),
 (198, ⟨true, false, 2, [.int .i64 0, .int .i64 0], [(0, 1, false), (1, 1, false)], none, none, 16⟩),
 (201, ⟨false, false, 1, [.pointer none], [], none, none, 8⟩),
 (202, ⟨false, false, 1, [.slice none 0 0], [], none, some 5, 24⟩),
 (204, ⟨true, true, 2, [.pointer none, .slice none 0 0], [(0, 1, false), (1, 1, false)], none, none, 32⟩),
 (210, ⟨false, false, 1, [.int .u32 0], [], some .u32, none, 4⟩),
 (213, ⟨false, false, 1, [.int .u64 0], [], some .u64, none, 8⟩),
 (216, ⟨false, false, 1, [.slice none 0 0], [], none, some 153, 24⟩),
 (218, ⟨true, true, 3, [.int .i64 0, .int .i64 0, .slice none 0 0], [(0, 1, false), (1, 1, false), (2, 1, false)], none, none, 40⟩),
 (222, ⟨false, false, 1, [.map none], [], none, none, 8⟩),
 (224, ⟨true, true, 2, [.int .i64 0, .string ByteArray.empty], [(0, 1, false), (1, 1, false)], none, none, 24⟩),
 (225, ⟨false, false, 1, [.slice none 0 0], [], none, some 53, 24⟩),
 (226, ⟨false, false, 1, [.map none], [], none, none, 8⟩),
 (227, ⟨false, false, 1, [.slice none 0 0], [], none, some 198, 24⟩),
 (228, ⟨false, false, 1, [.pointer none], [], none, none, 8⟩),
 (236, ⟨true, true, 2, [.int .u8 0, .bool false], [(0, 1, false), (1, 1, false)], none, none, 2⟩)]
def tab : Tab := tabL tabs
theorem ti3 : TI.ok 3 ⟨false, false, 1, [.int .i64 0], [], some .i64, none, 8⟩ := ⟨by kernel_rfl, by kernel_rfl, by kernel_rfl, by kernel_rfl, by kernel_rfl, by kernel_rfl, by rfl, by rfl, by decide⟩
theorem ti4 : TI.ok 4 ⟨false, false, 1, [.bool false], [], none, none, 1⟩ := ⟨by kernel_rfl, by kernel_rfl, by kernel_rfl, by kernel_rfl, by kernel_rfl, by kernel_rfl, by rfl, by rfl, by decide⟩
theorem ti5 : TI.ok 5 ⟨false, false, 1, [.int .u8 0], [], some .u8, none, 1⟩ := ⟨by kernel_rfl, by kernel_rfl, by kernel_rfl, by kernel_rfl, by kernel_rfl, by kernel_rfl, by rfl, by rfl, by decide⟩
theorem ti9 : TI.ok 9 ⟨false, false, 1, [.string ByteArray.empty], [], none, none, 16⟩ := ⟨by kernel_rfl, by kernel_rfl, by kernel_rfl, by kernel_rfl, by kernel_rfl, by kernel_rfl, by rfl, by rfl, by decide⟩
theorem ti21 : TI.ok 21 ⟨false, false, 1, [.int .i32 0], [], some .i32, none, 4⟩ := ⟨by kernel_rfl, by kernel_rfl, by kernel_rfl, by kernel_rfl, by kernel_rfl, by kernel_rfl, by rfl, by rfl, by decide⟩
theorem ti22 : TI.ok 22 ⟨false, false, 1, [.slice none 0 0], [], none, some 26, 24⟩ := ⟨by kernel_rfl, by kernel_rfl, by kernel_rfl, by kernel_rfl, by kernel_rfl, by kernel_rfl, by rfl, by rfl, by decide⟩
theorem ti24 : TI.ok 24 ⟨true, true, 3, [.int .i64 0, .int .i64 0, .slice none 0 0], [(0, 1, false), (1, 1, false), (2, 1, false)], none, none, 40⟩ := ⟨by kernel_rfl, by kernel_rfl, by kernel_rfl, by kernel_rfl, by kernel_rfl, by kernel_rfl, by rfl, by rfl, by decide⟩
theorem ti26 : TI.ok 26 ⟨true, true, 3, [.int .i64 0, .int .i64 0, .int .i64 0], [(0, 1, false), (1, 1, false), (2, 1, false)], none, none, 24⟩ := ⟨by kernel_rfl, by kernel_rfl, by kernel_rfl, by kernel_rfl, by kernel_rfl, by kernel_rfl, by rfl, by rfl, by decide⟩
theorem ti27 : TI.ok 27 ⟨false, false, 1, [.slice none 0 0], [], none, some 4, 24⟩ := ⟨by kernel_rfl, by kernel_rfl, by kernel_rfl, by kernel_rfl, by kernel_rfl, by kernel_rfl, by rfl, by rfl, by decide⟩
theorem ti28 : TI.ok 28 ⟨false, false, 1, [.int .i64 0], [], some .i64, none, 8⟩ := ⟨by kernel_rfl, by kernel_rfl, by kernel_rfl, by kernel_rfl, by kernel_rfl, by kernel_rfl, by rfl, by rfl, by decide⟩
theorem ti32 : TI.ok 32 ⟨true, true, 2, [.int .i64 0, .int .i64 0], [(0, 1, false), (1, 1, false)], none, none, 16⟩ := ⟨by kernel_rfl, by kernel_rfl, by kernel_rfl, by kernel_rfl, by kernel_rfl, by kernel_rfl, by rfl, by rfl, by decide⟩
theorem ti34 : TI.ok 34 ⟨false, false, 1, [.slice none 0 0], [], none, some 9, 24⟩ := ⟨by kernel_rfl, by kernel_rfl, by kernel_rfl, by kernel_rfl, by kernel_rfl, by kernel_rfl, by rfl, by rfl, by decide⟩
theorem ti36 : TI.ok 36 ⟨false, false, 1, [.slice none 0 0], [], none, some 41, 24⟩ := ⟨by kernel_rfl, by kernel_rfl, by kernel_rfl, by kernel_rfl, by kernel_rfl, by kernel_rfl, by rfl, by rfl, by decide⟩
theorem ti37 : TI.ok 37 ⟨false, false, 1, [.slice none 0 0], [], none, some 3, 24⟩ := ⟨by kernel_rfl, by kernel_rfl, by kernel_rfl, by kernel_rfl, by kernel_rfl, by kernel_rfl, by rfl, by rfl, by decide⟩
theorem ti39 : TI.ok 39 ⟨true, true, 2, [.int .i64 0, .slice none 0 0], [(0, 1, false), (1, 1, false)], none, none, 32⟩ := ⟨by kernel_rfl, by kernel_rfl, by kernel_rfl, by kernel_rfl, by kernel_rfl, by kernel_rfl, by rfl, by rfl, by decide⟩
theorem ti41 : TI.ok 41 ⟨true, true, 4, [.int .i64 0, .int .i64 0, .int .i64 0, .slice none 0 0], [(0, 1, false), (1, 1, false), (2, 1, false), (3, 1, false)], none, none, 48⟩ := ⟨by kernel_rfl, by kernel_rfl, by kernel_rfl, by kernel_rfl, by kernel_rfl, by kernel_rfl, by rfl, by rfl, by decide⟩
theorem ti51 : TI.ok 51 ⟨false, false, 1, [.slice none 0 0], [], none, some 37, 24⟩ := ⟨by kernel_rfl, by kernel_rfl, by kernel_rfl, by kernel_rfl, by kernel_rfl, by kernel_rfl, by rfl, by rfl, by decide⟩
theorem ti53 : TI.ok 53 ⟨true, true, 4, [.int .i64 0, .int .i64 0, .slice none 0 0, .slice none 0 0], [(0, 1, false), (1, 1, false), (2, 1, false), (3, 1, false)], none, none, 64⟩ := ⟨by kernel_rfl, by kernel_rfl, by kernel_rfl, by kernel_rfl, by kernel_rfl, by kernel_rfl, by rfl, by rfl, by decide⟩
theorem ti55 : TI.ok 55 ⟨false, false, 1, [.slice none 0 0], [], none, some 59, 24⟩ := ⟨by kernel_rfl, by kernel_rfl, by kernel_rfl, by kernel_rfl, by kernel_rfl, by kernel_rfl, by rfl, by rfl, by decide⟩
theorem ti59 : TI.ok 59 ⟨true, true, 8, [.bool false, .slice none 0 0, .bool false, .int .i64 0, .int .i64 0, .slice none 0 0, .slice none 0 0, .bool false], [(0, 1, false), (1, 1, false), (2, 1, false), (3, 4, true), (7, 1, false)], none, none, 112⟩ := ⟨by kernel_rfl, by kernel_rfl, by kernel_rfl, by kernel_rfl, by kernel_rfl, by kernel_rfl, by rfl, by rfl, by decide⟩
theorem ti63 : TI.ok 63 ⟨false, false, 1, [.pointer none], [], none, none, 8⟩ := ⟨by kernel_rfl, by kernel_rfl, by kernel_rfl, by kernel_rfl, by kernel_rfl, by kernel_rfl, by rfl, by rfl, by decide⟩
theorem ti66 : TI.ok 66 ⟨false, false, 1, [.pointer none], [], none, none, 8⟩ := ⟨by kernel_rfl, by kernel_rfl, by kernel_rfl, by kernel_rfl, by kernel_rfl, by kernel_rfl, by rfl, by rfl, by decide⟩
theorem ti72 : TI.ok 72 ⟨false, false, 1, [.slice none 0 0], [], none, some 76, 24⟩ := ⟨by kernel_rfl, by kernel_rfl, by kernel_rfl, by kernel_rfl, by kernel_rfl, by kernel_rfl, by rfl, by rfl, by decide⟩
theorem ti74 : TI.ok 74 ⟨false, false, 1, [.slice none 0 0], [], none, some 79, 24⟩ := ⟨by kernel_rfl, by kernel_rfl, by kernel_rfl, by kernel_rfl, by kernel_rfl, by kernel_rfl, by rfl, by rfl, by decide⟩
theorem ti76 : TI.ok 76 ⟨true, true, 3, [.int .i64 0, .int .i64 0, .slice none 0 0], [(0, 1, false), (1, 1, false), (2, 1, false)], none, none, 40⟩ := ⟨by kernel_rfl, by kernel_rfl, by kernel_rfl, by kernel_rfl, by kernel_rfl, by kernel_rfl, by rfl, by rfl, by decide⟩
theorem ti79 : TI.ok 79 ⟨true, true, 3, [.int .i64 0, .int .i64 0, .int .i64 0], [(0, 1, false), (1, 1, false), (2, 1, false)], none, none, 24⟩ := ⟨by kernel_rfl, by kernel_rfl, by kernel_rfl, by kernel_rfl, by kernel_rfl, by kernel_rfl, by rfl, by rfl, by decide⟩
theorem ti83 : TI.ok 83 ⟨false, false, 1, [.pointer none], [], none, none, 8⟩ := ⟨by kernel_rfl, by kernel_rfl, by kernel_rfl, by kernel_rfl, by kernel_rfl, by kernel_rfl, by rfl, by rfl, by decide⟩
theorem ti92 : TI.ok 92 ⟨false, false, 1, [.pointer none], [], none, none, 8⟩ := ⟨by kernel_rfl, by kernel_rfl, by kernel_rfl, by kernel_rfl, by kernel_rfl, by kernel_rfl, by rfl, by rfl, by decide⟩
theorem ti94 : TI.ok 94 ⟨true, true, 5, [.int .i64 0, .int .i64 0, .slice none 0 0, .slice none 0 0, .slice none 0 0], [(0, 4, true), (4, 1, false)], none, none, 88⟩ := ⟨by kernel_rfl, by kernel_rfl, by kernel_rfl, by kernel_rfl, by kernel_rfl, by kernel_rfl, by rfl, by rfl, by decide⟩
theorem ti95 : TI.ok 95 ⟨false, false, 1, [.map none], [], none, none, 8⟩ := ⟨by kernel_rfl, by kernel_rfl, by kernel_rfl, by kernel_rfl, by kernel_rfl, by kernel_rfl, by rfl, by rfl, by decide⟩
theorem ti97 : TI.ok 97 ⟨true, true, 5, [.pointer none, .int .i64 0, .slice none 0 0, .slice none 0 0, .map none], [(0, 1, false), (1, 1, false), (2, 1, false), (3, 1, false), (4, 1, false)], none, none, 72⟩ := ⟨by kernel_rfl, by kernel_rfl, by kernel_rfl, by kernel_rfl, by kernel_rfl, by kernel_rfl, by rfl, by rfl, by decide⟩
theorem ti103 : TI.ok 103 ⟨false, false, 1, [.nilFunc], [], none, none, 8⟩ := ⟨by kernel_rfl, by kernel_rfl, by kernel_rfl, by kernel_rfl, by kernel_rfl, by kernel_rfl, by rfl, by rfl, by decide⟩
theorem ti108 : TI.ok 108 ⟨true, true, 2, [.int .i64 0, .int .i64 0], [(0, 2, true)], none, none, 16⟩ := ⟨by kernel_rfl, by kernel_rfl, by kernel_rfl, by kernel_rfl, by kernel_rfl, by kernel_rfl, by rfl, by rfl, by decide⟩
theorem ti111 : TI.ok 111 ⟨true, true, 4, [.string ByteArray.empty, .int .i64 0, .int .i64 0, .int .i64 0], [(0, 1, false), (1, 1, false), (2, 1, false), (3, 1, false)], none, none, 40⟩ := ⟨by kernel_rfl, by kernel_rfl, by kernel_rfl, by kernel_rfl, by kernel_rfl, by kernel_rfl, by rfl, by rfl, by decide⟩
theorem ti115 : TI.ok 115 ⟨true, true, 4, [.int .i64 0, .int .i64 0, .slice none 0 0, .slice none 0 0], [(0, 3, true), (3, 1, false)], none, none, 64⟩ := ⟨by kernel_rfl, by kernel_rfl, by kernel_rfl, by kernel_rfl, by kernel_rfl, by kernel_rfl, by rfl, by rfl, by decide⟩
theorem ti117 : TI.ok 117 ⟨false, false, 1, [.slice none 0 0], [], none, some 63, 24⟩ := ⟨by kernel_rfl, by kernel_rfl, by kernel_rfl, by kernel_rfl, by kernel_rfl, by kernel_rfl, by rfl, by rfl, by decide⟩
theorem ti119 : TI.ok 119 ⟨true, true, 4, [.int .u8 0, .bool false, .int .i64 0, .slice none 0 0], [(0, 1, false), (1, 1, false), (2, 1, false), (3, 1, false)], none, none, 40⟩ := ⟨by kernel_rfl, by kernel_rfl, by kernel_rfl, by kernel_rfl, by kernel_rfl, by kernel_rfl, by rfl, by rfl, by decide⟩
theorem ti124 : TI.ok 124 ⟨false, false, 1, [.slice none 0 0], [], none, some 39, 24⟩ := ⟨by kernel_rfl, by kernel_rfl, by kernel_rfl, by kernel_rfl, by kernel_rfl, by kernel_rfl, by rfl, by rfl, by decide⟩
theorem ti125 : TI.ok 125 ⟨false, false, 1, [.map none], [], none, none, 8⟩ := ⟨by kernel_rfl, by kernel_rfl, by kernel_rfl, by kernel_rfl, by kernel_rfl, by kernel_rfl, by rfl, by rfl, by decide⟩
theorem ti127 : TI.ok 127 ⟨true, true, 3, [.int .i64 0, .slice none 0 0, .map none], [(0, 2, true), (2, 1, false)], none, none, 40⟩ := ⟨by kernel_rfl, by kernel_rfl, by kernel_rfl, by kernel_rfl, by kernel_rfl, by kernel_rfl, by rfl, by rfl, by decide⟩
theorem ti129 : TI.ok 129 ⟨true, true, 3, [.int .i64 0, .int .i64 0, .slice none 0 0], [(0, 1, false), (1, 1, false), (2, 1, false)], none, none, 40⟩ := ⟨by kernel_rfl, by kernel_rfl, by kernel_rfl, by kernel_rfl, by kernel_rfl, by kernel_rfl, by rfl, by rfl, by decide⟩
theorem ti131 : TI.ok 131 ⟨false, false, 1, [.map none], [], none, none, 8⟩ := ⟨by kernel_rfl, by kernel_rfl, by kernel_rfl, by kernel_rfl, by kernel_rfl, by kernel_rfl, by rfl, by rfl, by decide⟩
theorem ti136 : TI.ok 136 ⟨false, false, 1, [.nilFunc], [], none, none, 8⟩ := ⟨by kernel_rfl, by kernel_rfl, by kernel_rfl, by kernel_rfl, by kernel_rfl, by kernel_rfl, by rfl, by rfl, by decide⟩
theorem ti140 : TI.ok 140 ⟨true, true, 2, [.int .i64 0, .int .i64 0], [(0, 2, true)], none, none, 16⟩ := ⟨by kernel_rfl, by kernel_rfl, by kernel_rfl, by kernel_rfl, by kernel_rfl, by kernel_rfl, by rfl, by rfl, by decide⟩
theorem ti141 : TI.ok 141 ⟨false, false, 1, [.pointer none], [], none, none, 8⟩ := ⟨by kernel_rfl, by kernel_rfl, by kernel_rfl, by kernel_rfl, by kernel_rfl, by kernel_rfl, by rfl, by rfl, by decide⟩
theorem ti142 : TI.ok 142 ⟨false, false, 1, [.slice none 0 0], [], none, some 236, 24⟩ := ⟨by kernel_rfl, by kernel_rfl, by kernel_rfl, by kernel_rfl, by kernel_rfl, by kernel_rfl, by rfl, by rfl, by decide⟩
theorem ti144 : TI.ok 144 ⟨true, true, 5, [.string ByteArray.empty, .int .i64 0, .int .i64 0, .int .i64 0, .slice none 0 0], [(0, 1, false), (1, 1, false), (2, 1, false), (3, 1, false), (4, 1, false)], none, none, 64⟩ := ⟨by kernel_rfl, by kernel_rfl, by kernel_rfl, by kernel_rfl, by kernel_rfl, by kernel_rfl, by rfl, by rfl, by decide⟩
theorem ti146 : TI.ok 146 ⟨false, false, 1, [.slice none 0 0], [], none, some 27, 24⟩ := ⟨by kernel_rfl, by kernel_rfl, by kernel_rfl, by kernel_rfl, by kernel_rfl, by kernel_rfl, by rfl, by rfl, by decide⟩
theorem ti147 : TI.ok 147 ⟨false, false, 1, [.slice none 0 0], [], none, some 83, 24⟩ := ⟨by kernel_rfl, by kernel_rfl, by kernel_rfl, by kernel_rfl, by kernel_rfl, by kernel_rfl, by rfl, by rfl, by decide⟩
theorem ti149 : TI.ok 149 ⟨true, true, 3, [.int .u8 0, .int .i64 0, .slice none 0 0], [(0, 1, false), (1, 1, false), (2, 1, false)], none, none, 40⟩ := ⟨by kernel_rfl, by kernel_rfl, by kernel_rfl, by kernel_rfl, by kernel_rfl, by kernel_rfl, by rfl, by rfl, by decide⟩
theorem ti153 : TI.ok 153 ⟨false, false, 1, [.pointer none], [], none, none, 8⟩ := ⟨by kernel_rfl, by kernel_rfl, by kernel_rfl, by kernel_rfl, by kernel_rfl, by kernel_rfl, by rfl, by rfl, by decide⟩
theorem ti158 : TI.ok 158 ⟨false, false, 1, [.pointer none], [], none, none, 8⟩ := ⟨by kernel_rfl, by kernel_rfl, by kernel_rfl, by kernel_rfl, by kernel_rfl, by kernel_rfl, by rfl, by rfl, by decide⟩
theorem ti162 : TI.ok 162 ⟨true, true, 2, [.slice none 0 0, .slice none 0 0], [(0, 1, false), (1, 1, false)], none, none, 48⟩ := ⟨by kernel_rfl, by kernel_rfl, by kernel_rfl, by kernel_rfl, by kernel_rfl, by kernel_rfl, by rfl, by rfl, by decide⟩
theorem ti180 : TI.ok 180 ⟨false, false, 1, [.int .u64 0], [], some .u64, none, 8⟩ := ⟨by kernel_rfl, by kernel_rfl, by kernel_rfl, by kernel_rfl, by kernel_rfl, by kernel_rfl, by rfl, by rfl, by decide⟩
theorem ti184 : TI.ok 184 ⟨true, true, 2, [.int .i64 0, .int .i64 0], [(0, 2, true)], none, none, 16⟩ := ⟨by kernel_rfl, by kernel_rfl, by kernel_rfl, by kernel_rfl, by kernel_rfl, by kernel_rfl, by rfl, by rfl, by decide⟩
theorem ti187 : TI.ok 187 ⟨true, true, 3, [.string ByteArray.empty, .int .i64 0, .int .i64 0], [(0, 1, false), (1, 1, false), (2, 1, false)], none, none, 32⟩ := ⟨by kernel_rfl, by kernel_rfl, by kernel_rfl, by kernel_rfl, by kernel_rfl, by kernel_rfl, by rfl, by rfl, by decide⟩
theorem ti191 : TI.ok 191 ⟨true, true, 3, [.bool false, .slice none 0 0, .slice none 0 0], [(0, 1, false), (1, 1, false), (2, 1, false)], none, none, 56⟩ := ⟨by kernel_rfl, by kernel_rfl, by kernel_rfl, by kernel_rfl, by kernel_rfl, by kernel_rfl, by rfl, by rfl, by decide⟩
theorem ti193 : TI.ok 193 ⟨false, false, 1, [.map none], [], none, none, 8⟩ := ⟨by kernel_rfl, by kernel_rfl, by kernel_rfl, by kernel_rfl, by kernel_rfl, by kernel_rfl, by rfl, by rfl, by decide⟩
theorem ti198 : TI.ok 198 ⟨true, false, 2, [.int .i64 0, .int .i64 0], [(0, 1, false), (1, 1, false)], none, none, 16⟩ := ⟨by kernel_rfl, by kernel_rfl, by kernel_rfl, by kernel_rfl, by kernel_rfl, by kernel_rfl, by rfl, by rfl, by decide⟩
theorem ti201 : TI.ok 201 ⟨false, false, 1, [.pointer none], [], none, none, 8⟩ := ⟨by kernel_rfl, by kernel_rfl, by kernel_rfl, by kernel_rfl, by kernel_rfl, by kernel_rfl, by rfl, by rfl, by decide⟩
theorem ti202 : TI.ok 202 ⟨false, false, 1, [.slice none 0 0], [], none, some 5, 24⟩ := ⟨by kernel_rfl, by kernel_rfl, by kernel_rfl, by kernel_rfl, by kernel_rfl, by kernel_rfl, by rfl, by rfl, by decide⟩
theorem ti204 : TI.ok 204 ⟨true, true, 2, [.pointer none, .slice none 0 0], [(0, 1, false), (1, 1, false)], none, none, 32⟩ := ⟨by kernel_rfl, by kernel_rfl, by kernel_rfl, by kernel_rfl, by kernel_rfl, by kernel_rfl, by rfl, by rfl, by decide⟩
theorem ti210 : TI.ok 210 ⟨false, false, 1, [.int .u32 0], [], some .u32, none, 4⟩ := ⟨by kernel_rfl, by kernel_rfl, by kernel_rfl, by kernel_rfl, by kernel_rfl, by kernel_rfl, by rfl, by rfl, by decide⟩
theorem ti213 : TI.ok 213 ⟨false, false, 1, [.int .u64 0], [], some .u64, none, 8⟩ := ⟨by kernel_rfl, by kernel_rfl, by kernel_rfl, by kernel_rfl, by kernel_rfl, by kernel_rfl, by rfl, by rfl, by decide⟩
theorem ti216 : TI.ok 216 ⟨false, false, 1, [.slice none 0 0], [], none, some 153, 24⟩ := ⟨by kernel_rfl, by kernel_rfl, by kernel_rfl, by kernel_rfl, by kernel_rfl, by kernel_rfl, by rfl, by rfl, by decide⟩
theorem ti218 : TI.ok 218 ⟨true, true, 3, [.int .i64 0, .int .i64 0, .slice none 0 0], [(0, 1, false), (1, 1, false), (2, 1, false)], none, none, 40⟩ := ⟨by kernel_rfl, by kernel_rfl, by kernel_rfl, by kernel_rfl, by kernel_rfl, by kernel_rfl, by rfl, by rfl, by decide⟩
theorem ti222 : TI.ok 222 ⟨false, false, 1, [.map none], [], none, none, 8⟩ := ⟨by kernel_rfl, by kernel_rfl, by kernel_rfl, by kernel_rfl, by kernel_rfl, by kernel_rfl, by rfl, by rfl, by decide⟩
theorem ti224 : TI.ok 224 ⟨true, true, 2, [.int .i64 0, .string ByteArray.empty], [(0, 1, false), (1, 1, false)], none, none, 24⟩ := ⟨by kernel_rfl, by kernel_rfl, by kernel_rfl, by kernel_rfl, by kernel_rfl, by kernel_rfl, by rfl, by rfl, by decide⟩
theorem ti225 : TI.ok 225 ⟨false, false, 1, [.slice none 0 0], [], none, some 53, 24⟩ := ⟨by kernel_rfl, by kernel_rfl, by kernel_rfl, by kernel_rfl, by kernel_rfl, by kernel_rfl, by rfl, by rfl, by decide⟩
theorem ti226 : TI.ok 226 ⟨false, false, 1, [.map none], [], none, none, 8⟩ := ⟨by kernel_rfl, by kernel_rfl, by kernel_rfl, by kernel_rfl, by kernel_rfl, by kernel_rfl, by rfl, by rfl, by decide⟩
theorem ti227 : TI.ok 227 ⟨false, false, 1, [.slice none 0 0], [], none, some 198, 24⟩ := ⟨by kernel_rfl, by kernel_rfl, by kernel_rfl, by kernel_rfl, by kernel_rfl, by kernel_rfl, by rfl, by rfl, by decide⟩
theorem ti228 : TI.ok 228 ⟨false, false, 1, [.pointer none], [], none, none, 8⟩ := ⟨by kernel_rfl, by kernel_rfl, by kernel_rfl, by kernel_rfl, by kernel_rfl, by kernel_rfl, by rfl, by rfl, by decide⟩
theorem ti236 : TI.ok 236 ⟨true, true, 2, [.int .u8 0, .bool false], [(0, 1, false), (1, 1, false)], none, none, 2⟩ := ⟨by kernel_rfl, by kernel_rfl, by kernel_rfl, by kernel_rfl, by kernel_rfl, by kernel_rfl, by rfl, by rfl, by decide⟩
theorem tab_ok : tab.ok := tabL_ok fun x hx => by
 simp only [tabs, List.mem_cons, List.not_mem_nil, or_false] at hx
 rcases hx with rfl | rfl | rfl | rfl | rfl | rfl | rfl | rfl | rfl | rfl | rfl | rfl | rfl | rfl | rfl | rfl | rfl | rfl | rfl | rfl | rfl | rfl | rfl | rfl | rfl | rfl | rfl | rfl | rfl | rfl | rfl | rfl | rfl | rfl | rfl | rfl | rfl | rfl | rfl | rfl | rfl | rfl | rfl | rfl | rfl | rfl | rfl | rfl | rfl | rfl | rfl | rfl | rfl | rfl | rfl | rfl | rfl | rfl | rfl | rfl | rfl | rfl | rfl | rfl | rfl | rfl | rfl | rfl | rfl | rfl | rfl | rfl | rfl
 ·exact ti3
 ·exact ti4
 ·exact ti5
 ·exact ti9
 ·exact ti21
 ·exact ti22
 ·exact ti24
 ·exact ti26
 ·exact ti27
 ·exact ti28
 ·exact ti32
 ·exact ti34
 ·exact ti36
 ·exact ti37
 ·exact ti39
 ·exact ti41
 ·exact ti51
 ·exact ti53
 ·exact ti55
 ·exact ti59
 ·exact ti63
 ·exact ti66
 ·exact ti72
 ·exact ti74
 ·exact ti76
 ·exact ti79
 ·exact ti83
 ·exact ti92
 ·exact ti94
 ·exact ti95
 ·exact ti97
 ·exact ti103
 ·exact ti108
 ·exact ti111
 ·exact ti115
 ·exact ti117
 ·exact ti119
 ·exact ti124
 ·exact ti125
 ·exact ti127
 ·exact ti129
 ·exact ti131
 ·exact ti136
 ·exact ti140
 ·exact ti141
 ·exact ti142
 ·exact ti144
 ·exact ti146
 ·exact ti147
 ·exact ti149
 ·exact ti153
 ·exact ti158
 ·exact ti162
 ·exact ti180
 ·exact ti184
 ·exact ti187
 ·exact ti191
 ·exact ti193
 ·exact ti198
 ·exact ti201
 ·exact ti202
 ·exact ti204
 ·exact ti210
 ·exact ti213
 ·exact ti216
 ·exact ti218
 ·exact ti222
 ·exact ti224
 ·exact ti225
 ·exact ti226
 ·exact ti227
 ·exact ti228
 ·exact ti236
def StackEdge.enc (k : StackEdge) : Value := .agg #[.int .i64 k.fFrom, .int .i64 k.fSign, .int .i64 k.fTo]
theorem StackEdge.part0 (x0 : Int) (x1 : Int) (x2 : Int) (w : World) : (Go.part 3 #[.int .i64 x0, .int .i64 x1, .int .i64 x2] 0).run Try.prog w = .ok (.int .i64 x0) w := by kernel_rfl
theorem StackEdge.part1 (x0 : Int) (x1 : Int) (x2 : Int) (w : World) : (Go.part 3 #[.int .i64 x0, .int .i64 x1, .int .i64 x2] 1).run Try.prog w = .ok (.int .i64 x1) w := by kernel_rfl
theorem StackEdge.part2 (x0 : Int) (x1 : Int) (x2 : Int) (w : World) : (Go.part 3 #[.int .i64 x0, .int .i64 x1, .int .i64 x2] 2).run Try.prog w = .ok (.int .i64 x2) w := by kernel_rfl
theorem StackEdge.eq3 (x y : Int) (n : Nat) (w : World) : (Op.equalIn (n + 1) 3 (.int .i64 x) (.int .i64 y)).run Try.prog w = .ok (x == y) w := by
 have hu := run_underlying Try.underlying3 w
 simp only [Op.equalIn, Sem.run_bind, hu, Result.andThen_ok, if_true, Sem.run_pure]
theorem StackEdge.keyLaw : KeyLaw 79 StackEdge.enc where
 check := fun b a w => by unfold StackEdge.enc; kernel_rfl
 bits := fun a => by unfold StackEdge.enc; simp [Instr.sameBits, beq_bytes]
 now := ⟨_, Try.underlying79, .inl fun a b => rfl⟩
 equal := fun a b w => by
  unfold StackEdge.enc
  have hu := run_underlying Try.underlying79 w
  have hst : Try.prog.stoodInHeld 79 = false := by kernel_rfl
  show (Op.equalIn (9999 + 1) _ _ _).run _ _ = _
  rw [Op.equalIn]
  simp only [Sem.run_bind, hu, Result.andThen_ok]
  simp [Go.program, Sem.run, hst, StackEdge.part0, StackEdge.part1, StackEdge.part2, StackEdge.eq3]
  rcases a with ⟨a0, a1, a2⟩
  rcases b with ⟨b0, b1, b2⟩
  by_cases h0 : a0 = b0 <;> by_cases h1 : a1 = b1 <;> by_cases h2 : a2 = b2 <;> simp [h0, h1, h2]
def encI3 (k : Int) : Value := .int .i64 k
theorem keyI3 : KeyLaw 3 encI3 where
 check := fun b a w => by unfold encI3; kernel_rfl
 bits := fun a => by unfold encI3; simp [Instr.sameBits]
 now := ⟨_, Try.underlying3, .inr fun a b => by by_cases h : a = b <;> simp [Instr.sameNow, encI3, h]⟩
 equal := fun a b w => by
  unfold encI3
  have hu := run_underlying Try.underlying3 w
  show (Op.equalIn (9999 + 1) _ _ _).run _ _ = _
  rw [Op.equalIn]
  simp only [Sem.run_bind, hu, Result.andThen_ok, if_true, Sem.run_pure]
  congr 1
def DetSplit.enc (k : DetSplit) : Value := .agg #[.int .i64 k.fOwn, .string k.fNext]
theorem DetSplit.part0 (x0 : Int) (x1 : ByteArray) (w : World) : (Go.part 3 #[.int .i64 x0, .string x1] 0).run Try.prog w = .ok (.int .i64 x0) w := by kernel_rfl
theorem DetSplit.part1 (x0 : Int) (x1 : ByteArray) (w : World) : (Go.part 9 #[.int .i64 x0, .string x1] 1).run Try.prog w = .ok (.string x1) w := by kernel_rfl
theorem DetSplit.eq3 (x y : Int) (n : Nat) (w : World) : (Op.equalIn (n + 1) 3 (.int .i64 x) (.int .i64 y)).run Try.prog w = .ok (x == y) w := by
 have hu := run_underlying Try.underlying3 w
 simp only [Op.equalIn, Sem.run_bind, hu, Result.andThen_ok, if_true, Sem.run_pure]
theorem DetSplit.eq9 (x y : ByteArray) (n : Nat) (w : World) : (Op.equalIn (n + 1) 9 (.string x) (.string y)).run Try.prog w = .ok (decide (x = y)) w := by
 have hu := run_underlying Try.underlying9 w
 simp only [Op.equalIn, Sem.run_bind, hu, Result.andThen_ok, Sem.run_pure, beq_bytes]
theorem DetSplit.keyLaw : KeyLaw 224 DetSplit.enc where
 check := fun b a w => by unfold DetSplit.enc; kernel_rfl
 bits := fun a => by unfold DetSplit.enc; simp [Instr.sameBits, beq_bytes]
 now := ⟨_, Try.underlying224, .inl fun a b => rfl⟩
 equal := fun a b w => by
  unfold DetSplit.enc
  have hu := run_underlying Try.underlying224 w
  have hst : Try.prog.stoodInHeld 224 = false := by kernel_rfl
  show (Op.equalIn (9999 + 1) _ _ _).run _ _ = _
  rw [Op.equalIn]
  simp only [Sem.run_bind, hu, Result.andThen_ok]
  simp [Go.program, Sem.run, hst, DetSplit.part0, DetSplit.part1, DetSplit.eq3, DetSplit.eq9]
  rcases a with ⟨a0, a1⟩
  rcases b with ⟨b0, b1⟩
  by_cases h0 : a0 = b0 <;> by_cases h1 : a1 = b1 <;> simp [h0, h1]
def DetCouple.enc (k : DetCouple) : Value := .agg #[.int .i64 k.fE0, .int .i64 k.fE1]
theorem DetCouple.part0 (x0 : Int) (x1 : Int) (w : World) : (Go.part 3 #[.int .i64 x0, .int .i64 x1] 0).run Try.prog w = .ok (.int .i64 x0) w := by kernel_rfl
theorem DetCouple.part1 (x0 : Int) (x1 : Int) (w : World) : (Go.part 3 #[.int .i64 x0, .int .i64 x1] 1).run Try.prog w = .ok (.int .i64 x1) w := by kernel_rfl
theorem DetCouple.eq3 (x y : Int) (n : Nat) (w : World) : (Op.equalIn (n + 1) 3 (.int .i64 x) (.int .i64 y)).run Try.prog w = .ok (x == y) w := by
 have hu := run_underlying Try.underlying3 w
 simp only [Op.equalIn, Sem.run_bind, hu, Result.andThen_ok, if_true, Sem.run_pure]
theorem DetCouple.keyLaw : KeyLaw 198 DetCouple.enc where
 check := fun b a w => by unfold DetCouple.enc; kernel_rfl
 bits := fun a => by unfold DetCouple.enc; simp [Instr.sameBits, beq_bytes]
 now := ⟨_, Try.underlying198, .inl fun a b => rfl⟩
 equal := fun a b w => by
  unfold DetCouple.enc
  have hu := run_underlying Try.underlying198 w
  have hsz : ∀ w, (sizeOf 3).run Try.prog w = .ok 1 w := fun w => by kernel_rfl
  have hr : List.range' 0 2 = [0, 1] := rfl
  show (Op.equalIn (9999 + 1) _ _ _).run _ _ = _
  rw [Op.equalIn]
  simp only [Sem.run_bind, hu, Result.andThen_ok]
  simp [Go.program, Sem.run, hsz, hr, DetCouple.part0, DetCouple.part1, DetCouple.eq3]
  rcases a with ⟨a0, a1⟩
  rcases b with ⟨b0, b1⟩
  by_cases h0 : a0 = b0 <;> by_cases h1 : a1 = b1 <;> simp [h0, h1]
end Go.Proofs.Ytiejmeedkhkfgaa
namespace Go.Proofs.Ytiejmeedkhkfgaa
open Go.RowKit Go.MapKept
set_option linter.unusedSimpArgs false
set_option linter.unusedVariables false
set_option maxRecDepth 100000
set_option linter.unusedSectionVars false
theorem nodup_le {α : Type} : ∀ {l m : List α}, l.Nodup → (∀ x ∈ l, x ∈ m) → l.length ≤ m.length
 | [], _, _, _ => Nat.zero_le _
 | x :: l, m, hn, h => by
  rw [List.nodup_cons] at hn
  obtain ⟨s, t, rfl⟩ := List.append_of_mem (h x List.mem_cons_self)
  have := nodup_le (l := l) (m := s ++ t) hn.2 fun y hy => by
   have h1 := h y (List.mem_cons_of_mem _ hy)
   rw [List.mem_append, List.mem_cons] at h1
   rw [List.mem_append]
   rcases h1 with h1 | rfl | h1
   ·exact .inl h1
   ·exact absurd hy hn.1
   ·exact .inr h1
  simp only [List.length_append, List.length_cons] at this ⊢
  omega
theorem idxOf_left {α : Type} [DecidableEq α] {x : α} : ∀ {l r : List α}, x ∈ l → (l ++ r).idxOf x = l.idxOf x
 | [], _, h => by simp at h
 | y :: l, r, h => by
  rw [List.cons_append, List.idxOf_cons, List.idxOf_cons]
  by_cases e : y = x
  ·simp [e]
  ·have hm : x ∈ l := by
    rcases List.mem_cons.1 h with h | h
    ·exact absurd h.symm e
    ·exact h
   simp [e, idxOf_left (r := r) hm]
section
variable {K : Type} [DecidableEq K]
variable {go : K → Nat → K} {mark : K → Int} {L : Nat} {k0 : K} {P : K → Prop}
section
variable {K' : Type} [DecidableEq K'] {go' : K' → Nat → K'} {mark' : K' → Int} {φ : K → K'}
end
end
abbrev Lang := List Nat → Int
noncomputable instance langDec : DecidableEq Lang := fun _ _ => Classical.propDecidable _
def rs (L : Nat) (r : Lang) : Lang := fun w => if ∀ a ∈ w, a < L then r w else 0
theorem rs_congr {L : Nat} {r s : Lang} (h : ∀ w, (∀ a ∈ w, a < L) → r w = s w) : rs L r = rs L s := by
 funext w
 unfold rs
 split
 ·rename_i hw
  exact h w hw
 ·rfl
theorem rs_at {L : Nat} {r s : Lang} (h : rs L r = rs L s) {w : List Nat} (hw : ∀ a ∈ w, a < L) : r w = s w := by
 have := congrFun h w
 unfold rs at this
 rw [if_pos hw, if_pos hw] at this
 exact this
section
variable {K : Type} [DecidableEq K] {go : K → Nat → K} {mark : K → Int} {L : Nat} {k0 : K} {P : K → Prop}
end
def stepD (d : ApiDet) (q : Nat) (a : Nat) : Nat := ((d.fNext.getD q []).getD a 0).toNat
def langD (d : ApiDet) (q : Nat) : Lang := fun w => d.fMark.getD (w.foldl (stepD d) q) 0
section
variable {K : Type} [DecidableEq K] {go : K → Nat → K} {mark : K → Int} {L : Nat} {k0 : K} {P : K → Prop}
end
structure Wf (d : ApiDet) : Prop where
 letters : 0 ≤ d.fLetters
 rows : ∀ r ∈ d.fNext, r.length = d.fLetters.toNat
 next : ∀ r ∈ d.fNext, ∀ x ∈ r, 0 ≤ x ∧ x < (d.fNext.length : Int)
 start : 0 ≤ d.fStart ∧ d.fStart < (d.fNext.length : Int)
 mark : d.fMark.length = d.fNext.length
section
variable {K : Type} [DecidableEq K] {go : K → Nat → K} {mark : K → Int} {L : Nat} {k0 : K} {P : K → Prop}
end
section
variable {K : Type} [DecidableEq K] {go : K → Nat → K} {mark : K → Int} {L : Nat} {k0 : K} {P : K → Prop}
def MapOf (m : List (K × Int)) (l : List K) : Prop := ∀ k, mget k m = if k ∈ l then some (l.idxOf k : Int) else none
theorem MapOf.one : MapOf (mput k0 0 ([] : List (K × Int))) [k0] := fun k => by
 rw [mget_put]
 by_cases h : k = k0
 ·subst h; simp
 ·simp [h, mget]
theorem idxOf_last {l : List K} {k : K} (h : k ∉ l) : (l ++ [k]).idxOf k = l.length := by
 induction l with
 | nil => simp
 | cons x l ih =>
  have h1 : x ≠ k := fun e => h (e ▸ List.mem_cons_self)
  have h2 : k ∉ l := fun e => h (List.mem_cons_of_mem _ e)
  rw [List.cons_append, List.idxOf_cons, ih h2, show (x == k) = false by simpa using h1]
  simp
theorem MapOf.push {m : List (K × Int)} {l : List K} (h : MapOf m l) {k : K} (hk : k ∉ l) : MapOf (mput k (l.length : Int) m) (l ++ [k]) := fun q => by
 rw [mget_put]
 by_cases e : q = k
 ·subst e
  simp [idxOf_last hk]
 ·rw [if_neg e, h q]
  by_cases hq : q ∈ l
  ·rw [if_pos hq, if_pos (List.mem_append_left _ hq), idxOf_left hq]
  ·rw [if_neg hq, if_neg (by simp [hq, e])]
end
theorem onto_inj {m : Nat} {f : Nat → Nat} (hon : ∀ j, j < m → ∃ i, i < m ∧ f i = j) {i j : Nat} (hi : i < m) (hj : j < m) (h : f i = f j) : i = j := by
 refine Decidable.byContradiction fun hne => ?_
 have := nodup_le (l := List.range m) (m := ((List.range m).erase i).map f) List.nodup_range fun x hx => by
  obtain ⟨q, hq, rfl⟩ := hon x (List.mem_range.1 hx)
  rw [List.mem_map]
  by_cases e : q = i
  ·subst e
   exact ⟨j, (List.mem_erase_of_ne (fun e => hne e.symm)).2 (List.mem_range.2 hj), h.symm⟩
  ·exact ⟨q, (List.mem_erase_of_ne e).2 (List.mem_range.2 hq), rfl⟩
 rw [List.length_range, List.length_map, List.length_erase_of_mem (List.mem_range.2 hi), List.length_range] at this
 omega
theorem onto_le {k m : Nat} {f : Nat → Nat} (hon : ∀ j, j < k → ∃ i, i < m ∧ f i = j) : k ≤ m := by
 have := nodup_le (l := List.range k) (m := (List.range m).map f) List.nodup_range fun x hx => by
  obtain ⟨q, hq, rfl⟩ := hon x (List.mem_range.1 hx)
  exact List.mem_map.2 ⟨q, List.mem_range.2 hq, rfl⟩
 simpa using this
def two8 (c : Int) : List Int := [c % 256, c / 256 % 256]
theorem two8_inj {c d : Int} (hc : 0 ≤ c ∧ c < 65536) (hd : 0 ≤ d ∧ d < 65536) (h : two8 c = two8 d) : c = d := by
 unfold two8 at h
 simp only [List.cons.injEq] at h
 omega
theorem two8_in {c : Int} : ∀ x ∈ two8 c, 0 ≤ x ∧ x < 256 := by
 intro x hx
 unfold two8 at hx
 simp only [List.mem_cons, List.not_mem_nil, or_false] at hx
 omega
theorem twos_inj : ∀ {l m : List Int}, (∀ x ∈ l, 0 ≤ x ∧ x < 65536) → (∀ x ∈ m, 0 ≤ x ∧ x < 65536) → l.flatMap two8 = m.flatMap two8 → l = m
 | [], [], _, _, _ => rfl
 | [], _ :: _, _, _, h => by simp [two8] at h
 | _ :: _, [], _, _, h => by simp [two8] at h
 | x :: l, y :: m, hl, hm, h => by
  rw [List.flatMap_cons, List.flatMap_cons] at h
  have h1 := List.append_inj h (by simp [two8])
  rw [two8_inj (hl x List.mem_cons_self) (hm y List.mem_cons_self) h1.1, twos_inj (fun z hz => hl z (List.mem_cons_of_mem _ hz)) (fun z hz => hm z (List.mem_cons_of_mem _ hz)) h1.2]
theorem twos_in {l : List Int} : ∀ x ∈ l.flatMap two8, 0 ≤ x ∧ x < 256 := fun x hx => by
 obtain ⟨c, _, h⟩ := List.mem_flatMap.1 hx
 exact two8_in x h
def rowCls (cls : List Int) (r : List Int) : List Int := r.map fun t => cls.getD t.toNat 0
def keyOf (cls : List Int) (q : Nat) (r : List Int) : DetSplit := ⟨cls.getD q 0, bytesOf ((rowCls cls r).flatMap two8)⟩
structure RoundOf (N : List (List Int)) (cls next : List Int) (m : Nat) : Prop where
 len : next.length = N.length
 range : ∀ x ∈ next, 0 ≤ x ∧ x < (m : Int)
 onto : ∀ j : Nat, j < m → (j : Int) ∈ next
 same : ∀ (p q : Nat) (r s : List Int) (x y : Int), N[p]? = some r → N[q]? = some s → next[p]? = some x → next[q]? = some y → (x = y ↔ keyOf cls p r = keyOf cls q s)
structure ClsPre (d : ApiDet) : Prop where
 size : d.fNext.length ≤ 65536
 next : ∀ r ∈ d.fNext, ∀ x ∈ r, 0 ≤ x ∧ x < (d.fNext.length : Int)
 wide : ∀ r ∈ d.fNext, r.length ≤ 1000
 marks : d.fMark.length = d.fNext.length
 small : ∀ x ∈ d.fMark, 0 ≤ x ∧ x < 65536
structure Half (N : List (List Int)) (cls : List Int) (q : Nat) (m2 : List (DetSplit × Int)) (next : List Int) : Prop where
 len : next.length = N.length
 get : ∀ (p : Nat) (r : List Int), p < q → N[p]? = some r → ∃ x : Int, next[p]? = some x ∧ mget (keyOf cls p r) m2 = some x
 range : ∀ (k : DetSplit) (x : Int), mget k m2 = some x → 0 ≤ x ∧ x < (m2.length : Int)
 inj : ∀ (k l : DetSplit) (x : Int), mget k m2 = some x → mget l m2 = some x → k = l
 onto : ∀ j : Nat, j < m2.length → ∃ p : Nat, p < q ∧ next[p]? = some (j : Int)
 size : m2.length ≤ q
theorem mput_length {κ : Type} [DecidableEq κ] {a : κ} {v : Int} : ∀ {D : List (κ × Int)}, mget a D = none → (mput a v D).length = D.length + 1
 | [], _ => rfl
 | x :: D, h => by
  rw [mget] at h
  split at h
  ·cases h
  ·rename_i e
   rw [mput, if_neg e, List.length_cons, mput_length h, List.length_cons]
theorem Half.start {N : List (List Int)} {cls next : List Int} (h : next.length = N.length) : Half N cls 0 [] next :=
 ⟨h, fun p r hp => absurd hp (Nat.not_lt_zero _), fun k x e => by simp [mget] at e, fun k l x e => by simp [mget] at e, fun j hj => by simp at hj, Nat.le_refl _⟩
theorem Half.known {N : List (List Int)} {cls next : List Int} {q : Nat} {m2 : List (DetSplit × Int)} (h : Half N cls q m2 next) {r : List Int} (hr : N[q]? = some r) {x : Int} (hx : mget (keyOf cls q r) m2 = some x) : Half N cls (q + 1) m2 (next.set q x) := by
 have hq : q < next.length := by rw [h.len]; exact (List.getElem?_eq_some_iff.1 hr).1
 refine ⟨by simp [h.len], fun p s hp hs => ?_, h.range, h.inj, fun j hj => ?_, Nat.le_succ_of_le h.size⟩
 ·by_cases e : p = q
  ·subst e
   rw [hr] at hs
   cases hs
   exact ⟨x, by rw [List.getElem?_set_self hq], hx⟩
  ·obtain ⟨y, h1, h2⟩ := h.get p s (by omega) hs
   exact ⟨y, by rw [List.getElem?_set_ne (Ne.symm e)]; exact h1, h2⟩
 ·obtain ⟨p, h1, h2⟩ := h.onto j hj
  exact ⟨p, by omega, by rw [List.getElem?_set_ne (by omega)]; exact h2⟩
theorem Half.new {N : List (List Int)} {cls next : List Int} {q : Nat} {m2 : List (DetSplit × Int)} (h : Half N cls q m2 next) {r : List Int} (hr : N[q]? = some r) (hx : mget (keyOf cls q r) m2 = none) : Half N cls (q + 1) (mput (keyOf cls q r) (m2.length : Int) m2) (next.set q (m2.length : Int)) := by
 have hq : q < next.length := by rw [h.len]; exact (List.getElem?_eq_some_iff.1 hr).1
 have hl := mput_length (v := (m2.length : Int)) hx
 refine ⟨by simp [h.len], fun p s hp hs => ?_, fun k x e => ?_, fun k l x e1 e2 => ?_, fun j hj => ?_, by rw [hl]; have := h.size; omega⟩
 ·by_cases e : p = q
  ·subst e
   rw [hr] at hs
   cases hs
   exact ⟨_, by rw [List.getElem?_set_self hq], by rw [mget_put, if_pos rfl]⟩
  ·obtain ⟨y, h1, h2⟩ := h.get p s (by omega) hs
   refine ⟨y, by rw [List.getElem?_set_ne (Ne.symm e)]; exact h1, ?_⟩
   rw [mget_put, if_neg (fun e2 => by rw [e2, hx] at h2; cases h2)]
   exact h2
 ·rw [mget_put] at e
  rw [hl]
  split at e
  ·cases e; omega
  ·have := h.range k x e
   omega
 ·rw [mget_put] at e1 e2
  split at e1 <;> split at e2
  ·rename_i a b; rw [a, b]
  ·cases e1
   have := h.range l _ e2
   omega
  ·cases e2
   have := h.range k _ e1
   omega
  ·exact h.inj k l x e1 e2
 ·rw [hl] at hj
  by_cases e : j = m2.length
  ·subst e
   exact ⟨q, by omega, by rw [List.getElem?_set_self hq]⟩
  ·obtain ⟨p, h1, h2⟩ := h.onto j (by omega)
   exact ⟨p, by omega, by rw [List.getElem?_set_ne (by omega)]; exact h2⟩
theorem Half.round {N : List (List Int)} {cls next : List Int} {m2 : List (DetSplit × Int)} (h : Half N cls N.length m2 next) : RoundOf N cls next m2.length := by
 have hget : ∀ (p : Nat) (r : List Int) (x : Int), N[p]? = some r → next[p]? = some x → mget (keyOf cls p r) m2 = some x := fun p r x h1 h2 => by
  obtain ⟨y, h3, h4⟩ := h.get p r (List.getElem?_eq_some_iff.1 h1).1 h1
  rw [h2] at h3
  cases h3
  exact h4
 refine ⟨h.len, fun x hx => ?_, fun j hj => ?_, fun p q r s x y h1 h2 h3 h4 => ?_⟩
 ·obtain ⟨p, hp⟩ := List.getElem?_of_mem hx
  have hlt := (List.getElem?_eq_some_iff.1 hp).1
  rw [h.len] at hlt
  exact h.range _ x (hget p _ x (List.getElem?_eq_getElem hlt) hp)
 ·obtain ⟨p, _, h2⟩ := h.onto j hj
  exact List.mem_of_getElem? h2
 ·have k1 := hget p r x h1 h3
  have k2 := hget q s y h2 h4
  constructor
  ·rintro rfl
   exact h.inj _ _ x k1 k2
  ·intro e
   rw [e, k2] at k1
   cases k1
   rfl
theorem succ_rs {d : ApiDet} {L p q a : Nat} (h : rs L (langD d p) = rs L (langD d q)) (ha : a < L) : rs L (langD d (stepD d p a)) = rs L (langD d (stepD d q a)) :=
 rs_congr fun w hw => rs_at (w := a :: w) h fun b hb => (List.mem_cons.1 hb).elim (fun e => e ▸ ha) (hw b)
structure ClsInv (d : ApiDet) (L : Nat) (x4 : Int) (cls : List Int) : Prop where
 len : cls.length = d.fNext.length
 range : ∀ x ∈ cls, 0 ≤ x ∧ x < 65536
 sound : ∀ p q, p < d.fNext.length → q < d.fNext.length → rs L (langD d p) = rs L (langD d q) → cls.getD p 0 = cls.getD q 0
 marks : ∀ p q, p < d.fNext.length → q < d.fNext.length → cls.getD p 0 = cls.getD q 0 → d.fMark.getD p 0 = d.fMark.getD q 0
 count : x4 = 0 ∨ ∃ m : Nat, x4 = m ∧ m ≤ d.fNext.length ∧ (∀ x ∈ cls, 0 ≤ x ∧ x < (m : Int)) ∧ ∀ j : Nat, j < m → (j : Int) ∈ cls
theorem getD_mem {α : Type} {l : List α} {i : Nat} {z : α} (h : i < l.length) : l.getD i z ∈ l := by
 rw [List.getD_eq_getElem?_getD, List.getElem?_eq_getElem h]
 exact List.getElem_mem h
theorem getD_some {α : Type} {l : List α} {i : Nat} {z : α} (h : i < l.length) : l[i]? = some (l.getD i z) := by
 rw [List.getD_eq_getElem?_getD, List.getElem?_eq_getElem h]
 rfl
section
variable {d : ApiDet} (hd : ClsPre d) {L : Nat} (hL : ∀ r ∈ d.fNext, r.length = L)
include hd
theorem ClsPre.step {q a : Nat} (hq : q < d.fNext.length) : stepD d q a < d.fNext.length := by
 unfold stepD
 have hr := getD_mem (z := []) hq
 by_cases h : a < (d.fNext.getD q []).length
 ·have := hd.next _ hr _ (getD_mem (z := 0) h)
  omega
 ·rw [List.getD_eq_getElem?_getD (l := d.fNext.getD q []), List.getElem?_eq_none (by omega)]
  simp only [Option.getD_none]
  omega
theorem keyOf_iff {cls : List Int} (hr : ∀ x ∈ cls, 0 ≤ x ∧ x < 65536) (hlen : cls.length = d.fNext.length) {p q : Nat} (hp : p < d.fNext.length) (hq : q < d.fNext.length) (hrows : (d.fNext.getD p []).length = (d.fNext.getD q []).length) :
  keyOf cls p (d.fNext.getD p []) = keyOf cls q (d.fNext.getD q []) ↔ cls.getD p 0 = cls.getD q 0 ∧ ∀ a, a < (d.fNext.getD p []).length → cls.getD (stepD d p a) 0 = cls.getD (stepD d q a) 0 := by
 have hin : ∀ r ∈ d.fNext, ∀ x ∈ rowCls cls r, 0 ≤ x ∧ x < 65536 := fun r hr2 x hx => by
  obtain ⟨t, ht, rfl⟩ := List.mem_map.1 hx
  have := hd.next r hr2 t ht
  exact hr _ (getD_mem (by omega))
 unfold keyOf
 simp only [DetSplit.mk.injEq]
 refine and_congr Iff.rfl ⟨fun h a ha => ?_, fun h => ?_⟩
 ·have h1 := twos_inj (hin _ (getD_mem hp)) (hin _ (getD_mem hq)) (bytesOf_inj twos_in twos_in h)
  have h2 := congrArg (fun l => l[a]?) h1
  simp only [rowCls, List.getElem?_map, getD_some (z := (0 : Int)) ha, getD_some (z := (0 : Int)) (show a < (d.fNext.getD q []).length by omega), Option.map_some, Option.some.injEq] at h2
  exact h2
 ·have : rowCls cls (d.fNext.getD p []) = rowCls cls (d.fNext.getD q []) := by
   unfold rowCls
   refine List.ext_getElem? fun a => ?_
   rw [List.getElem?_map, List.getElem?_map]
   by_cases ha : a < (d.fNext.getD p []).length
   ·rw [getD_some (z := (0 : Int)) ha, getD_some (z := (0 : Int)) (show a < (d.fNext.getD q []).length by omega), Option.map_some, Option.map_some]
    exact congrArg some (h a ha)
   ·rw [List.getElem?_eq_none (by omega), List.getElem?_eq_none (by omega)]
  rw [this]
include hL
theorem ClsInv.next {cls next : List Int} {x4 : Int} {m : Nat} (h : ClsInv d L x4 cls) (hR : RoundOf d.fNext cls next m) (hm : m ≤ d.fNext.length) : ClsInv d L m next := by
 have hrow : ∀ p, p < d.fNext.length → (d.fNext.getD p []).length = L := fun p hp => hL _ (getD_mem hp)
 have key : ∀ p q, p < d.fNext.length → q < d.fNext.length → (next.getD p 0 = next.getD q 0 ↔ cls.getD p 0 = cls.getD q 0 ∧ ∀ a, a < L → cls.getD (stepD d p a) 0 = cls.getD (stepD d q a) 0) := fun p q hp hq => by
  rw [hR.same p q _ _ _ _ (getD_some (z := []) hp) (getD_some (z := []) hq) (getD_some (z := 0) (by rw [hR.len]; exact hp)) (getD_some (z := 0) (by rw [hR.len]; exact hq)), keyOf_iff hd h.range h.len hp hq (by rw [hrow p hp, hrow q hq]), hrow p hp]
 have h65 := hd.size
 refine ⟨hR.len, fun x hx => by have := hR.range x hx; omega, fun p q hp hq hw => ?_, fun p q hp hq e => h.marks p q hp hq ((key p q hp hq).1 e).1, .inr ⟨m, rfl, hm, hR.range, hR.onto⟩⟩
 exact (key p q hp hq).2 ⟨h.sound p q hp hq hw, fun a ha => h.sound _ _ (hd.step hp) (hd.step hq) (succ_rs hw ha)⟩
theorem ClsInv.factor {cls next : List Int} {x4 : Int} {m : Nat} (h : ClsInv d L x4 cls) (hR : RoundOf d.fNext cls next m) : ∃ f : Nat → Nat, ∀ i, i < d.fNext.length → f (next.getD i 0).toNat = (cls.getD i 0).toNat := by
 have hrow : ∀ p, p < d.fNext.length → (d.fNext.getD p []).length = L := fun p hp => hL _ (getD_mem hp)
 have key : ∀ p q, p < d.fNext.length → q < d.fNext.length → next.getD p 0 = next.getD q 0 → cls.getD p 0 = cls.getD q 0 := fun p q hp hq e =>
  ((keyOf_iff hd h.range h.len hp hq (by rw [hrow p hp, hrow q hq])).1 ((hR.same p q _ _ _ _ (getD_some (z := []) hp) (getD_some (z := []) hq) (getD_some (z := 0) (by rw [hR.len]; exact hp)) (getD_some (z := 0) (by rw [hR.len]; exact hq))).1 e)).1
 have hx : ∀ j : Nat, j < m → ∃ i : Nat, i < d.fNext.length ∧ next.getD i 0 = (j : Int) := fun j hj => by
  obtain ⟨i, hi⟩ := List.getElem?_of_mem (hR.onto j hj)
  have hlt := (List.getElem?_eq_some_iff.1 hi).1
  exact ⟨i, by rw [hR.len] at hlt; exact hlt, by simp [hi]⟩
 refine ⟨fun j => if hj : j < m then (cls.getD (hx j hj).choose 0).toNat else 0, fun i hi => ?_⟩
 have hr := hR.range _ (getD_mem (l := next) (z := 0) (by rw [hR.len]; exact hi))
 have hj : (next.getD i 0).toNat < m := by omega
 show (if hj : _ then _ else _) = _
 rw [dif_pos hj]
 obtain ⟨k1, k2⟩ := (hx _ hj).choose_spec
 rw [key _ i k1 hi (by rw [k2]; omega)]
theorem ClsInv.le {cls next : List Int} {x4 : Int} {m : Nat} (h : ClsInv d L x4 cls) (hR : RoundOf d.fNext cls next m) : x4 ≤ m := by
 rcases h.count with h0 | ⟨m', h1, h2, h3, h4⟩
 ·omega
 ·obtain ⟨f, hf⟩ := h.factor hd hL hR
  have := onto_le (k := m') (m := m) (f := f) fun j hj => by
   obtain ⟨i, hi⟩ := List.getElem?_of_mem (h4 j hj)
   have hlt := (List.getElem?_eq_some_iff.1 hi).1
   rw [h.len] at hlt
   have hr := hR.range _ (getD_mem (l := next) (z := 0) (by rw [hR.len]; exact hlt))
   refine ⟨(next.getD i 0).toNat, by omega, ?_⟩
   rw [hf i hlt]
   simp [hi]
  omega
theorem ClsInv.ends {cls next : List Int} {x4 : Int} {m : Nat} (h : ClsInv d L x4 cls) (hR : RoundOf d.fNext cls next m) (hm : m ≤ d.fNext.length) (he : (m : Int) = x4) : ∀ p q, p < d.fNext.length → q < d.fNext.length → (next.getD p 0 = next.getD q 0 ↔ rs L (langD d p) = rs L (langD d q)) := by
 have hrow : ∀ p, p < d.fNext.length → (d.fNext.getD p []).length = L := fun p hp => hL _ (getD_mem hp)
 have key : ∀ p q, p < d.fNext.length → q < d.fNext.length → (next.getD p 0 = next.getD q 0 ↔ cls.getD p 0 = cls.getD q 0 ∧ ∀ a, a < L → cls.getD (stepD d p a) 0 = cls.getD (stepD d q a) 0) := fun p q hp hq => by
  rw [hR.same p q _ _ _ _ (getD_some (z := []) hp) (getD_some (z := []) hq) (getD_some (z := 0) (by rw [hR.len]; exact hp)) (getD_some (z := 0) (by rw [hR.len]; exact hq)), keyOf_iff hd h.range h.len hp hq (by rw [hrow p hp, hrow q hq]), hrow p hp]
 intro p q hp hq
 -- no class was split
 have stay : ∀ p q, p < d.fNext.length → q < d.fNext.length → cls.getD p 0 = cls.getD q 0 → next.getD p 0 = next.getD q 0 := by
  intro p q hp hq e
  have hnp := hR.range _ (getD_mem (l := next) (z := 0) (by rw [hR.len]; exact hp))
  have hnq := hR.range _ (getD_mem (l := next) (z := 0) (by rw [hR.len]; exact hq))
  rcases h.count with h0 | ⟨m', h1, h2, h3, h4⟩
  ·omega
  ·have hmm : m' = m := by omega
   subst hmm
   obtain ⟨f, hf⟩ := h.factor hd hL hR
   have hon : ∀ j, j < m' → ∃ i, i < m' ∧ f i = j := fun j hj => by
    obtain ⟨i, hi⟩ := List.getElem?_of_mem (h4 j hj)
    have hlt := (List.getElem?_eq_some_iff.1 hi).1
    rw [h.len] at hlt
    have hr := hR.range _ (getD_mem (l := next) (z := 0) (by rw [hR.len]; exact hlt))
    refine ⟨(next.getD i 0).toNat, by omega, ?_⟩
    rw [hf i hlt]
    simp [hi]
   have := onto_inj hon (i := (next.getD p 0).toNat) (j := (next.getD q 0).toNat) (by omega) (by omega) (by rw [hf p hp, hf q hq, e])
   omega
 constructor
 ·intro e
  have go : ∀ (w : List Nat) (p q : Nat), p < d.fNext.length → q < d.fNext.length → next.getD p 0 = next.getD q 0 → (∀ a ∈ w, a < L) → langD d p w = langD d q w := by
   intro w
   induction w with
   | nil => exact fun p q hp hq e _ => h.marks p q hp hq ((key p q hp hq).1 e).1
   | cons a w ih =>
    intro p q hp hq e hw
    exact ih (stepD d p a) (stepD d q a) (hd.step hp) (hd.step hq) (stay _ _ (hd.step hp) (hd.step hq) (((key p q hp hq).1 e).2 a (hw a List.mem_cons_self))) fun b hb => hw b (List.mem_cons_of_mem _ hb)
  exact rs_congr fun w hw => go w p q hp hq e hw
 ·exact fun e => (key p q hp hq).2 ⟨h.sound p q hp hq e, fun a ha => h.sound _ _ (hd.step hp) (hd.step hq) (succ_rs e ha)⟩
end
section
variable {n : Nat} {R : Nat → Nat → Prop}
structure FirstsInv (n : Nat) (R : Nat → Nat → Prop) (q : Nat) (firsts next : List Int) : Prop where
 len : next.length = n
 size : firsts.length ≤ q
 alike : ∀ p, p < q → ∃ k : Nat, k < firsts.length ∧ next.getD p 0 = (k : Int) ∧ R (firsts.getD k 0).toNat p
 apart : ∀ i j, i < firsts.length → j < firsts.length → R (firsts.getD i 0).toNat (firsts.getD j 0).toNat → i = j
 first : ∀ j, j < firsts.length → ∃ r : Nat, r < q ∧ firsts.getD j 0 = (r : Int) ∧ next.getD r 0 = (j : Int)
theorem FirstsInv.start {next : List Int} (h : next.length = n) : FirstsInv n R 0 [] next :=
 ⟨h, Nat.le_refl _, fun p hp => absurd hp (Nat.not_lt_zero _), fun i j hi => absurd hi (Nat.not_lt_zero _), fun j hj => absurd hj (Nat.not_lt_zero _)⟩
theorem getD_set_eq {α : Type} {l : List α} {i : Nat} {x z : α} (h : i < l.length) : (l.set i x).getD i z = x := by
 rw [List.getD_eq_getElem?_getD, List.getElem?_set_self h]
 rfl
theorem getD_set_ne {α : Type} {l : List α} {i j : Nat} {x z : α} (h : i ≠ j) : (l.set i x).getD j z = l.getD j z := by
 rw [List.getD_eq_getElem?_getD, List.getElem?_set_ne h, ← List.getD_eq_getElem?_getD]
theorem getD_app {α : Type} {l : List α} {x z : α} : (l ++ [x]).getD l.length z = x := by simp [List.getD_eq_getElem?_getD]
theorem getD_app_lt {α : Type} {l r : List α} {z : α} {i : Nat} (h : i < l.length) : (l ++ r).getD i z = l.getD i z := by
 rw [List.getD_eq_getElem?_getD, List.getElem?_append_left h, ← List.getD_eq_getElem?_getD]
theorem FirstsInv.known {q k : Nat} {firsts next : List Int} (h : FirstsInv n R q firsts next) (hq : q < n) (hk : k < firsts.length) (hR : R (firsts.getD k 0).toNat q) : FirstsInv n R (q + 1) firsts (next.set q (k : Int)) := by
 have hl := h.len
 refine ⟨by simp [hl], Nat.le_succ_of_le h.size, fun p hp => ?_, h.apart, fun j hj => ?_⟩
 ·by_cases e : p = q
  ·subst e
   exact ⟨k, hk, getD_set_eq (by omega), hR⟩
  ·obtain ⟨k', h1, h2, h3⟩ := h.alike p (by omega)
   exact ⟨k', h1, by rw [getD_set_ne (Ne.symm e)]; exact h2, h3⟩
 ·obtain ⟨r, h1, h2, h3⟩ := h.first j hj
  exact ⟨r, by omega, h2, by rw [getD_set_ne (by omega)]; exact h3⟩
theorem FirstsInv.new {q : Nat} {firsts next : List Int} (h : FirstsInv n R q firsts next) (hq : q < n) (hr : ∀ q, q < n → R q q) (hs : ∀ p q, p < n → q < n → R p q → R q p) (hno : ∀ k, k < firsts.length → ¬ R (firsts.getD k 0).toNat q) : FirstsInv n R (q + 1) (firsts ++ [(q : Int)]) (next.set q (firsts.length : Int)) := by
 have hl := h.len
 have hll : (firsts ++ [(q : Int)]).length = firsts.length + 1 := by simp
 have hlt : ∀ k, k < firsts.length → (firsts.getD k 0).toNat < q := fun k hk => by
  obtain ⟨r, h1, h2, _⟩ := h.first k hk
  omega
 refine ⟨by simp [hl], by rw [hll]; have := h.size; omega, fun p hp => ?_, fun i j hi hj hR => ?_, fun j hj => ?_⟩
 ·by_cases e : p = q
  ·subst e
   exact ⟨firsts.length, by omega, getD_set_eq (by omega), by rw [getD_app]; exact hr _ hq⟩
  ·obtain ⟨k', h1, h2, h3⟩ := h.alike p (by omega)
   exact ⟨k', by omega, by rw [getD_set_ne (Ne.symm e)]; exact h2, by rw [getD_app_lt h1]; exact h3⟩
 ·rw [hll] at hi hj
  by_cases ei : i = firsts.length <;> by_cases ej : j = firsts.length
  ·omega
  ·subst ei
   rw [getD_app, getD_app_lt (by omega)] at hR
   have := hlt j (by omega)
   exact absurd (hs _ _ hq (by omega) hR) (hno j (by omega))
  ·subst ej
   rw [getD_app, getD_app_lt (by omega)] at hR
   exact absurd hR (hno i (by omega))
  ·rw [getD_app_lt (by omega), getD_app_lt (by omega)] at hR
   exact h.apart i j (by omega) (by omega) hR
 ·rw [hll] at hj
  by_cases ej : j = firsts.length
  ·subst ej
   exact ⟨q, by omega, getD_app, getD_set_eq (by omega)⟩
  ·obtain ⟨r, h1, h2, h3⟩ := h.first j (by omega)
   exact ⟨r, by omega, by rw [getD_app_lt (by omega)]; exact h2, by rw [getD_set_ne (by omega)]; exact h3⟩
structure RoundR (n : Nat) (R : Nat → Nat → Prop) (next : List Int) (m : Nat) : Prop where
 len : next.length = n
 size : m ≤ n
 range : ∀ p, p < n → 0 ≤ next.getD p 0 ∧ next.getD p 0 < (m : Int)
 onto : ∀ j : Nat, j < m → ∃ p, p < n ∧ next.getD p 0 = (j : Int)
 same : ∀ p q, p < n → q < n → (next.getD p 0 = next.getD q 0 ↔ R p q)
theorem FirstsInv.done {firsts next : List Int} (h : FirstsInv n R n firsts next) (hs : ∀ p q, p < n → q < n → R p q → R q p) (ht : ∀ p q r, p < n → q < n → r < n → R p q → R q r → R p r) : RoundR n R next firsts.length := by
 have hlt : ∀ k, k < firsts.length → (firsts.getD k 0).toNat < n := fun k hk => by
  obtain ⟨r, h1, h2, _⟩ := h.first k hk
  omega
 refine ⟨h.len, h.size, fun p hp => ?_, fun j hj => ?_, fun p q hp hq => ⟨fun e => ?_, fun hR => ?_⟩⟩
 ·obtain ⟨k, h1, h2, _⟩ := h.alike p hp
  omega
 ·obtain ⟨r, h1, _, h3⟩ := h.first j hj
  exact ⟨r, h1, h3⟩
 ·obtain ⟨k, h1, h2, h3⟩ := h.alike p hp
  obtain ⟨k', h1', h2', h3'⟩ := h.alike q hq
  have : k = k' := by omega
  subst this
  exact ht _ _ _ hp (hlt k h1) hq (hs _ _ (hlt k h1) hp h3) h3'
 ·obtain ⟨k, h1, h2, h3⟩ := h.alike p hp
  obtain ⟨k', h1', h2', h3'⟩ := h.alike q hq
  have : R (firsts.getD k 0).toNat (firsts.getD k' 0).toNat := ht _ _ _ (hlt k h1) hp (hlt k' h1') h3 (ht _ _ _ hp hq (hlt k' h1') hR (hs _ _ (hlt k' h1') hq h3'))
  have := h.apart k k' h1 h1' this
  omega
structure Onto (n m : Nat) (cls : List Int) : Prop where
 len : cls.length = n
 range : ∀ p, p < n → 0 ≤ cls.getD p 0 ∧ cls.getD p 0 < (m : Int)
 onto : ∀ j : Nat, j < m → ∃ p, p < n ∧ cls.getD p 0 = (j : Int)
theorem Onto.factor {m m' : Nat} {cls next : List Int} (h : Onto n m next) (h' : Onto n m' cls) (ref : ∀ p q, p < n → q < n → next.getD p 0 = next.getD q 0 → cls.getD p 0 = cls.getD q 0) : ∃ f : Nat → Nat, (∀ i, i < n → f (next.getD i 0).toNat = (cls.getD i 0).toNat) ∧ ∀ j, j < m' → ∃ i, i < m ∧ f i = j := by
 have hf : ∃ f : Nat → Nat, ∀ i, i < n → f (next.getD i 0).toNat = (cls.getD i 0).toNat := by
  refine ⟨fun j => if hj : j < m then (cls.getD (h.onto j hj).choose 0).toNat else 0, fun i hi => ?_⟩
  have hr := h.range i hi
  have hj : (next.getD i 0).toNat < m := by omega
  show (if hj : _ then _ else _) = _
  rw [dif_pos hj]
  obtain ⟨k1, k2⟩ := (h.onto _ hj).choose_spec
  rw [ref _ i k1 hi (by rw [k2]; omega)]
 obtain ⟨f, hf⟩ := hf
 refine ⟨f, hf, fun j hj => ?_⟩
 obtain ⟨p, h1, h2⟩ := h'.onto j hj
 have hr := h.range p h1
 exact ⟨(next.getD p 0).toNat, by omega, by rw [hf p h1, h2]; omega⟩
theorem Onto.le {m m' : Nat} {cls next : List Int} (h : Onto n m next) (h' : Onto n m' cls) (ref : ∀ p q, p < n → q < n → next.getD p 0 = next.getD q 0 → cls.getD p 0 = cls.getD q 0) : m' ≤ m := by
 obtain ⟨f, _, h2⟩ := h.factor h' ref
 exact onto_le h2
theorem Onto.stay {m : Nat} {cls next : List Int} (h : Onto n m next) (h' : Onto n m cls) (ref : ∀ p q, p < n → q < n → next.getD p 0 = next.getD q 0 → cls.getD p 0 = cls.getD q 0) {p q : Nat} (hp : p < n) (hq : q < n) (e : cls.getD p 0 = cls.getD q 0) : next.getD p 0 = next.getD q 0 := by
 obtain ⟨f, h1, h2⟩ := h.factor h' ref
 have hnp := h.range p hp
 have hnq := h.range q hq
 have := onto_inj h2 (i := (next.getD p 0).toNat) (j := (next.getD q 0).toNat) (by omega) (by omega) (by rw [h1 p hp, h1 q hq, e])
 omega
theorem Onto.pos {m : Nat} {cls : List Int} (h : Onto n m cls) (hn : 0 < n) : 0 < m := by
 have := h.range 0 hn
 omega
end
end Go.Proofs.Ytiejmeedkhkfgaa
namespace Go.Proofs.Ytiejmeedkhkfgaa
open Go.RowKit Go.MapKept
set_option linter.unusedSimpArgs false
set_option linter.unusedVariables false
set_option maxRecDepth 100000
def firstNZ : List Int → Int
 | [] => 0
 | x :: l => if x != 0 then x else firstNZ l
def indexInt_vc (l : (List Int)) (dom : (Int → Prop)) (φ : (Int → Bool)) (Q : Int → Prop) : Prop :=
 l.length ≤ 9223372036854775807 →
 (∃ (Inv : Int → Prop) (mu : Int → Nat), Inv 0 ∧
 ∀ (x8 : Int) , Inv x8 → (IfP (decide (x8 < (l.length : Int))) (∃ e, idx l x8 = some e ∧
 (dom e) ∧
 IfP (φ e) (Q x8) ((Inv (wr (x8 + 1)) ∧ mu (wr (x8 + 1)) < mu x8))) (Q (-1))))
theorem indexInt_walk (l : (List Int)) (dom : (Int → Prop)) (φ : (Int → Bool)) (Q : Int → Prop) (h : indexInt_vc l dom φ Q) : Ct 69 [.sv (.one (LS intT l)), .sv (.one (.rd (fvR (fun x => [.sv (.one (I x))]) (fun b => .sv (.one (B b))) dom φ)))] [] Q (fun (r : Int) => .sv (.one (I r))) := by
 have ht := tab_ok
 refine Ct.body Try.func69 rfl rfl rfl rfl (fun c hn => ?_)
 unfold indexInt_vc at h
 refine En.lenL 0 (by rfl) (fun hl => ?_)
 replace h := h hl
 clear hl
 refine En.sr ?_
 refine WL.rn ht hn 1 ⟨[sl 0 (LS intT l), sl 1 (.rd (fvR (fun x => [.sv (.one (I x))]) (fun b => .sv (.one (B b))) dom φ))], []⟩ ?_
 refine En.seq ?_
 refine En.sr ?_
 refine WL.rn ht hn 3 ⟨[sl 0 (LS intT l), sl 1 (.rd (fvR (fun x => [.sv (.one (I x))]) (fun b => .sv (.one (B b))) dom φ)), sl 7 (I (l.length : Int)), sl 8 (I 0)], []⟩ ?_
 refine En.block ?_
 obtain ⟨Inv, mu, h0, hI⟩ := h
 refine En.loop (σ := Int) (fun zz => Inv zz) (fun zz => mu zz) (fun zz => ⟨[sl 0 (LS intT l), sl 1 (.rd (fvR (fun x => [.sv (.one (I x))]) (fun b => .sv (.one (B b))) dom φ)), sl 7 (I (l.length : Int)), sl 8 (I zz)], []⟩) 0 h0 (sub_ok (by kernel_rfl)) ?_
 intro x8 h
 replace h := hI _ h
 show En c ⟨[sl 0 (LS intT l), sl 1 (.rd (fvR (fun x => [.sv (.one (I x))]) (fun b => .sv (.one (B b))) dom φ)), sl 7 (I (l.length : Int)), sl 8 (I x8)], []⟩ _
 refine En.sr ?_
 refine WL.rn ht hn 1 ⟨[sl 0 (LS intT l), sl 1 (.rd (fvR (fun x => [.sv (.one (I x))]) (fun b => .sv (.one (B b))) dom φ)), sl 7 (I (l.length : Int)), sl 8 (I x8), sl 9 (B (decide (x8 < (l.length : Int))))], []⟩ ?_
 refine En.seq ?_
 refine En.cd (b := (decide (x8 < (l.length : Int)))) (fun hb => ?_) (fun hb => ?_)
 replace h := h.1 hb
 refine En.skip ?_
 refine En.seq ?_
 refine En.block ?_
 refine En.sr ?_
 refine WL.rn ht hn 2 ⟨[sl 0 (LS intT l), sl 1 (.rd (fvR (fun x => [.sv (.one (I x))]) (fun b => .sv (.one (B b))) dom φ)), sl 5 (I x8), sl 7 (I (l.length : Int)), sl 8 (I x8)], []⟩ ?_
 refine En.sr ?_
 refine WL.r ht hn 3 ⟨[sl 0 (LS intT l), sl 1 (.rd (fvR (fun x => [.sv (.one (I x))]) (fun b => .sv (.one (B b))) dom φ)), sl 5 (I x8), sl 7 (I (l.length : Int)), sl 8 (I x8), sl 11 (.rd (fvR (fun x => [.sv (.one (I x))]) (fun b => .sv (.one (B b))) dom φ)), sl 12 (LS intT l), sl 13 (I x8)], []⟩ ?_
 obtain ⟨e, he, h⟩ := h
 refine WL.v hn (val_ix (T := intT) (l := l) (i := x8) ht rfl he) ?_
 refine WL.v hn (val_ld (s := .one (I e)) ht rfl) ?_
 obtain ⟨hp, h⟩ := h
 refine WL.m0 hn (mt_callv e hp rfl (by rfl) (by rfl) (by rfl) (by rfl)) ?_
 refine WL.nil ?_
 refine En.cd (b := (φ e)) (fun hb => ?_) (fun hb => ?_)
 replace h := h.1 hb
 refine En.sr ?_
 refine WL.rn ht hn 2 ⟨[sl 4 (I x8)], []⟩ ?_
 exact En.rb ht x8 h
 replace h := h.2 hb
 refine En.skip ?_
 refine En.region ?_
 refine WL.rn ht hn 2 ⟨[sl 0 (LS intT l), sl 1 (.rd (fvR (fun x => [.sv (.one (I x))]) (fun b => .sv (.one (B b))) dom φ)), sl 7 (I (l.length : Int)), sl 8 (I (wr (x8 + 1)))], []⟩ ?_
 exact En.at (I := fun zz => Inv zz ∧ mu zz < mu x8) (T := fun zz => ⟨[sl 0 (LS intT l), sl 1 (.rd (fvR (fun x => [.sv (.one (I x))]) (fun b => .sv (.one (B b))) dom φ)), sl 7 (I (l.length : Int)), sl 8 (I zz)], []⟩) (wr (x8 + 1)) h (by kernel_rfl)
 replace h := h.2 hb
 refine En.exit rfl ?_
 refine En.sr ?_
 refine WL.rn ht hn 1 ⟨[sl 4 (I (-1))], []⟩ ?_
 exact En.rb ht (-1) h
theorem en69 : ∀ args w, (callFunc 69 args).run Try.prog w = .ok (.enter 69 args) w := enters_of Try.func69 (by kernel_rfl) rfl
theorem indexInt_ct (l : List Int) (dom : Int → Prop) (φ : Int → Bool) (hd : ∀ x ∈ l, dom x) : Ct 69 [.sv (.one (LS intT l)), .sv (.one (.rd (fvR (fun x => [.sv (.one (I x))]) (fun b => .sv (.one (B b))) dom φ)))] [] (fun (_ : Unit) => True) (fun _ => .sv (.one (I (idxTo φ l)))) := by
 refine (indexInt_walk l dom φ (fun r => r = idxTo φ l) ?_).fun
 unfold indexInt_vc
 exact index_plain l dom φ hd
def cloneInt_vc (l : (List Int)) (Q : (List Int) → Prop) : Prop :=
 l.length ≤ 9223372036854775807 →
 (∀ isnil : Bool, (isnil = true → l = []) →
 (IfP (isnil != false) (Q []) (capOk ([] : (List Int)).length (l : (List Int)).length 8 ∧
 Q (([] : (List Int)) ++ l))))
theorem cloneInt_walk (l : (List Int)) (Q : (List Int) → Prop) (h : cloneInt_vc l Q) : CtJ 30 [.sv (.one (LS intT l))] [] Q (fun (r : (List Int)) => rowI 3 intT r) := by
 have ht := tab_ok
 refine CtJ.body Try.func30 rfl rfl rfl rfl (fun c hn hmay => ?_)
 unfold cloneInt_vc at h
 refine En.lenL 0 (by rfl) (fun hl => ?_)
 replace h := h hl
 clear hl
 refine En.sr ?_
 refine WL.rn ht hn 1 ⟨[sl 0 (LS intT l)], []⟩ ?_
 refine En.seq ?_
 refine En.sr ?_
 refine WL.r ht hn 1 ⟨[sl 0 (LS intT l), sl 3 (LS intT l)], []⟩ ?_
 refine WL.eqNil (T := intT) (l := l) .eql false (by simp) ht hn (by rfl) rfl (by rfl) (by rfl) (by rfl) rfl (by rfl) (fun isnil hisnil => ?_)
 replace h := h isnil hisnil
 clear hisnil
 refine WL.nil ?_
 refine En.cd (b := (isnil != false)) (fun hb => ?_) (fun hb => ?_)
 replace h := h.1 hb
 refine En.sr ?_
 refine WL.rn ht hn 1 ⟨[sl 2 (.v (.slice none 0 0))], []⟩ ?_
 refine En.ret ?_
 exact En.backN (by rfl) h
 replace h := h.2 hb
 refine En.skip ?_
 refine En.sr ?_
 refine WL.mt0 (K := []) (p := some (0, rowI 3 intT ([] : (List Int)))) hn (by rfl) (mt_empty intT 0 ht rfl (by rfl) (by rfl) (by rfl)) (by rfl) (by rfl) (by rfl) ?_
 refine WL.r ht hn 1 ⟨[sl 5 (.own 0), sl 6 (LS intT l)], [rowI 3 intT ([] : (List Int))]⟩ ?_
 obtain ⟨hp, h⟩ := h
 refine WL.mt (S2 := ⟨[sl 6 (LS intT l)], [rowI 3 intT ([] : (List Int))]⟩) (K := [0]) (p := some (0, rowI 3 intT (([] : (List Int)) ++ l))) hn (by rfl) (mt_append (T := intT) (l := ([] : (List Int))) (es := l) ht rfl (by rfl) (by rfl) (by rfl) (by rfl) (by decide) (by rfl) (by rfl) (srcLS (T := intT) (es := l) (fun _ h => by cases h) (by decide) (by rfl)) (by exact hp) (by exact hp.le (by decide))) (by kernel_rfl) (by rfl) (by rfl) (by rfl) ?_
 refine WL.rn ht hn 1 ⟨[sl 2 (.own 0)], [rowI 3 intT (([] : (List Int)) ++ l)]⟩ ?_
 refine En.ret ?_
 exact En.backJ (itf := fun l => rowI 3 intT l) hmay (by rfl) (by rfl) rfl rfl h
theorem en30 : ∀ args w, (callFunc 30 args).run Try.prog w = .ok (.enter 30 args) w := enters_of Try.func30 (by kernel_rfl) rfl
theorem cloneInt_ct (l : List Int) (hp : l.length * 8 ≤ 140737488355328) : CtI 30 [.sv (.one (LS intT l))] [] (rowI 3 intT l) := by
 refine (cloneInt_walk l (fun r => r = l) ?_).fun
 unfold cloneInt_vc
 refine fun _ isnil h => ⟨fun hb => (h (by simpa using hb)).symm, fun _ => ⟨?_, by simp⟩⟩
 unfold capOk
 simpa using hp
structure GraphOk (g : ApiGraph) : Prop where
 let_ : 1 ≤ g.fLetters ∧ g.fLetters ≤ 4
 pl : 1 ≤ g.fPlaces ∧ g.fPlaces ≤ 12
 len : g.fArrows.length ≤ 60
 arr : ∀ x ∈ g.fArrows, (0 ≤ x.fFrom ∧ x.fFrom < g.fPlaces) ∧ (0 ≤ x.fTo ∧ x.fTo < g.fPlaces) ∧ 0 ≤ x.fLetter ∧ x.fLetter < g.fLetters
theorem idx_getS {α : Type} {l : List α} {s : Nat} (z : α) (h : s < l.length) : idx l (s : Int) = some (l.getD s z) := by
 have := idx_of (l := l) (i := (s : Int)) z (by omega) (by omega)
 rwa [Int.toNat_natCast] at this
def ansOne (q : Int) (x : ApiArrow) (ok : Int × Int → Bool) (y : ApiArrow) : Bool := (y.fFrom == q) && ((y.fLetter == x.fLetter) && ok (x.fTo, y.fTo))
def ansB (g : ApiGraph) (p q : Int) (ok : Int × Int → Bool) : Bool := g.fArrows.all fun x => !(x.fFrom == p && !(g.fArrows.any (ansOne q x ok)))
def alikeC (c : List Int) (y : Int × Int) : Bool := c.getD y.1.toNat 0 == c.getD y.2.toNat 0
def r2B (cl : List Int) (p : Int) (g : ApiGraph) (al : Int × Int → Bool) (q : Int) : Bool := (cl.getD p.toNat 0 == cl.getD q.toNat 0) && (ansB g p q al && ansB g q p al)
theorem alikeC_iff {c : List Int} {y : Int × Int} : alikeC c y = true ↔ c.getD y.1.toNat 0 = c.getD y.2.toNat 0 := beq_iff_eq
theorem ansB_iff {g : ApiGraph} {p q : Int} {ok : Int × Int → Bool} : ansB g p q ok = true ↔ ∀ x ∈ g.fArrows, x.fFrom = p → ∃ y ∈ g.fArrows, y.fFrom = q ∧ y.fLetter = x.fLetter ∧ ok (x.fTo, y.fTo) = true := by
 unfold ansB
 rw [List.all_eq_true]
 refine ⟨fun h x hx hp => ?_, fun h x hx => ?_⟩
 ·have := h x hx
  rw [show (x.fFrom == p) = true from beq_iff_eq.2 hp, Bool.true_and, Bool.not_not] at this
  obtain ⟨y, hy, h2⟩ := List.any_eq_true.1 this
  unfold ansOne at h2
  rw [Bool.and_eq_true, Bool.and_eq_true, beq_iff_eq, beq_iff_eq] at h2
  exact ⟨y, hy, h2⟩
 ·by_cases hp : x.fFrom = p
  ·obtain ⟨y, hy, h2⟩ := h x hx hp
   have : g.fArrows.any (ansOne q x ok) = true := List.any_eq_true.2 ⟨y, hy, by unfold ansOne; rw [Bool.and_eq_true, Bool.and_eq_true, beq_iff_eq, beq_iff_eq]; exact h2⟩
   rw [this]
   simp
  ·rw [show (x.fFrom == p) = false from beq_eq_false_iff_ne.2 hp]
   rfl
def StepS (g : ApiGraph) (cl : List Int) (p q : Nat) : Prop := r2B cl (p : Int) g (alikeC cl) (q : Int) = true
theorem StepS.iff {g : ApiGraph} {cl : List Int} {p q : Nat} : StepS g cl p q ↔ cl.getD p 0 = cl.getD q 0 ∧ ansB g p q (alikeC cl) = true ∧ ansB g q p (alikeC cl) = true := by
 unfold StepS r2B
 rw [Bool.and_eq_true, Bool.and_eq_true, beq_iff_eq]
 rfl
theorem ans_refl {g : ApiGraph} {cl : List Int} (p : Int) : ansB g p p (alikeC cl) = true := ansB_iff.2 fun x hx e => ⟨x, hx, e, rfl, alikeC_iff.2 rfl⟩
theorem ans_trans {g : ApiGraph} {cl : List Int} {p q r : Int} (h1 : ansB g p q (alikeC cl) = true) (h2 : ansB g q r (alikeC cl) = true) : ansB g p r (alikeC cl) = true := ansB_iff.2 fun x hx e => by
 obtain ⟨y, hy, e1, e2, e3⟩ := ansB_iff.1 h1 x hx e
 obtain ⟨z, hz, e4, e5, e6⟩ := ansB_iff.1 h2 y hy e1
 exact ⟨z, hz, e4, e5.trans e2, alikeC_iff.2 ((alikeC_iff.1 e3).trans (alikeC_iff.1 e6))⟩
theorem StepS.refl {g : ApiGraph} {cl : List Int} (p : Nat) : StepS g cl p p := StepS.iff.2 ⟨rfl, ans_refl _, ans_refl _⟩
theorem StepS.symm {g : ApiGraph} {cl : List Int} {p q : Nat} (h : StepS g cl p q) : StepS g cl q p := by
 obtain ⟨h1, h2, h3⟩ := StepS.iff.1 h
 exact StepS.iff.2 ⟨h1.symm, h3, h2⟩
theorem StepS.trans {g : ApiGraph} {cl : List Int} {p q r : Nat} (h : StepS g cl p q) (h' : StepS g cl q r) : StepS g cl p r := by
 obtain ⟨h1, h2, h3⟩ := StepS.iff.1 h
 obtain ⟨k1, k2, k3⟩ := StepS.iff.1 h'
 exact StepS.iff.2 ⟨h1.trans k1, ans_trans h2 k2, ans_trans k3 h3⟩
def BisR (g : ApiGraph) (R : Nat → Nat → Prop) : Prop := ∀ p q, R p q → R q p ∧ ∀ x ∈ g.fArrows, x.fFrom = (p : Int) → ∃ y ∈ g.fArrows, y.fFrom = (q : Int) ∧ y.fLetter = x.fLetter ∧ R x.fTo.toNat y.fTo.toNat
def CoarseC (g : ApiGraph) (cl : List Int) : Prop := ∀ R, BisR g R → ∀ p q, p < g.fPlaces.toNat → q < g.fPlaces.toNat → R p q → cl.getD p 0 = cl.getD q 0
theorem bis_ans {g : ApiGraph} {cl : List Int} (hg : GraphOk g) {R : Nat → Nat → Prop} (hR : BisR g R) (hc : CoarseC g cl) {p q : Nat} (h : R p q) : ansB g p q (alikeC cl) = true := ansB_iff.2 fun x hx e => by
 obtain ⟨y, hy, h1, h2, h3⟩ := (hR p q h).2 x hx e
 have ax := hg.arr x hx
 have ay := hg.arr y hy
 exact ⟨y, hy, h1, h2, alikeC_iff.2 (hc R hR _ _ (by omega) (by omega) h3)⟩
theorem CoarseC.step {g : ApiGraph} {cl next : List Int} {m : Nat} (hg : GraphOk g) (h : CoarseC g cl) (hR : RoundR g.fPlaces.toNat (StepS g cl) next m) : CoarseC g next := fun R hB p q hp hq e => (hR.same p q hp hq).2 (StepS.iff.2 ⟨h R hB p q hp hq e, bis_ans hg hB h e, bis_ans hg hB h (hB p q e).1⟩)
structure StableC (g : ApiGraph) (cl : List Int) : Prop where
 coarse : CoarseC g cl
 len : cl.length = g.fPlaces.toNat
 same : ∀ p q, p < g.fPlaces.toNat → q < g.fPlaces.toNat → cl.getD p 0 = cl.getD q 0 → StepS g cl p q
def noS (n : Int) : Bool := (decide (n < 0)) || (decide (n ≥ 3))
def sNo_vc (n : Int) (Q : Bool → Prop) : Prop :=
 Q ((decide (n < 0)) || (decide (n ≥ 3)))
theorem sNo_walk (n : Int) (Q : Bool → Prop) (h : sNo_vc n Q) : Ct 107 [.sv (.one (I n))] [] Q (fun (r : Bool) => .sv (.one (B r))) := by
 have ht := tab_ok
 refine Ct.body Try.func107 rfl rfl rfl rfl (fun c hn => ?_)
 unfold sNo_vc at h
 refine En.sr ?_
 refine WL.rn ht hn 1 ⟨[sl 0 (I n)], []⟩ ?_
 refine En.sr ?_
 refine WL.r ht hn 3 ⟨[sl 0 (I n), sl 5 (B (decide (n < 0)))], []⟩ ?_
 refine WL.thru ⟨[sl 2 (B ((decide (n < 0)) || (decide (n ≥ 3))))], []⟩ ?_ ?_
 refine splitB (decide (n < 0)) (fun hb0 => ?_) (fun hb0 => ?_)
 refine WL.sB 5 hb0 ?_
 refine WL.r ht hn 4 ⟨[sl 2 (B true)], []⟩ ?_
 exact WL.nil (sub_ok (by simp only [hb0]; kernel_rfl))
 refine WL.sB 5 hb0 ?_
 refine WL.r ht hn 4 ⟨[sl 2 (B (decide (n ≥ 3)))], []⟩ ?_
 exact WL.nil (sub_ok (by simp only [hb0]; kernel_rfl))
 exact En.rb ht ((decide (n < 0)) || (decide (n ≥ 3))) h
theorem en107 : ∀ args w, (callFunc 107 args).run Try.prog w = .ok (.enter 107 args) w := enters_of Try.func107 (by kernel_rfl) rfl
theorem sNo_ct (n : Int)  : Ct 107 [.sv (.one (I n))] [] (fun (_ : Unit) => True) (fun _ => .sv (.one (B (noS n)))) := by
 refine (sNo_walk n (fun res_ => res_ = (noS n)) ?_).fun
 unfold sNo_vc
 exact rfl
def anyInt_vc (l : (List Int)) (dom : (Int → Prop)) (φ : (Int → Bool)) (Q : Bool → Prop) : Prop :=
 l.length ≤ 9223372036854775807 →
 ((∀ x_ ∈ l, dom x_) ∧
 Q (decide ((idxTo φ l) ≥ 0)))
theorem anyInt_walk (l : (List Int)) (dom : (Int → Prop)) (φ : (Int → Bool)) (Q : Bool → Prop) (h : anyInt_vc l dom φ Q) : Ct 101 [.sv (.one (LS intT l)), .sv (.one (.rd (fvR (fun x => [.sv (.one (I x))]) (fun b => .sv (.one (B b))) dom φ)))] [] Q (fun (r : Bool) => .sv (.one (B r))) := by
 have ht := tab_ok
 refine Ct.body Try.func101 rfl rfl rfl rfl (fun c hn => ?_)
 unfold anyInt_vc at h
 refine En.lenL 0 (by rfl) (fun hl => ?_)
 replace h := h hl
 clear hl
 refine En.sr ?_
 refine WL.rn ht hn 1 ⟨[sl 0 (LS intT l), sl 1 (.rd (fvR (fun x => [.sv (.one (I x))]) (fun b => .sv (.one (B b))) dom φ))], []⟩ ?_
 refine En.sr ?_
 refine WL.r ht hn 2 ⟨[sl 5 (LS intT l), sl 6 (.rd (fvR (fun x => [.sv (.one (I x))]) (fun b => .sv (.one (B b))) dom φ))], []⟩ ?_
 obtain ⟨hp, h⟩ := h
 refine WL.m0 hn (mt_c (indexInt_ct l dom φ hp) en69 rfl) ?_
 refine WL.rn ht hn 2 ⟨[sl 4 (B (decide ((idxTo φ l) ≥ 0)))], []⟩ ?_
 exact En.rb ht (decide ((idxTo φ l) ≥ 0)) h
theorem en101 : ∀ args w, (callFunc 101 args).run Try.prog w = .ok (.enter 101 args) w := enters_of Try.func101 (by kernel_rfl) rfl
theorem anyInt_ct (l : List Int) (dom : Int → Prop) (φ : Int → Bool) (hd : ∀ x ∈ l, dom x) : Ct 101 [.sv (.one (LS intT l)), .sv (.one (.rd (fvR (fun x => [.sv (.one (I x))]) (fun b => .sv (.one (B b))) dom φ)))] [] (fun (_ : Unit) => True) (fun _ => .sv (.one (B (l.any φ)))) := by
 refine (anyInt_walk l dom φ (fun r => r = l.any φ) ?_).fun
 unfold anyInt_vc
 exact fun _ => ⟨hd, by rw [← idxTo_nonneg φ l]⟩
def indexApiPush_vc (l : (List ApiPush)) (dom : (ApiPush → Prop)) (φ : (ApiPush → Bool)) (Q : Int → Prop) : Prop :=
 l.length ≤ 9223372036854775807 →
 (∃ (Inv : Int → Prop) (mu : Int → Nat), Inv 0 ∧
 ∀ (x8 : Int) , Inv x8 → (IfP (decide (x8 < (l.length : Int))) (∃ e, idx l x8 = some e ∧
 (dom e) ∧
 IfP (φ e) (Q x8) ((Inv (wr (x8 + 1)) ∧ mu (wr (x8 + 1)) < mu x8))) (Q (-1))))
theorem indexApiPush_walk (l : (List ApiPush)) (dom : (ApiPush → Prop)) (φ : (ApiPush → Bool)) (Q : Int → Prop) (h : indexApiPush_vc l dom φ Q) : Ct 135 [.sv (.one (LS ApiPush.ty l)), .sv (.one (.rd (fvR (fun x => [.sv (.agg [I x.fFrom, I x.fTop, I x.fTo, LS intT x.fPut])]) (fun b => .sv (.one (B b))) dom φ)))] [] Q (fun (r : Int) => .sv (.one (I r))) := by
 have ht := tab_ok
 refine Ct.body Try.func135 rfl rfl rfl rfl (fun c hn => ?_)
 unfold indexApiPush_vc at h
 refine En.lenL 0 (by rfl) (fun hl => ?_)
 replace h := h hl
 clear hl
 refine En.sr ?_
 refine WL.rn ht hn 1 ⟨[sl 0 (LS ApiPush.ty l), sl 1 (.rd (fvR (fun x => [.sv (.agg (ApiPush.cl x))]) (fun b => .sv (.one (B b))) dom φ))], []⟩ ?_
 refine En.seq ?_
 refine En.sr ?_
 refine WL.rn ht hn 3 ⟨[sl 0 (LS ApiPush.ty l), sl 1 (.rd (fvR (fun x => [.sv (.agg (ApiPush.cl x))]) (fun b => .sv (.one (B b))) dom φ)), sl 7 (I (l.length : Int)), sl 8 (I 0)], []⟩ ?_
 refine En.block ?_
 obtain ⟨Inv, mu, h0, hI⟩ := h
 refine En.loop (σ := Int) (fun zz => Inv zz) (fun zz => mu zz) (fun zz => ⟨[sl 0 (LS ApiPush.ty l), sl 1 (.rd (fvR (fun x => [.sv (.agg (ApiPush.cl x))]) (fun b => .sv (.one (B b))) dom φ)), sl 7 (I (l.length : Int)), sl 8 (I zz)], []⟩) 0 h0 (sub_ok (by kernel_rfl)) ?_
 intro x8 h
 replace h := hI _ h
 show En c ⟨[sl 0 (LS ApiPush.ty l), sl 1 (.rd (fvR (fun x => [.sv (.agg (ApiPush.cl x))]) (fun b => .sv (.one (B b))) dom φ)), sl 7 (I (l.length : Int)), sl 8 (I x8)], []⟩ _
 refine En.sr ?_
 refine WL.rn ht hn 1 ⟨[sl 0 (LS ApiPush.ty l), sl 1 (.rd (fvR (fun x => [.sv (.agg (ApiPush.cl x))]) (fun b => .sv (.one (B b))) dom φ)), sl 7 (I (l.length : Int)), sl 8 (I x8), sl 9 (B (decide (x8 < (l.length : Int))))], []⟩ ?_
 refine En.seq ?_
 refine En.cd (b := (decide (x8 < (l.length : Int)))) (fun hb => ?_) (fun hb => ?_)
 replace h := h.1 hb
 refine En.skip ?_
 refine En.seq ?_
 refine En.block ?_
 refine En.sr ?_
 refine WL.rn ht hn 2 ⟨[sl 0 (LS ApiPush.ty l), sl 1 (.rd (fvR (fun x => [.sv (.agg (ApiPush.cl x))]) (fun b => .sv (.one (B b))) dom φ)), sl 5 (I x8), sl 7 (I (l.length : Int)), sl 8 (I x8)], []⟩ ?_
 refine En.sr ?_
 refine WL.r ht hn 3 ⟨[sl 0 (LS ApiPush.ty l), sl 1 (.rd (fvR (fun x => [.sv (.agg (ApiPush.cl x))]) (fun b => .sv (.one (B b))) dom φ)), sl 5 (I x8), sl 7 (I (l.length : Int)), sl 8 (I x8), sl 11 (.rd (fvR (fun x => [.sv (.agg (ApiPush.cl x))]) (fun b => .sv (.one (B b))) dom φ)), sl 12 (LS ApiPush.ty l), sl 13 (I x8)], []⟩ ?_
 obtain ⟨e, he, h⟩ := h
 refine WL.v hn (val_ix (T := ApiPush.ty) (l := l) (i := x8) ht rfl he) ?_
 refine WL.v hn (val_ld (s := .agg (ApiPush.cl e)) ht rfl) ?_
 obtain ⟨hp, h⟩ := h
 refine WL.m0 hn (mt_callv e hp rfl (by rfl) (by rfl) (by rfl) (by rfl)) ?_
 refine WL.nil ?_
 refine En.cd (b := (φ e)) (fun hb => ?_) (fun hb => ?_)
 replace h := h.1 hb
 refine En.sr ?_
 refine WL.rn ht hn 2 ⟨[sl 4 (I x8)], []⟩ ?_
 exact En.rb ht x8 h
 replace h := h.2 hb
 refine En.skip ?_
 refine En.region ?_
 refine WL.rn ht hn 2 ⟨[sl 0 (LS ApiPush.ty l), sl 1 (.rd (fvR (fun x => [.sv (.agg (ApiPush.cl x))]) (fun b => .sv (.one (B b))) dom φ)), sl 7 (I (l.length : Int)), sl 8 (I (wr (x8 + 1)))], []⟩ ?_
 exact En.at (I := fun zz => Inv zz ∧ mu zz < mu x8) (T := fun zz => ⟨[sl 0 (LS ApiPush.ty l), sl 1 (.rd (fvR (fun x => [.sv (.agg (ApiPush.cl x))]) (fun b => .sv (.one (B b))) dom φ)), sl 7 (I (l.length : Int)), sl 8 (I zz)], []⟩) (wr (x8 + 1)) h (by kernel_rfl)
 replace h := h.2 hb
 refine En.exit rfl ?_
 refine En.sr ?_
 refine WL.rn ht hn 1 ⟨[sl 4 (I (-1))], []⟩ ?_
 exact En.rb ht (-1) h
theorem en135 : ∀ args w, (callFunc 135 args).run Try.prog w = .ok (.enter 135 args) w := enters_of Try.func135 (by kernel_rfl) rfl
theorem indexApiPush_ct (l : List ApiPush) (dom : ApiPush → Prop) (φ : ApiPush → Bool) (hd : ∀ x ∈ l, dom x) : Ct 135 [.sv (.one (LS ApiPush.ty l)), .sv (.one (.rd (fvR (fun x => [.sv (.agg [I x.fFrom, I x.fTop, I x.fTo, LS intT x.fPut])]) (fun b => .sv (.one (B b))) dom φ)))] [] (fun (_ : Unit) => True) (fun _ => .sv (.one (I (idxTo φ l)))) := by
 refine (indexApiPush_walk l dom φ (fun r => r = idxTo φ l) ?_).fun
 unfold indexApiPush_vc
 exact index_plain l dom φ hd
def anyApiPush_vc (l : (List ApiPush)) (dom : (ApiPush → Prop)) (φ : (ApiPush → Bool)) (Q : Bool → Prop) : Prop :=
 l.length ≤ 9223372036854775807 →
 ((∀ x_ ∈ l, dom x_) ∧
 Q (decide ((idxTo φ l) ≥ 0)))
theorem anyApiPush_walk (l : (List ApiPush)) (dom : (ApiPush → Prop)) (φ : (ApiPush → Bool)) (Q : Bool → Prop) (h : anyApiPush_vc l dom φ Q) : Ct 104 [.sv (.one (LS ApiPush.ty l)), .sv (.one (.rd (fvR (fun x => [.sv (.agg [I x.fFrom, I x.fTop, I x.fTo, LS intT x.fPut])]) (fun b => .sv (.one (B b))) dom φ)))] [] Q (fun (r : Bool) => .sv (.one (B r))) := by
 have ht := tab_ok
 refine Ct.body Try.func104 rfl rfl rfl rfl (fun c hn => ?_)
 unfold anyApiPush_vc at h
 refine En.lenL 0 (by rfl) (fun hl => ?_)
 replace h := h hl
 clear hl
 refine En.sr ?_
 refine WL.rn ht hn 1 ⟨[sl 0 (LS ApiPush.ty l), sl 1 (.rd (fvR (fun x => [.sv (.agg (ApiPush.cl x))]) (fun b => .sv (.one (B b))) dom φ))], []⟩ ?_
 refine En.sr ?_
 refine WL.r ht hn 2 ⟨[sl 5 (LS ApiPush.ty l), sl 6 (.rd (fvR (fun x => [.sv (.agg (ApiPush.cl x))]) (fun b => .sv (.one (B b))) dom φ))], []⟩ ?_
 obtain ⟨hp, h⟩ := h
 refine WL.m0 hn (mt_c (indexApiPush_ct l dom φ hp) en135 rfl) ?_
 refine WL.rn ht hn 2 ⟨[sl 4 (B (decide ((idxTo φ l) ≥ 0)))], []⟩ ?_
 exact En.rb ht (decide ((idxTo φ l) ≥ 0)) h
theorem en104 : ∀ args w, (callFunc 104 args).run Try.prog w = .ok (.enter 104 args) w := enters_of Try.func104 (by kernel_rfl) rfl
theorem anyApiPush_ct (l : List ApiPush) (dom : ApiPush → Prop) (φ : ApiPush → Bool) (hd : ∀ x ∈ l, dom x) : Ct 104 [.sv (.one (LS ApiPush.ty l)), .sv (.one (.rd (fvR (fun x => [.sv (.agg [I x.fFrom, I x.fTop, I x.fTo, LS intT x.fPut])]) (fun b => .sv (.one (B b))) dom φ)))] [] (fun (_ : Unit) => True) (fun _ => .sv (.one (B (l.any φ)))) := by
 refine (anyApiPush_walk l dom φ (fun r => r = l.any φ) ?_).fun
 unfold anyApiPush_vc
 exact fun _ => ⟨hd, by rw [← idxTo_nonneg φ l]⟩
def sK1_vc (r : ApiPush) (Q : Bool → Prop) : Prop :=
 r.fPut.length ≤ 9223372036854775807 →
 (Q (decide ((r.fPut.length : Int) > 2)))
theorem sK1_walk (r : ApiPush) (Q : Bool → Prop) (h : sK1_vc r Q) : Ct 105 [.sv (.agg [I r.fFrom, I r.fTop, I r.fTo, LS intT r.fPut])] [] Q (fun (r : Bool) => .sv (.one (B r))) := by
 have ht := tab_ok
 refine Ct.body Try.func105 rfl rfl rfl rfl (fun c hn => ?_)
 unfold sK1_vc at h
 refine En.lenA 0 3 (by rfl) (by rfl) (fun hl => ?_)
 replace h := h hl
 clear hl
 refine En.sr ?_
 refine WL.rn ht hn 2 ⟨[sl 1 (.ptr 0 0)], [.box (ApiPush.cl r) 41 false]⟩ ?_
 refine En.sr ?_
 refine WL.rn ht hn 5 ⟨[sl 2 (B (decide ((r.fPut.length : Int) > 2)))], [.gone]⟩ ?_
 exact En.rb ht (decide ((r.fPut.length : Int) > 2)) h
theorem en105 : ∀ args w, (callFunc 105 args).run Try.prog w = .ok (.enter 105 args) w := enters_of Try.func105 (by kernel_rfl) rfl
theorem sK1_ct (r : ApiPush)  : Ct 105 [.sv (.agg [I r.fFrom, I r.fTop, I r.fTo, LS intT r.fPut])] [] (fun (_ : Unit) => True) (fun _ => .sv (.one (B (decide ((r.fPut.length : Int) > 2))))) := by
 refine (sK1_walk r (fun res_ => res_ = (decide ((r.fPut.length : Int) > 2))) ?_).fun
 unfold sK1_vc
 exact fun _ => rfl
def sK2_vc (r : ApiPush) (Q : Bool → Prop) : Prop :=
 r.fPut.length ≤ 9223372036854775807 →
 (∃ J : Bool → Prop, (IfP (noS r.fFrom) (J true) (IfP (noS r.fTop) (J true) (IfP (noS r.fTo) (J true) ((∀ x_ ∈ r.fPut, (fun _ => True) x_) ∧
 J (r.fPut.any noS))))) ∧
 (∀ (x2 : Bool), J x2 → Q x2))
noncomputable abbrev qsK20 (r : ApiPush) := ([.box (ApiPush.cl r) 41 false] : List Item)
theorem sK2_walk (r : ApiPush) (Q : Bool → Prop) (h : sK2_vc r Q) : Ct 106 [.sv (.agg [I r.fFrom, I r.fTop, I r.fTo, LS intT r.fPut])] [] Q (fun (r : Bool) => .sv (.one (B r))) := by
 have ht := tab_ok
 refine Ct.body Try.func106 rfl rfl rfl rfl (fun c hn => ?_)
 unfold sK2_vc at h
 refine En.lenA 0 3 (by rfl) (by rfl) (fun hl => ?_)
 replace h := h hl
 clear hl
 refine En.sr ?_
 refine WL.rn ht hn 2 ⟨[sl 1 (.ptr 0 0)], (qsK20 r)⟩ ?_
 obtain ⟨J, h, hJ⟩ := h
 refine En.seqJ (σ := Bool) (fun zz => J zz) (fun zz => ⟨[sl 2 (B zz)], [.gone]⟩) ?_ ?_
 refine En.region ?_
 refine WL.r ht hn 2 ⟨[sl 1 (.ptr 0 0), sl 4 (I r.fFrom)], (qsK20 r)⟩ ?_
 refine WL.m0 hn (mt_c (sNo_ct r.fFrom) en107 rfl) ?_
 refine WL.r ht hn 1 ⟨[sl 1 (.ptr 0 0), sl 6 (B (noS r.fFrom))], (qsK20 r)⟩ ?_
 refine splitB (noS r.fFrom) (fun hb => ?_) (fun hb => ?_)
 replace h := h.1 hb
 refine WL.sB 6 hb ?_
 refine WL.rn ht hn 15 ⟨[sl 2 (B true)], [.gone]⟩ ?_
 exact En.at (I := fun zz => J zz) (T := fun zz => ⟨[sl 2 (B zz)], [.gone]⟩) true h (by kernel_rfl)
 replace h := h.2 hb
 refine WL.sB 6 hb ?_
 refine WL.r ht hn 2 ⟨[sl 1 (.ptr 0 0), sl 6 (B false), sl 8 (I r.fTop)], (qsK20 r)⟩ ?_
 refine WL.m0 hn (mt_c (sNo_ct r.fTop) en107 rfl) ?_
 refine WL.r ht hn 2 ⟨[sl 1 (.ptr 0 0), sl 11 (B (noS r.fTop))], (qsK20 r)⟩ ?_
 refine splitB (noS r.fTop) (fun hb => ?_) (fun hb => ?_)
 replace h := h.1 hb
 refine WL.sB 11 hb ?_
 refine WL.rn ht hn 10 ⟨[sl 2 (B true)], [.gone]⟩ ?_
 exact En.at (I := fun zz => J zz) (T := fun zz => ⟨[sl 2 (B zz)], [.gone]⟩) true h (by kernel_rfl)
 replace h := h.2 hb
 refine WL.sB 11 hb ?_
 refine WL.r ht hn 2 ⟨[sl 1 (.ptr 0 0), sl 11 (B false), sl 13 (I r.fTo)], (qsK20 r)⟩ ?_
 refine WL.m0 hn (mt_c (sNo_ct r.fTo) en107 rfl) ?_
 refine WL.r ht hn 2 ⟨[sl 1 (.ptr 0 0), sl 16 (B (noS r.fTo))], (qsK20 r)⟩ ?_
 refine splitB (noS r.fTo) (fun hb => ?_) (fun hb => ?_)
 replace h := h.1 hb
 refine WL.sB 16 hb ?_
 refine WL.rn ht hn 5 ⟨[sl 2 (B true)], [.gone]⟩ ?_
 exact En.at (I := fun zz => J zz) (T := fun zz => ⟨[sl 2 (B zz)], [.gone]⟩) true h (by kernel_rfl)
 replace h := h.2 hb
 refine WL.sB 16 hb ?_
 refine WL.r ht hn 2 ⟨[sl 16 (B false), sl 18 (LS intT r.fPut)], [.gone]⟩ ?_
 obtain ⟨hp, h⟩ := h
 refine WL.m0 hn (mt_c (Ct.args (anyInt_ct r.fPut (fun _ => True) noS hp) (argLe_same (argLe_to (fv_const (ins := (fun (x_ : Int) => [.sv (.one (I x_))])) (out := (fun (r : Bool) => .sv (.one (B r)))) (dom := (fun _ => True)) (φ := noS) (fun x_ _ => sNo_ct x_) en107) argLe_nil))) en101 rfl) ?_
 refine WL.rn ht hn 2 ⟨[sl 2 (B (r.fPut.any noS))], [.gone]⟩ ?_
 exact En.at (I := fun zz => J zz) (T := fun zz => ⟨[sl 2 (B zz)], [.gone]⟩) (r.fPut.any noS) h (by kernel_rfl)
 intro x2 h
 replace h := hJ _ h
 show En c ⟨[sl 2 (B x2)], [.gone]⟩ _
 exact En.rb ht x2 h
theorem en106 : ∀ args w, (callFunc 106 args).run Try.prog w = .ok (.enter 106 args) w := enters_of Try.func106 (by kernel_rfl) rfl
def offP (r : ApiPush) : Bool := noS r.fFrom || (noS r.fTop || (noS r.fTo || r.fPut.any noS))
theorem sK2_ct (r : ApiPush)  : Ct 106 [.sv (.agg [I r.fFrom, I r.fTop, I r.fTo, LS intT r.fPut])] [] (fun (_ : Unit) => True) (fun _ => .sv (.one (B (offP r)))) := by
 refine (sK2_walk r (fun res_ => res_ = (offP r)) ?_).fun
 unfold sK2_vc
 intro _
 refine ⟨fun b => b = offP r, ⟨fun h => ?_, fun h => ⟨fun h2 => ?_, fun h2 => ⟨fun h3 => ?_, fun h3 => ⟨fun _ _ => trivial, ?_⟩⟩⟩⟩, fun _ h => h⟩
 ·show true = _; unfold offP; rw [h]; rfl
 ·show true = _; unfold offP; rw [h, h2]; rfl
 ·show true = _; unfold offP; rw [h, h2, h3]; rfl
 ·show _ = _; unfold offP; rw [h, h2, h3]; rfl
def sChk_vc (l : (List ApiPush)) (Q : Int → Prop) : Prop :=
 l.length ≤ 9223372036854775807 →
 (∃ J : Bool → Prop, (IfP (decide ((l.length : Int) > 8)) (J true) ((∀ x_ ∈ l, (fun _ => True) x_) ∧
 J (l.any (fun r_ => decide ((r_.fPut.length : Int) > 2))))) ∧
 (∀ (x9 : Bool), J x9 → IfP x9 (Q 1) ((∀ x_ ∈ l, (fun _ => True) x_) ∧
 IfP (l.any offP) (Q 2) (Q 0))))
theorem sChk_walk (l : (List ApiPush)) (Q : Int → Prop) (h : sChk_vc l Q) : Ct 66 [.sv (.one (LS ApiPush.ty l))] [] Q (fun (r : Int) => .sv (.one (I r))) := by
 have ht := tab_ok
 refine Ct.body Try.func66 rfl rfl rfl rfl (fun c hn => ?_)
 unfold sChk_vc at h
 refine En.lenL 0 (by rfl) (fun hl => ?_)
 replace h := h hl
 clear hl
 refine En.sr ?_
 refine WL.rn ht hn 1 ⟨[sl 0 (LS ApiPush.ty l)], []⟩ ?_
 refine En.seq ?_
 obtain ⟨J, h, hJ⟩ := h
 refine En.seqJ (σ := Bool) (fun zz => J zz) (fun zz => ⟨[sl 0 (LS ApiPush.ty l), sl 9 (B zz)], []⟩) ?_ ?_
 refine En.region ?_
 refine WL.r ht hn 4 ⟨[sl 0 (LS ApiPush.ty l), sl 6 (B (decide ((l.length : Int) > 8)))], []⟩ ?_
 refine splitB (decide ((l.length : Int) > 8)) (fun hb => ?_) (fun hb => ?_)
 replace h := h.1 hb
 refine WL.sB 6 hb ?_
 refine WL.rn ht hn 3 ⟨[sl 0 (LS ApiPush.ty l), sl 9 (B true)], []⟩ ?_
 exact En.at (I := fun zz => J zz) (T := fun zz => ⟨[sl 0 (LS ApiPush.ty l), sl 9 (B zz)], []⟩) true h (by kernel_rfl)
 replace h := h.2 hb
 refine WL.sB 6 hb ?_
 refine WL.r ht hn 1 ⟨[sl 0 (LS ApiPush.ty l), sl 6 (B false), sl 7 (LS ApiPush.ty l)], []⟩ ?_
 obtain ⟨hp, h⟩ := h
 refine WL.m0 hn (mt_c (Ct.args (anyApiPush_ct l (fun _ => True) (fun r_ => decide ((r_.fPut.length : Int) > 2)) hp) (argLe_same (argLe_to (fv_const (ins := (fun (x_ : ApiPush) => [.sv (.agg (ApiPush.cl x_))])) (out := (fun (r : Bool) => .sv (.one (B r)))) (dom := (fun _ => True)) (φ := (fun r_ => decide ((r_.fPut.length : Int) > 2))) (fun x_ _ => sK1_ct x_) en105) argLe_nil))) en104 rfl) ?_
 refine WL.rn ht hn 1 ⟨[sl 0 (LS ApiPush.ty l), sl 9 (B (l.any (fun r_ => decide ((r_.fPut.length : Int) > 2))))], []⟩ ?_
 exact En.at (I := fun zz => J zz) (T := fun zz => ⟨[sl 0 (LS ApiPush.ty l), sl 9 (B zz)], []⟩) (l.any (fun r_ => decide ((r_.fPut.length : Int) > 2))) h (by kernel_rfl)
 intro x9 h
 replace h := hJ _ h
 show En c ⟨[sl 0 (LS ApiPush.ty l), sl 9 (B x9)], []⟩ _
 refine En.cd (b := x9) (fun hb => ?_) (fun hb => ?_)
 replace h := h.1 hb
 refine En.sr ?_
 refine WL.rn ht hn 1 ⟨[sl 2 (I 1)], []⟩ ?_
 exact En.rb ht 1 h
 replace h := h.2 hb
 refine En.skip ?_
 refine En.seq ?_
 refine En.sr ?_
 refine WL.r ht hn 1 ⟨[sl 10 (LS ApiPush.ty l)], []⟩ ?_
 obtain ⟨hp, h⟩ := h
 refine WL.m0 hn (mt_c (Ct.args (anyApiPush_ct l (fun _ => True) offP hp) (argLe_same (argLe_to (fv_const (ins := (fun (x_ : ApiPush) => [.sv (.agg (ApiPush.cl x_))])) (out := (fun (r : Bool) => .sv (.one (B r)))) (dom := (fun _ => True)) (φ := offP) (fun x_ _ => sK2_ct x_) en106) argLe_nil))) en104 rfl) ?_
 refine WL.nil ?_
 refine En.cd (b := (l.any offP)) (fun hb => ?_) (fun hb => ?_)
 replace h := h.1 hb
 refine En.sr ?_
 refine WL.rn ht hn 1 ⟨[sl 2 (I 2)], []⟩ ?_
 exact En.rb ht 2 h
 replace h := h.2 hb
 refine En.skip ?_
 refine En.sr ?_
 refine WL.rn ht hn 1 ⟨[sl 2 (I 0)], []⟩ ?_
 exact En.rb ht 0 h
theorem en66 : ∀ args w, (callFunc 66 args).run Try.prog w = .ok (.enter 66 args) w := enters_of Try.func66 (by kernel_rfl) rfl
def chkS (l : List ApiPush) : Int := if ((decide ((l.length : Int) > 8)) || (l.any fun r_ => decide ((r_.fPut.length : Int) > 2))) = true then 1 else if l.any offP = true then 2 else 0
theorem sChk_ct (l : (List ApiPush))  : Ct 66 [.sv (.one (LS ApiPush.ty l))] [] (fun (_ : Unit) => True) (fun _ => .sv (.one (I (chkS l)))) := by
 refine (sChk_walk l (fun res_ => res_ = (chkS l)) ?_).fun
 unfold sChk_vc
 intro _
 refine ⟨fun b => b = ((decide ((l.length : Int) > 8)) || (l.any fun r_ => decide ((r_.fPut.length : Int) > 2))), ⟨fun h => ?_, fun h => ⟨fun _ _ => trivial, ?_⟩⟩, ?_⟩
 ·show true = (_ || _); rw [h]; rfl
 ·show _ = (_ || _); rw [h]; rfl
 rintro b rfl
 refine ⟨fun h => ?_, fun h => ⟨fun _ _ => trivial, fun h2 => ?_, fun h2 => ?_⟩⟩
 ·show 1 = _; unfold chkS; rw [if_pos h]
 ·show 2 = _; unfold chkS; rw [if_neg (by rw [h]; decide), if_pos h2]
 ·show 0 = _; unfold chkS; rw [if_neg (by rw [h]; decide), if_neg (by rw [h2]; decide)]
def sCfg_vc (cf : ApiConfig) (Q : Int → Prop) : Prop :=
 cf.fStack.length ≤ 9223372036854775807 →
 (IfP (decide ((cf.fStack.length : Int) > 20)) (Q 1) (∃ J : Bool → Prop, (IfP (noS cf.fControl) (J true) ((∀ x_ ∈ cf.fStack, (fun _ => True) x_) ∧
 J (cf.fStack.any noS))) ∧
 (∀ (x14 : Bool), J x14 → IfP x14 (Q 2) (Q 0))))
theorem sCfg_walk (cf : ApiConfig) (Q : Int → Prop) (h : sCfg_vc cf Q) : Ct 67 [.sv (.agg [I cf.fControl, LS intT cf.fStack])] [] Q (fun (r : Int) => .sv (.one (I r))) := by
 have ht := tab_ok
 refine Ct.body Try.func67 rfl rfl rfl rfl (fun c hn => ?_)
 unfold sCfg_vc at h
 refine En.lenA 0 1 (by rfl) (by rfl) (fun hl => ?_)
 replace h := h hl
 clear hl
 refine En.sr ?_
 refine WL.rn ht hn 2 ⟨[sl 1 (.ptr 0 0)], [.box (ApiConfig.cl cf) 39 false]⟩ ?_
 refine En.seq ?_
 refine En.sr ?_
 refine WL.rn ht hn 4 ⟨[sl 1 (.ptr 0 0), sl 6 (B (decide ((cf.fStack.length : Int) > 20)))], [.box (ApiConfig.cl cf) 39 false]⟩ ?_
 refine En.cd (b := (decide ((cf.fStack.length : Int) > 20))) (fun hb => ?_) (fun hb => ?_)
 replace h := h.1 hb
 refine En.sr ?_
 refine WL.rn ht hn 1 ⟨[sl 2 (I 1)], [.gone]⟩ ?_
 exact En.rb ht 1 h
 replace h := h.2 hb
 refine En.skip ?_
 refine En.seq ?_
 obtain ⟨J, h, hJ⟩ := h
 refine En.seqJ (σ := Bool) (fun zz => J zz) (fun zz => ⟨[sl 14 (B zz)], [.gone]⟩) ?_ ?_
 refine En.region ?_
 refine WL.r ht hn 2 ⟨[sl 1 (.ptr 0 0), sl 8 (I cf.fControl)], [.box (ApiConfig.cl cf) 39 false]⟩ ?_
 refine WL.m0 hn (mt_c (sNo_ct cf.fControl) en107 rfl) ?_
 refine WL.r ht hn 1 ⟨[sl 1 (.ptr 0 0), sl 10 (B (noS cf.fControl))], [.box (ApiConfig.cl cf) 39 false]⟩ ?_
 refine splitB (noS cf.fControl) (fun hb => ?_) (fun hb => ?_)
 replace h := h.1 hb
 refine WL.sB 10 hb ?_
 refine WL.rn ht hn 4 ⟨[sl 14 (B true)], [.gone]⟩ ?_
 exact En.at (I := fun zz => J zz) (T := fun zz => ⟨[sl 14 (B zz)], [.gone]⟩) true h (by kernel_rfl)
 replace h := h.2 hb
 refine WL.sB 10 hb ?_
 refine WL.r ht hn 2 ⟨[sl 10 (B false), sl 12 (LS intT cf.fStack)], [.gone]⟩ ?_
 obtain ⟨hp, h⟩ := h
 refine WL.m0 hn (mt_c (Ct.args (anyInt_ct cf.fStack (fun _ => True) noS hp) (argLe_same (argLe_to (fv_const (ins := (fun (x_ : Int) => [.sv (.one (I x_))])) (out := (fun (r : Bool) => .sv (.one (B r)))) (dom := (fun _ => True)) (φ := noS) (fun x_ _ => sNo_ct x_) en107) argLe_nil))) en101 rfl) ?_
 refine WL.rn ht hn 1 ⟨[sl 14 (B (cf.fStack.any noS))], [.gone]⟩ ?_
 exact En.at (I := fun zz => J zz) (T := fun zz => ⟨[sl 14 (B zz)], [.gone]⟩) (cf.fStack.any noS) h (by kernel_rfl)
 intro x14 h
 replace h := hJ _ h
 show En c ⟨[sl 14 (B x14)], [.gone]⟩ _
 refine En.cd (b := x14) (fun hb => ?_) (fun hb => ?_)
 replace h := h.1 hb
 refine En.sr ?_
 refine WL.rn ht hn 1 ⟨[sl 2 (I 2)], [.gone]⟩ ?_
 exact En.rb ht 2 h
 replace h := h.2 hb
 refine En.skip ?_
 refine En.sr ?_
 refine WL.rn ht hn 1 ⟨[sl 2 (I 0)], [.gone]⟩ ?_
 exact En.rb ht 0 h
theorem en67 : ∀ args w, (callFunc 67 args).run Try.prog w = .ok (.enter 67 args) w := enters_of Try.func67 (by kernel_rfl) rfl
def cfgS (cf : ApiConfig) : Int := if decide ((cf.fStack.length : Int) > 20) = true then 1 else if (noS cf.fControl || cf.fStack.any noS) = true then 2 else 0
theorem sCfg_ct (cf : ApiConfig)  : Ct 67 [.sv (.agg [I cf.fControl, LS intT cf.fStack])] [] (fun (_ : Unit) => True) (fun _ => .sv (.one (I (cfgS cf)))) := by
 refine (sCfg_walk cf (fun res_ => res_ = (cfgS cf)) ?_).fun
 unfold sCfg_vc
 intro _
 refine ⟨fun h => ?_, fun h0 => ⟨fun b => b = (noS cf.fControl || cf.fStack.any noS), ⟨fun h => ?_, fun h => ⟨fun _ _ => trivial, ?_⟩⟩, ?_⟩⟩
 ·show 1 = _; unfold cfgS; rw [if_pos h]
 ·show true = (_ || _); rw [h]; rfl
 ·show _ = (_ || _); rw [h]; rfl
 rintro b rfl
 refine ⟨fun h => ?_, fun h => ?_⟩
 ·show 2 = _; unfold cfgS; rw [if_neg (by rw [h0]; decide), if_pos h]
 ·show 0 = _; unfold cfgS; rw [if_neg (by rw [h0]; decide), if_neg (by rw [h]; decide)]
def sChd_vc (l : (List ApiPush)) (cs : (List ApiConfig)) (Q : Int → Prop) : Prop :=
 l.length ≤ 9223372036854775807 →
 cs.length ≤ 9223372036854775807 →
 (IfP ((chkS l) != 0) (Q (chkS l)) (∃ (Inv : Int → Prop) (mu : Int → Nat), Inv 0 ∧
 ∀ (x16 : Int) , Inv x16 → (IfP (decide (x16 < (cs.length : Int))) (∃ e, idx cs x16 = some e ∧
 IfP ((cfgS e) != 0) (Q (cfgS e)) ((Inv (wr (x16 + 1)) ∧ mu (wr (x16 + 1)) < mu x16))) (Q 0))))
noncomputable abbrev qsChd0 (cs : (List ApiConfig)) := sl 15 (I (cs.length : Int))
theorem sChd_walk (l : (List ApiPush)) (cs : (List ApiConfig)) (Q : Int → Prop) (h : sChd_vc l cs Q) : Ct 29 [.sv (.one (LS ApiPush.ty l)), .sv (.one (LS ApiConfig.ty cs))] [] Q (fun (r : Int) => .sv (.one (I r))) := by
 have ht := tab_ok
 refine Ct.body Try.func29 rfl rfl rfl rfl (fun c hn => ?_)
 unfold sChd_vc at h
 refine En.lenL 0 (by rfl) (fun hl => ?_)
 replace h := h hl
 clear hl
 refine En.lenL 1 (by rfl) (fun hl => ?_)
 replace h := h hl
 clear hl
 refine En.sr ?_
 refine WL.rn ht hn 1 ⟨[sl 0 (LS ApiPush.ty l), sl 1 (LS ApiConfig.ty cs)], []⟩ ?_
 refine En.seq ?_
 refine En.sr ?_
 refine WL.r ht hn 1 ⟨[sl 1 (LS ApiConfig.ty cs), sl 9 (LS ApiPush.ty l)], []⟩ ?_
 refine WL.m0 hn (mt_c (sChk_ct l) en66 rfl) ?_
 refine WL.rn ht hn 1 ⟨[sl 1 (LS ApiConfig.ty cs), sl 5 (I (chkS l))], []⟩ ?_
 refine En.sr ?_
 refine WL.rn ht hn 2 ⟨[sl 1 (LS ApiConfig.ty cs), sl 5 (I (chkS l)), sl 12 (B ((chkS l) != 0))], []⟩ ?_
 refine En.cd (b := ((chkS l) != 0)) (fun hb => ?_) (fun hb => ?_)
 replace h := h.1 hb
 refine En.sr ?_
 refine WL.rn ht hn 2 ⟨[sl 4 (I (chkS l))], []⟩ ?_
 exact En.rb ht (chkS l) h
 replace h := h.2 hb
 refine En.skip ?_
 refine En.seq ?_
 refine En.sr ?_
 refine WL.rn ht hn 3 ⟨[sl 14 (LS ApiConfig.ty cs), (qsChd0 cs), sl 16 (I 0)], []⟩ ?_
 refine En.block ?_
 obtain ⟨Inv, mu, h0, hI⟩ := h
 refine En.loop (σ := Int) (fun zz => Inv zz) (fun zz => mu zz) (fun zz => ⟨[sl 14 (LS ApiConfig.ty cs), (qsChd0 cs), sl 16 (I zz)], []⟩) 0 h0 (sub_ok (by kernel_rfl)) ?_
 intro x16 h
 replace h := hI _ h
 show En c ⟨[sl 14 (LS ApiConfig.ty cs), (qsChd0 cs), sl 16 (I x16)], []⟩ _
 refine En.sr ?_
 refine WL.rn ht hn 1 ⟨[sl 14 (LS ApiConfig.ty cs), (qsChd0 cs), sl 16 (I x16), sl 17 (B (decide (x16 < (cs.length : Int))))], []⟩ ?_
 refine En.seq ?_
 refine En.cd (b := (decide (x16 < (cs.length : Int)))) (fun hb => ?_) (fun hb => ?_)
 replace h := h.1 hb
 refine En.skip ?_
 refine En.seq ?_
 refine En.block ?_
 refine En.sr ?_
 obtain ⟨e, he, h⟩ := h
 refine WL.v hn (val_ix (T := ApiConfig.ty) (l := cs) (i := x16) ht rfl he) ?_
 refine WL.v hn (val_ld (s := .agg (ApiConfig.cl e)) ht rfl) ?_
 refine WL.rn ht hn 2 ⟨[sl 7 (.ptr 0 0), sl 14 (LS ApiConfig.ty cs), (qsChd0 cs), sl 16 (I x16)], [.box (ApiConfig.cl e) 39 false]⟩ ?_
 refine En.sr ?_
 refine WL.r ht hn 1 ⟨[sl 14 (LS ApiConfig.ty cs), (qsChd0 cs), sl 16 (I x16), (20, .sv (.agg (ApiConfig.cl e)))], [.gone]⟩ ?_
 refine WL.m0 hn (mt_c (sCfg_ct e) en67 rfl) ?_
 refine WL.rn ht hn 1 ⟨[sl 8 (I (cfgS e)), sl 14 (LS ApiConfig.ty cs), (qsChd0 cs), sl 16 (I x16)], [.gone]⟩ ?_
 refine En.sr ?_
 refine WL.rn ht hn 2 ⟨[sl 8 (I (cfgS e)), sl 14 (LS ApiConfig.ty cs), (qsChd0 cs), sl 16 (I x16), sl 23 (B ((cfgS e) != 0))], [.gone]⟩ ?_
 refine En.cd (b := ((cfgS e) != 0)) (fun hb => ?_) (fun hb => ?_)
 replace h := h.1 hb
 refine En.sr ?_
 refine WL.rn ht hn 2 ⟨[sl 4 (I (cfgS e))], [.gone]⟩ ?_
 exact En.rb ht (cfgS e) h
 replace h := h.2 hb
 refine En.skip ?_
 refine En.region ?_
 refine WL.rn ht hn 2 ⟨[sl 14 (LS ApiConfig.ty cs), (qsChd0 cs), sl 16 (I (wr (x16 + 1)))], [.gone]⟩ ?_
 exact En.at (I := fun zz => Inv zz ∧ mu zz < mu x16) (T := fun zz => ⟨[sl 14 (LS ApiConfig.ty cs), (qsChd0 cs), sl 16 (I zz)], []⟩) (wr (x16 + 1)) h (by kernel_rfl)
 replace h := h.2 hb
 refine En.exit rfl ?_
 refine En.sr ?_
 refine WL.rn ht hn 1 ⟨[sl 4 (I 0)], []⟩ ?_
 exact En.rb ht 0 h
theorem en29 : ∀ args w, (callFunc 29 args).run Try.prog w = .ok (.enter 29 args) w := enters_of Try.func29 (by kernel_rfl) rfl
def chdS (l : List ApiPush) (cs : List ApiConfig) : Int := if chkS l ≠ 0 then chkS l else firstNZ (cs.map cfgS)
theorem sChd_ct (l : (List ApiPush)) (cs : (List ApiConfig))  : Ct 29 [.sv (.one (LS ApiPush.ty l)), .sv (.one (LS ApiConfig.ty cs))] [] (fun (_ : Unit) => True) (fun _ => .sv (.one (I (chdS l cs)))) := by
 refine (sChd_walk l cs (fun res_ => res_ = (chdS l cs)) ?_).fun
 unfold sChd_vc
 intro _ hc
 refine ⟨fun h => ?_, fun h => ⟨fun i => ∃ k : Nat, i = k ∧ k ≤ cs.length ∧ firstNZ (cs.map cfgS) = firstNZ ((cs.drop k).map cfgS), fun i => cs.length - i.toNat, ⟨0, rfl, Nat.zero_le _, rfl⟩, ?_⟩⟩
 ·show chkS l = _; unfold chdS; rw [if_pos (bne_iff_ne.1 h)]
 have e0 : chdS l cs = firstNZ (cs.map cfgS) := by unfold chdS; rw [if_neg (by simpa using h)]
 rw [e0]
 rintro i ⟨k, rfl, hk, he⟩
 refine ⟨fun hb => ?_, fun hb => ?_⟩
 ·have hlt := dlt hb
  rw [List.drop_eq_getElem_cons hlt, List.map_cons, firstNZ] at he
  refine ⟨_, idx_at hlt, fun h1 => ?_, fun h1 => ⟨⟨k + 1, wsucc (by omega), hlt, ?_⟩, mu_up hlt (by omega)⟩⟩
  ·rw [if_pos h1] at he
   exact he.symm
  ·rw [if_neg (by rw [h1]; decide)] at he
   exact he
 ·rw [List.drop_eq_nil_of_le (dge hb)] at he
  exact he.symm
def sAsk_vc (l : (List ApiPush)) (cs : (List ApiConfig)) (Q : Int → Prop) : Prop :=
 l.length ≤ 9223372036854775807 →
 cs.length ≤ 9223372036854775807 →
 (IfP ((chdS l cs) != 0) (Q (chdS l cs)) (∃ e, idx cs (wr ((cs.length : Int) - 1)) = some e ∧
 IfP (decide ((e.fStack.length : Int) > 3)) (Q 1) (Q 0)))
theorem sAsk_walk (l : (List ApiPush)) (cs : (List ApiConfig)) (Q : Int → Prop) (h : sAsk_vc l cs Q) : Ct 24 [.sv (.one (LS ApiPush.ty l)), .sv (.one (LS ApiConfig.ty cs))] [] Q (fun (r : Int) => .sv (.one (I r))) := by
 have ht := tab_ok
 refine Ct.body Try.func24 rfl rfl rfl rfl (fun c hn => ?_)
 unfold sAsk_vc at h
 refine En.lenL 0 (by rfl) (fun hl => ?_)
 replace h := h hl
 clear hl
 refine En.lenL 1 (by rfl) (fun hl => ?_)
 replace h := h hl
 clear hl
 refine En.sr ?_
 refine WL.rn ht hn 1 ⟨[sl 0 (LS ApiPush.ty l), sl 1 (LS ApiConfig.ty cs)], []⟩ ?_
 refine En.seq ?_
 refine En.sr ?_
 refine WL.r ht hn 2 ⟨[sl 1 (LS ApiConfig.ty cs), sl 6 (LS ApiPush.ty l), sl 7 (LS ApiConfig.ty cs)], []⟩ ?_
 refine WL.m0 hn (mt_c (sChd_ct l cs) en29 rfl) ?_
 refine WL.rn ht hn 1 ⟨[sl 1 (LS ApiConfig.ty cs), sl 5 (I (chdS l cs))], []⟩ ?_
 refine En.sr ?_
 refine WL.rn ht hn 2 ⟨[sl 1 (LS ApiConfig.ty cs), sl 5 (I (chdS l cs)), sl 10 (B ((chdS l cs) != 0))], []⟩ ?_
 refine En.cd (b := ((chdS l cs) != 0)) (fun hb => ?_) (fun hb => ?_)
 replace h := h.1 hb
 refine En.sr ?_
 refine WL.rn ht hn 2 ⟨[sl 4 (I (chdS l cs))], []⟩ ?_
 exact En.rb ht (chdS l cs) h
 replace h := h.2 hb
 refine En.skip ?_
 refine En.seq ?_
 refine En.sr ?_
 refine WL.r ht hn 4 ⟨[sl 12 (LS ApiConfig.ty cs), sl 15 (I (wr ((cs.length : Int) - 1)))], []⟩ ?_
 obtain ⟨e, he, h⟩ := h
 refine WL.v hn (val_ix (T := ApiConfig.ty) (l := cs) (i := (wr ((cs.length : Int) - 1))) ht rfl he) ?_
 refine WL.v hn (val_fd (l := (ApiConfig.cl e)) (r := .one (LS intT e.fStack)) ht rfl) ?_
 refine WL.v hn (val_ld (s := .one (LS intT e.fStack)) ht rfl) ?_
 refine WL.rn ht hn 2 ⟨[sl 20 (B (decide ((e.fStack.length : Int) > 3)))], []⟩ ?_
 refine En.cd (b := (decide ((e.fStack.length : Int) > 3))) (fun hb => ?_) (fun hb => ?_)
 replace h := h.1 hb
 refine En.sr ?_
 refine WL.rn ht hn 1 ⟨[sl 4 (I 1)], []⟩ ?_
 exact En.rb ht 1 h
 replace h := h.2 hb
 refine En.skip ?_
 refine En.sr ?_
 refine WL.rn ht hn 1 ⟨[sl 4 (I 0)], []⟩ ?_
 exact En.rb ht 0 h
theorem en24 : ∀ args w, (callFunc 24 args).run Try.prog w = .ok (.enter 24 args) w := enters_of Try.func24 (by kernel_rfl) rfl
def askS (l : List ApiPush) (cs : List ApiConfig) : Int := if chdS l cs ≠ 0 then chdS l cs else if decide (((cs.getD (cs.length - 1) (ApiConfig.mk 0 [])).fStack.length : Int) > 3) = true then 1 else 0
theorem sAsk_ct (l : (List ApiPush)) (cs : (List ApiConfig)) (hp : 0 < cs.length ∧ cs.length ≤ 1000)  : Ct 24 [.sv (.one (LS ApiPush.ty l)), .sv (.one (LS ApiConfig.ty cs))] [] (fun (_ : Unit) => True) (fun _ => .sv (.one (I (askS l cs)))) := by
 refine (sAsk_walk l cs (fun res_ => res_ = (askS l cs)) ?_).fun
 unfold sAsk_vc
 intro _ _
 refine ⟨fun h => ?_, fun h => ⟨cs.getD (cs.length - 1) (ApiConfig.mk 0 []), ?_, fun h2 => ?_, fun h2 => ?_⟩⟩
 ·show chdS l cs = _; unfold askS; rw [if_pos (bne_iff_ne.1 h)]
 ·rw [wr_in (by omega) (by omega), show (cs.length : Int) - 1 = ((cs.length - 1 : Nat) : Int) by omega]
  exact idx_getS _ (by omega)
 ·show 1 = _; unfold askS; rw [if_neg (by simpa using h), if_pos h2]
 ·show 0 = _; unfold askS; rw [if_neg (by simpa using h), if_neg (by rw [h2]; decide)]
def sStp_vc (l : (List ApiPush)) (cf : ApiConfig) (rule : Int) (Q : (ApiConfig × Int) → Prop) : Prop :=
 l.length ≤ 9223372036854775807 →
 cf.fStack.length ≤ 9223372036854775807 →
 (IfP ((chdS l ([cf] : (List ApiConfig))) != 0) (Q ((ApiConfig.mk 0 []), (chdS l ([cf] : (List ApiConfig))))) (IfP ((decide (rule < 0)) || (decide (rule ≥ (l.length : Int)))) (Q ((ApiConfig.mk 0 []), 5)) (∃ e, idx l rule = some e ∧
 ∃ J : Bool → Prop, (IfP (cf.fControl != e.fFrom) (J true) (IfP ((cf.fStack.length : Int) == 0) (J true) (∃ e_2, idx cf.fStack 0 = some e_2 ∧
 J (e_2 != e.fTop)))) ∧
 (∀ (x50 : Bool), J x50 → IfP x50 (Q ((ApiConfig.mk 0 []), 6)) ((e.fPut.length * 8 ≤ 140737488355328) ∧
 partOk 1 (cf.fStack.length : Int) cf.fStack.length ∧
 capOk (e.fPut).length (((cf.fStack.take ((cf.fStack.length : Int) : Int).toNat).drop (1 : Int).toNat) : (List Int)).length 8 ∧
 Q ((ApiConfig.mk e.fTo ((e.fPut) ++ ((cf.fStack.take ((cf.fStack.length : Int) : Int).toNat).drop (1 : Int).toNat))), 0))))))
noncomputable abbrev qsStp0 (cf : ApiConfig) (y0) := ([.box (ApiConfig.cl cf) 39 false, .box [I 0, .v (.slice none 0 0)] 39 false, .gone, .box (ApiPush.cl y0) 41 false] : List Item)
noncomputable abbrev qsStp1 (cf : ApiConfig) := ([.box (ApiConfig.cl cf) 39 false, .box [I 0, .v (.slice none 0 0)] 39 false, .gone] : List Item)
noncomputable abbrev qsStp2 := sl 6 (.ptr 1 0)
noncomputable abbrev qsStp3 (cf : ApiConfig) := (B ((cf.fStack.length : Int) == 0))
noncomputable abbrev qsStp4 := (.box [I 0, .v (.slice none 0 0)] 39 false : Item)
noncomputable abbrev qsStp5 := sl 4 (.ptr 0 0)
theorem sStp_walk (l : (List ApiPush)) (cf : ApiConfig) (rule : Int) (Q : (ApiConfig × Int) → Prop) (h : sStp_vc l cf rule Q) : Ct 12 [.sv (.one (LS ApiPush.ty l)), .sv (.agg [I cf.fControl, LS intT cf.fStack]), .sv (.one (I rule))] [] Q (fun (r : (ApiConfig × Int)) => .tup [.agg [I r.1.fControl, LS intT r.1.fStack], .one (I r.2)]) := by
 have ht := tab_ok
 refine Ct.body Try.func12 rfl rfl rfl rfl (fun c hn => ?_)
 unfold sStp_vc at h
 refine En.lenL 0 (by rfl) (fun hl => ?_)
 replace h := h hl
 clear hl
 refine En.lenA 1 1 (by rfl) (by rfl) (fun hl => ?_)
 replace h := h hl
 clear hl
 refine En.sr ?_
 refine WL.rn ht hn 3 ⟨[sl 0 (LS ApiPush.ty l), sl 2 (I rule), (qsStp5), (qsStp2)], [.box (ApiConfig.cl cf) 39 false, (qsStp4)]⟩ ?_
 refine En.seq ?_
 refine En.sr ?_
 refine WL.r ht hn 2 ⟨[sl 0 (LS ApiPush.ty l), sl 2 (I rule), (qsStp5), (qsStp2), sl 10 (LS ApiPush.ty l), (11, .sv (.agg (ApiConfig.cl cf)))], [.box (ApiConfig.cl cf) 39 false, (qsStp4)]⟩ ?_
 refine WL.mt0 (K := []) (p := some (2, rowI 39 ApiConfig.ty ([cf] : (List ApiConfig)))) hn (by rfl) (mt_lit (T := ApiConfig.ty) ([cf] : (List ApiConfig)) (mt_bsl 2 (r := cellsOf ApiConfig.ty ([cf] : (List ApiConfig))) ht rfl (by rfl) (by rfl) (by rfl) (by kernel_rfl) (by rfl)) (fun _ h => by cases h) (fun _ => rfl) (fun _ => rfl) (by rfl) (Nat.le_of_ble_eq_true rfl)) (by rfl) (by rfl) (by rfl) ?_
 refine WL.m0 hn (mt_lend (T := ApiConfig.ty) (l := ([cf] : (List ApiConfig))) 2 (by rfl) (by rfl) (mt_c (sChd_ct l ([cf] : (List ApiConfig))) en29 rfl)) ?_
 refine WL.rn ht hn 1 ⟨[sl 0 (LS ApiPush.ty l), sl 2 (I rule), (qsStp5), (qsStp2), sl 8 (I (chdS l ([cf] : (List ApiConfig))))], (qsStp1 cf)⟩ ?_
 refine En.sr ?_
 refine WL.rn ht hn 2 ⟨[sl 0 (LS ApiPush.ty l), sl 2 (I rule), (qsStp5), (qsStp2), sl 8 (I (chdS l ([cf] : (List ApiConfig)))), sl 15 (B ((chdS l ([cf] : (List ApiConfig))) != 0))], (qsStp1 cf)⟩ ?_
 refine En.cd (b := ((chdS l ([cf] : (List ApiConfig))) != 0)) (fun hb => ?_) (fun hb => ?_)
 replace h := h.1 hb
 refine En.sr ?_
 refine WL.rn ht hn 4 ⟨[(qsStp2), sl 7 (I (chdS l ([cf] : (List ApiConfig))))], [.gone, (qsStp4), .gone]⟩ ?_
 refine En.ret ?_
 refine En.nilBox (T := intT) 1 1 (by rfl) (by rfl) ?_
 exact En.back ht ((ApiConfig.mk 0 []), (chdS l ([cf] : (List ApiConfig)))) h (by kernel_rfl) rfl
 replace h := h.2 hb
 refine En.skip ?_
 refine En.seq ?_
 refine En.sr ?_
 refine WL.r ht hn 3 ⟨[sl 0 (LS ApiPush.ty l), sl 2 (I rule), (qsStp5), (qsStp2), sl 20 (B (decide (rule < 0)))], (qsStp1 cf)⟩ ?_
 refine WL.thru ⟨[sl 0 (LS ApiPush.ty l), sl 2 (I rule), (qsStp5), (qsStp2), sl 25 (B ((decide (rule < 0)) || (decide (rule ≥ (l.length : Int)))))], (qsStp1 cf)⟩ ?_ ?_
 refine splitB (decide (rule < 0)) (fun hb0 => ?_) (fun hb0 => ?_)
 refine WL.sB 20 hb0 ?_
 refine WL.r ht hn 5 ⟨[sl 0 (LS ApiPush.ty l), sl 2 (I rule), (qsStp5), (qsStp2), sl 25 (B true)], (qsStp1 cf)⟩ ?_
 exact WL.nil (sub_ok (by simp only [hb0]; kernel_rfl))
 refine WL.sB 20 hb0 ?_
 refine WL.r ht hn 5 ⟨[sl 0 (LS ApiPush.ty l), sl 2 (I rule), (qsStp5), (qsStp2), sl 25 (B (decide (rule ≥ (l.length : Int))))], (qsStp1 cf)⟩ ?_
 exact WL.nil (sub_ok (by simp only [hb0]; kernel_rfl))
 refine En.cd (b := ((decide (rule < 0)) || (decide (rule ≥ (l.length : Int))))) (fun hb => ?_) (fun hb => ?_)
 replace h := h.1 hb
 refine En.sr ?_
 refine WL.rn ht hn 3 ⟨[(qsStp2), sl 7 (I 5)], [.gone, (qsStp4), .gone]⟩ ?_
 refine En.ret ?_
 refine En.nilBox (T := intT) 1 1 (by rfl) (by rfl) ?_
 exact En.back ht ((ApiConfig.mk 0 []), 5) h (by kernel_rfl) rfl
 replace h := h.2 hb
 refine En.skip ?_
 refine En.sr ?_
 refine WL.r ht hn 2 ⟨[(qsStp5), (qsStp2), sl 27 (LS ApiPush.ty l), sl 28 (I rule)], (qsStp1 cf)⟩ ?_
 obtain ⟨e, he, h⟩ := h
 refine WL.v hn (val_ix (T := ApiPush.ty) (l := l) (i := rule) ht rfl he) ?_
 refine WL.v hn (val_ld (s := .agg (ApiPush.cl e)) ht rfl) ?_
 refine WL.rn ht hn 2 ⟨[(qsStp5), (qsStp2), sl 9 (.ptr 3 0)], (qsStp0 cf e)⟩ ?_
 refine En.seq ?_
 obtain ⟨J, h, hJ⟩ := h
 refine En.seqJ (σ := Bool) (fun zz => J zz) (fun zz => ⟨[(qsStp5), (qsStp2), sl 9 (.ptr 3 0), sl 50 (B zz)], (qsStp0 cf e)⟩) ?_ ?_
 refine En.regionS (by kernel_rfl) (by kernel_rfl) ?_
 refine SL.run ht hn 6 ⟨[(qsStp5), (qsStp2), sl 9 (.ptr 3 0), sl 31 (.ptr 0 0), sl 32 (I cf.fControl), sl 33 (.ptr 3 0), sl 34 (I e.fFrom), sl 35 (B (cf.fControl != e.fFrom)), sl 36 (B (cf.fControl != e.fFrom))], (qsStp0 cf e)⟩ (by kernel_rfl) ?_
 refine splitB (cf.fControl != e.fFrom) (fun hb => ?_) (fun hb => ?_)
 replace h := h.1 hb
 refine SL.setB 36 hb (by kernel_rfl) ?_
 refine SL.run ht hn 14 ⟨[(qsStp5), (qsStp2), sl 9 (.ptr 3 0), sl 31 (.ptr 0 0), sl 32 (I cf.fControl), sl 33 (.ptr 3 0), sl 34 (I e.fFrom), sl 35 (B (cf.fControl != e.fFrom)), sl 36 (B true), (37, .tup []), (38, .tup []), (39, .tup []), (40, .tup []), sl 41 (B true), sl 42 (B true), (43, .tup []), (44, .tup []), (45, .tup []), (46, .tup []), (47, .tup []), (48, .tup []), (49, .tup []), sl 50 (B true)], (qsStp0 cf e)⟩ (by kernel_rfl) ?_
 refine SL.nil ⟨by kernel_rfl, ?_⟩
 exact En.at (I := fun zz => J zz) (T := fun zz => ⟨[(qsStp5), (qsStp2), sl 9 (.ptr 3 0), sl 50 (B zz)], (qsStp0 cf e)⟩) true h (by kernel_rfl)
 replace h := h.2 hb
 refine SL.setB 36 hb (by kernel_rfl) ?_
 refine SL.run ht hn 6 ⟨[(qsStp5), (qsStp2), sl 9 (.ptr 3 0), sl 31 (.ptr 0 0), sl 32 (I cf.fControl), sl 33 (.ptr 3 0), sl 34 (I e.fFrom), sl 35 (B (cf.fControl != e.fFrom)), sl 36 (B false), sl 37 (.ptr 0 1), sl 38 (LS intT cf.fStack), sl 39 (I (cf.fStack.length : Int)), sl 40 (qsStp3 cf), sl 41 (qsStp3 cf), sl 42 (qsStp3 cf)], (qsStp0 cf e)⟩ (by kernel_rfl) ?_
 refine splitB ((cf.fStack.length : Int) == 0) (fun hb => ?_) (fun hb => ?_)
 replace h := h.1 hb
 refine SL.setB 42 hb (by kernel_rfl) ?_
 refine SL.run ht hn 8 ⟨[(qsStp5), (qsStp2), sl 9 (.ptr 3 0), sl 31 (.ptr 0 0), sl 32 (I cf.fControl), sl 33 (.ptr 3 0), sl 34 (I e.fFrom), sl 35 (B (cf.fControl != e.fFrom)), sl 36 (B false), sl 37 (.ptr 0 1), sl 38 (LS intT cf.fStack), sl 39 (I (cf.fStack.length : Int)), sl 40 (qsStp3 cf), sl 41 (qsStp3 cf), sl 42 (B true), (43, .tup []), (44, .tup []), (45, .tup []), (46, .tup []), (47, .tup []), (48, .tup []), (49, .tup []), sl 50 (B true)], (qsStp0 cf e)⟩ (by kernel_rfl) ?_
 refine SL.nil ⟨by kernel_rfl, ?_⟩
 exact En.at (I := fun zz => J zz) (T := fun zz => ⟨[(qsStp5), (qsStp2), sl 9 (.ptr 3 0), sl 50 (B zz)], (qsStp0 cf e)⟩) true h (by kernel_rfl)
 replace h := h.2 hb
 refine SL.setB 42 hb (by kernel_rfl) ?_
 refine SL.run ht hn 2 ⟨[(qsStp5), (qsStp2), sl 9 (.ptr 3 0), sl 31 (.ptr 0 0), sl 32 (I cf.fControl), sl 33 (.ptr 3 0), sl 34 (I e.fFrom), sl 35 (B (cf.fControl != e.fFrom)), sl 36 (B false), sl 37 (.ptr 0 1), sl 38 (LS intT cf.fStack), sl 39 (I (cf.fStack.length : Int)), sl 40 (qsStp3 cf), sl 41 (qsStp3 cf), sl 42 (B false), sl 43 (.ptr 0 1), sl 44 (LS intT cf.fStack)], (qsStp0 cf e)⟩ (by kernel_rfl) ?_
 obtain ⟨e_2, he_2, h⟩ := h
 refine SL.val hn (by rfl) (val_ix (T := intT) (l := cf.fStack) (i := 0) ht rfl he_2) (by rfl) ?_
 refine SL.val hn (by rfl) (val_ld (s := .one (I e_2)) ht rfl) (by rfl) ?_
 refine SL.run ht hn 4 ⟨[(qsStp5), (qsStp2), sl 9 (.ptr 3 0), sl 31 (.ptr 0 0), sl 32 (I cf.fControl), sl 33 (.ptr 3 0), sl 34 (I e.fFrom), sl 35 (B (cf.fControl != e.fFrom)), sl 36 (B false), sl 37 (.ptr 0 1), sl 38 (LS intT cf.fStack), sl 39 (I (cf.fStack.length : Int)), sl 40 (qsStp3 cf), sl 41 (qsStp3 cf), sl 42 (B false), sl 43 (.ptr 0 1), sl 44 (LS intT cf.fStack), sl 45 (.pe (svR (.one (I e_2))) 1), sl 46 (I e_2), sl 47 (.ptr 3 1), sl 48 (I e.fTop), sl 49 (B (e_2 != e.fTop)), sl 50 (B (e_2 != e.fTop))], (qsStp0 cf e)⟩ (by kernel_rfl) ?_
 refine SL.nil ⟨by kernel_rfl, ?_⟩
 exact En.at (I := fun zz => J zz) (T := fun zz => ⟨[(qsStp5), (qsStp2), sl 9 (.ptr 3 0), sl 50 (B zz)], (qsStp0 cf e)⟩) (e_2 != e.fTop) h (by kernel_rfl)
 intro x50 h
 replace h := hJ _ h
 show En c ⟨[(qsStp5), (qsStp2), sl 9 (.ptr 3 0), sl 50 (B x50)], (qsStp0 cf e)⟩ _
 refine En.cd (b := x50) (fun hb => ?_) (fun hb => ?_)
 replace h := h.1 hb
 refine En.sr ?_
 refine WL.rn ht hn 3 ⟨[(qsStp2), sl 7 (I 6)], [.gone, (qsStp4), .gone, .gone]⟩ ?_
 refine En.ret ?_
 refine En.nilBox (T := intT) 1 1 (by rfl) (by rfl) ?_
 exact En.back ht ((ApiConfig.mk 0 []), 6) h (by kernel_rfl) rfl
 replace h := h.2 hb
 refine En.skip ?_
 refine En.seq ?_
 obtain ⟨hp_2, h⟩ := h
 obtain ⟨hp_3, h⟩ := h
 obtain ⟨hp_4, h⟩ := h
 refine En.regionA ⟨[(qsStp5), (qsStp2), sl 9 (.ptr 3 0)], [.sv (.one (.ptr 3 2)), .sv (.one (I e.fTo)), .sv (.one (.ptr 3 3)), .sv (.one (LS intT e.fPut)), .sv (.one (.own 4)), .sv (.one (.ptr 0 1)), .sv (.one (LS intT cf.fStack)), .sv (.one (LS intT ((cf.fStack.take ((cf.fStack.length : Int) : Int).toNat).drop (1 : Int).toNat))), .sv (.one (.own 5)), .sv (.agg [I e.fTo, .own 5]), .tup [], .sv (.one (I 0))], [⟨.box (ApiConfig.cl cf) 39 false, none, none, none⟩, ⟨(qsStp4), none, none, some (10, .box [I e.fTo, .own 5] 39 false)⟩, ⟨.gone, none, none, none⟩, ⟨.box (ApiPush.cl e) 41 false, none, none, none⟩, ⟨rowI 3 intT e.fPut, some 4, some 8, none⟩, ⟨rowI 3 intT (e.fPut ++ ((cf.fStack.take ((cf.fStack.length : Int) : Int).toNat).drop (1 : Int).toNat)), some 8, none, none⟩]⟩ ⟨[(qsStp2), sl 7 (I 0)], [.gone, .box [I e.fTo, .own 5] 39 false, .gone, .gone, .gone, rowI 3 intT (e.fPut ++ ((cf.fStack.take ((cf.fStack.length : Int) : Int).toNat).drop (1 : Int).toNat))]⟩ (by kernel_rfl) hn (by kernel_rfl) (by rfl) (by kernel_rfl) ?_ (by kernel_rfl) ?_
 exact ⟨.ev ⟨[sl 9 (.ptr 3 0)], []⟩ ht,
 .ev ⟨[sl 52 (.ptr 3 2)], [.gone, .gone, .gone, .box (ApiPush.cl e) 41 false]⟩ ht,
 .ev ⟨[sl 9 (.ptr 3 0)], []⟩ ht,
 .ev ⟨[sl 54 (.ptr 3 3)], [.gone, .gone, .gone, .box (ApiPush.cl e) 41 false]⟩ ht,
 .mt ⟨[sl 55 (LS intT e.fPut)], []⟩ [] (some 4) (by kernel_rfl) (by rfl) (mt_callI 4 (cloneInt_ct e.fPut hp_2) en30 (caps := []) [] rfl rfl (by rfl) (by kernel_rfl) (by kernel_rfl) (by rfl) (by rfl)) rfl rfl rfl rfl,
 .ev ⟨[(qsStp5)], []⟩ ht,
 .ev ⟨[sl 57 (.ptr 0 1)], [.box (ApiConfig.cl cf) 39 false]⟩ ht,
 .vl ⟨[sl 58 (LS intT cf.fStack)], []⟩ (mt_val (val_slice (T := intT) (l := cf.fStack) (lv := 1) (hv := (cf.fStack.length : Int)) ht rfl (by rfl) (by rfl) (by rfl) (by rfl) (by rfl) (by rfl) (by rfl) hp_3)),
 .mt ⟨[sl 56 (.own 4), sl 59 (LS intT ((cf.fStack.take ((cf.fStack.length : Int) : Int).toNat).drop (1 : Int).toNat))], [.gone, .gone, .gone, .gone, rowI 3 intT e.fPut]⟩ [4] (some 5) (by kernel_rfl) (by rfl) (mt_append (T := intT) (l := e.fPut) (es := ((cf.fStack.take ((cf.fStack.length : Int) : Int).toNat).drop (1 : Int).toNat)) (p := 5) ht rfl (by rfl) (by rfl) (by rfl) (by rfl) (by decide) (by rfl) (by rfl) (srcLS (T := intT) (es := ((cf.fStack.take ((cf.fStack.length : Int) : Int).toNat).drop (1 : Int).toNat)) (fun _ h => by cases h) (by decide) (by rfl)) (by exact hp_4) (by exact hp_4.le (by decide))) rfl rfl rfl rfl,
 .ev ⟨[sl 53 (I e.fTo), sl 60 (.own 5)], []⟩ ht,
 .mu ⟨[(qsStp2), (61, .sv (.agg [I e.fTo, .own 5]))], [.gone, (qsStp4)]⟩ 1 _ _ rfl rfl (by kernel_rfl) (by rfl) (mu_store2 ht rfl (by rfl) (by rfl) (by rfl) (by rfl) (fun h => by cases h) (by rfl) (by rfl)) rfl rfl rfl rfl rfl rfl rfl,
 .ev ⟨[], []⟩ ht,
 trivial⟩
 refine En.ret ?_
 refine En.seal (T := intT) (l := (e.fPut ++ ((cf.fStack.take ((cf.fStack.length : Int) : Int).toNat).drop (1 : Int).toNat))) (e := 3) 5 rfl ?_
 exact En.back ht ((ApiConfig.mk e.fTo (e.fPut ++ ((cf.fStack.take ((cf.fStack.length : Int) : Int).toNat).drop (1 : Int).toNat))), 0) h (by kernel_rfl) rfl
theorem en12 : ∀ args w, (callFunc 12 args).run Try.prog w = .ok (.enter 12 args) w := enters_of Try.func12 (by kernel_rfl) rfl
def misS (c : ApiConfig) (r : ApiPush) : Bool := (c.fControl != r.fFrom) || (((c.fStack.length : Int) == 0) || (c.fStack.getD 0 0 != r.fTop))
def stepS (l : List ApiPush) (c : ApiConfig) (rule : Int) : ApiConfig × Int := if chdS l [c] ≠ 0 then (ApiConfig.mk 0 [], chdS l [c]) else if ((decide (rule < 0)) || (decide (rule ≥ (l.length : Int)))) = true then (ApiConfig.mk 0 [], 5)
 else if misS c (l.getD rule.toNat (ApiPush.mk 0 0 0 [])) = true then (ApiConfig.mk 0 [], 6) else (ApiConfig.mk (l.getD rule.toNat (ApiPush.mk 0 0 0 [])).fTo ((l.getD rule.toNat (ApiPush.mk 0 0 0 [])).fPut ++ c.fStack.drop 1), 0)
structure RuleOk (r : ApiPush) : Prop where
 fr : 0 ≤ r.fFrom ∧ r.fFrom < 3
 top : 0 ≤ r.fTop ∧ r.fTop < 3
 tto : 0 ≤ r.fTo ∧ r.fTo < 3
 len : r.fPut.length ≤ 2
 put : ∀ x ∈ r.fPut, 0 ≤ x ∧ x < 3
structure ConfOk (c : ApiConfig) : Prop where
 ctl : 0 ≤ c.fControl ∧ c.fControl < 3
 len : c.fStack.length ≤ 20
 stk : ∀ x ∈ c.fStack, 0 ≤ x ∧ x < 3
theorem noS_ok {n : Int} (h : noS n = false) : 0 ≤ n ∧ n < 3 := by
 unfold noS at h
 simp only [Bool.or_eq_false_iff, decide_eq_false_iff_not] at h
 omega
theorem chkS_ok {l : List ApiPush} (h : chkS l = 0) : l.length ≤ 8 ∧ ∀ r ∈ l, RuleOk r := by
 unfold chkS at h
 split at h
 ·cases h
 rename_i h1
 split at h
 ·cases h
 rename_i h2
 rw [Bool.not_eq_true, Bool.or_eq_false_iff, decide_eq_false_iff_not, List.any_eq_false] at h1
 rw [Bool.not_eq_true, List.any_eq_false] at h2
 refine ⟨by omega, fun r hr => ?_⟩
 have h3 := h1.2 r hr
 have h4 := h2 r hr
 rw [Bool.not_eq_true] at h4
 unfold offP at h4
 simp only [Bool.or_eq_false_iff, List.any_eq_false] at h4
 simp only [decide_eq_true_eq] at h3
 exact ⟨noS_ok h4.1, noS_ok h4.2.1, noS_ok h4.2.2.1, by omega, fun x hx => noS_ok (by simpa using h4.2.2.2 x hx)⟩
theorem cfgS_ok {c : ApiConfig} (h : cfgS c = 0) : ConfOk c := by
 unfold cfgS at h
 split at h
 ·cases h
 rename_i h1
 split at h
 ·cases h
 rename_i h2
 rw [Bool.not_eq_true, decide_eq_false_iff_not] at h1
 rw [Bool.not_eq_true, Bool.or_eq_false_iff, List.any_eq_false] at h2
 exact ⟨noS_ok h2.1, by omega, fun x hx => noS_ok (by simpa using h2.2 x hx)⟩
theorem firstNZ_0 : ∀ {l : List Int}, firstNZ l = 0 → ∀ x ∈ l, x = 0
 | [], _, x, hx => by cases hx
 | y :: l, h, x, hx => by
  rw [firstNZ] at h
  by_cases e : (y != 0) = true
  ·rw [if_pos e] at h
   simp [h] at e
  ·rw [if_neg e] at h
   rcases List.mem_cons.1 hx with rfl | hx
   ·simpa using e
   ·exact firstNZ_0 h x hx
theorem chdS_ok {l : List ApiPush} {cs : List ApiConfig} (h : chdS l cs = 0) : chkS l = 0 ∧ ∀ c ∈ cs, cfgS c = 0 := by
 unfold chdS at h
 by_cases e : chkS l ≠ 0
 ·rw [if_pos e] at h
  exact absurd h e
 ·rw [if_neg e] at h
  exact ⟨Decidable.not_not.1 e, fun c hc => firstNZ_0 h _ (List.mem_map_of_mem hc)⟩
theorem askS_ok {l : List ApiPush} {cs : List ApiConfig} (h : askS l cs = 0) : chdS l cs = 0 ∧ (cs.getD (cs.length - 1) (ApiConfig.mk 0 [])).fStack.length ≤ 3 := by
 unfold askS at h
 by_cases e : chdS l cs ≠ 0
 ·rw [if_pos e] at h
  exact absurd h e
 ·rw [if_neg e] at h
  split at h
  ·cases h
  ·rename_i h2
   rw [Bool.not_eq_true, decide_eq_false_iff_not] at h2
   exact ⟨Decidable.not_not.1 e, by omega⟩
theorem sStp_ct (l : (List ApiPush)) (cf : ApiConfig) (rule : Int)  : Ct 12 [.sv (.one (LS ApiPush.ty l)), .sv (.agg [I cf.fControl, LS intT cf.fStack]), .sv (.one (I rule))] [] (fun (_ : Unit) => True) (fun _ => .tup [.agg [I (stepS l cf rule).1.fControl, LS intT (stepS l cf rule).1.fStack], .one (I (stepS l cf rule).2)]) := by
 refine (sStp_walk l cf rule (fun res_ => res_ = (stepS l cf rule)) ?_).fun
 unfold sStp_vc
 intro hl hs
 refine ⟨fun h => ?_, fun h => ⟨fun h1 => ?_, fun h1 => ?_⟩⟩
 ·show _ = stepS l cf rule; unfold stepS; rw [if_pos (bne_iff_ne.1 h)]
 ·show _ = stepS l cf rule; unfold stepS; rw [if_neg (by simpa using h), if_pos h1]
 have h0 : chdS l [cf] = 0 := by simpa using h
 obtain ⟨k1, k2⟩ := chdS_ok h0
 have hl8 := chkS_ok k1
 have hco := cfgS_ok (k2 cf (by simp))
 have hlen := hco.len
 have h1' := h1
 rw [Bool.or_eq_false_iff, decide_eq_false_iff_not, decide_eq_false_iff_not] at h1'
 refine ⟨l.getD rule.toNat (ApiPush.mk 0 0 0 []), idx_of _ (by omega) (by omega), ?_⟩
 have hr := hl8.2 _ (getD_mem (z := ApiPush.mk 0 0 0 []) (show rule.toNat < l.length by omega))
 have hput := hr.len
 have e0 : stepS l cf rule = if misS cf (l.getD rule.toNat (ApiPush.mk 0 0 0 [])) = true then (ApiConfig.mk 0 [], 6) else (ApiConfig.mk (l.getD rule.toNat (ApiPush.mk 0 0 0 [])).fTo ((l.getD rule.toNat (ApiPush.mk 0 0 0 [])).fPut ++ cf.fStack.drop 1), 0) := by
  unfold stepS
  rw [if_neg (by simpa using h), if_neg (by rw [h1]; decide)]
 rw [e0]
 generalize l.getD rule.toNat (ApiPush.mk 0 0 0 []) = r at hput ⊢
 refine ⟨fun b => b = misS cf r, ⟨fun h => ?_, fun h => ⟨fun h2 => ?_, fun h2 => ⟨_, idx_getS (s := 0) 0 (by simp only [beq_eq_false_iff_ne] at h2; omega), ?_⟩⟩⟩, ?_⟩
 ·show true = _; unfold misS; rw [h]; rfl
 ·show true = _; unfold misS; rw [h, h2]; rfl
 ·show _ = _; unfold misS; rw [h, h2]; rfl
 rintro b rfl
 refine ⟨fun h => ?_, fun h => ⟨by omega, ?_, ?_, ?_⟩⟩
 ·show _ = _; rw [if_pos h]
 ·unfold misS at h
  simp only [Bool.or_eq_false_iff, beq_eq_false_iff_ne] at h
  exact ⟨by omega, by omega, by omega⟩
 ·exact capOk_of (by simp only [List.length_drop, List.length_take]; omega)
 ·show (_, _) = _
  rw [if_neg (by rw [h]; decide), Int.toNat_natCast, List.take_of_length_le (Nat.le_refl _)]
  rfl
end Go.Proofs.Ytiejmeedkhkfgaa
namespace Go.Proofs.Ytiejmeedkhkfgaa
open Go.RowKit Go.MapKept
set_option linter.unusedSimpArgs false
set_option linter.unusedVariables false
set_option maxRecDepth 100000
set_option linter.unusedSectionVars false
def stsS (gs : List Int) : Int := (gs.length : Int) + 4
def lstS (gs : List Int) : Int := (gs.length : Int) + 3
abbrev EMap := List (StackEdge × StackKnown)
abbrev WMap := List (Int × StackWay)
abbrev kn0 : StackKnown := StackKnown.mk (0 : Int) (0 : Int) []
abbrev wy0 : StackWay := StackWay.mk (0 : Int) (0 : Int) []
def costS (a b : Int) : Int := if 1099511627776 < (wr (a + b)) then 1099511627776 else (wr (a + b))
def newW (E : EMap) (w : StackWay) (sign to_ : Int) : StackWay := StackWay.mk to_ (costS w.fCost ((mget (StackEdge.mk w.fTo sign to_) E).getD kn0).fCost) (w.fOver ++ [StackEdge.mk w.fTo sign to_])
def tryS (E : EMap) (w : StackWay) (sign to_ : Int) (b : WMap) : WMap :=
 if (!(mget (StackEdge.mk w.fTo sign to_) E).isSome) = true then b
 else if ((!(mget to_ b).isSome) || (decide ((newW E w sign to_).fCost < ((mget to_ b).getD wy0).fCost))) = true then mput to_ (newW E w sign to_) b else b
def rowS (E : EMap) (w : StackWay) (sign : Int) (k : Nat) (b : WMap) : WMap := (List.range k).foldl (fun b (t : Nat) => tryS E w sign (t : Int) b) b
def bestF (E : EMap) (n : Nat) (sign : Int) (l : List StackWay) (b : WMap) : WMap := l.foldl (fun b w => rowS E w sign n b) b
def itemS (gc : Int) (gs : List Int) (b : WMap) (t : Int) : List StackWay :=
 if (mget t b).isSome = true then [(mget t b).getD wy0] ++ (if ((t == gc) && ((gs.length : Int) == 0)) = true then [StackWay.mk (lstS gs) ((mget t b).getD wy0).fCost ((mget t b).getD wy0).fOver] else []) else []
def outS (gc : Int) (gs : List Int) (b : WMap) (k : Nat) : List StackWay := (List.range k).flatMap fun (t : Nat) => itemS gc gs b (t : Int)
def stepW (gc : Int) (gs : List Int) (E : EMap) (l : List StackWay) (sign : Int) : List StackWay := outS gc gs (bestF E (gs.length + 4) sign l []) (gs.length + 4)
def startS (gc : Int) (gs : List Int) (fr : Int) : List StackWay := [StackWay.mk fr 0 []] ++ (if (((gs.length : Int) == 0) && (fr == gc)) = true then [StackWay.mk (lstS gs) 0 []] else [])
def waysS (gc : Int) (gs : List Int) (E : EMap) (fr : Int) (signs : List Int) : List StackWay := signs.foldl (stepW gc gs E) (startS gc gs fr)
def keyE (E : EMap) (e : StackEdge) : Prop := (mget e E).isSome = true
def leB (b b' : WMap) : Prop := ∀ t x, mget t b = some x → ∃ y, mget t b' = some y ∧ y.fCost ≤ x.fCost
theorem leB.refl (b : WMap) : leB b b := fun _ x h => ⟨x, h, Int.le_refl _⟩
theorem leB.trans {a b c : WMap} (h : leB a b) (h' : leB b c) : leB a c := fun t x hx => by
 obtain ⟨y, h1, h2⟩ := h t x hx
 obtain ⟨z, h3, h4⟩ := h' t y h1
 exact ⟨z, h3, Int.le_trans h4 h2⟩
section
variable {E : EMap} {w : StackWay} {sign t : Int} {b : WMap} {n : Nat} {l : List StackWay} {gc : Int} {gs : List Int} {P : Int → StackWay → Prop}
theorem rowS_succ {k : Nat} : rowS E w sign (k + 1) b = tryS E w sign (k : Int) (rowS E w sign k b) := by
 unfold rowS
 rw [List.range_succ, List.foldl_append]
 rfl
theorem outS_succ {k : Nat} : outS gc gs b (k + 1) = outS gc gs b k ++ itemS gc gs b (k : Int) := by
 unfold outS
 rw [List.range_succ, List.flatMap_append]
 simp
theorem try_le : leB b (tryS E w sign t b) := by
 unfold tryS
 split
 ·exact leB.refl b
 split
 ·rename_i h
  intro u x hx
  rw [mget_put]
  by_cases e : u = t
  ·subst e
   rw [if_pos rfl]
   rw [hx] at h
   have h : (newW E w sign u).fCost < x.fCost := by simpa using h
   exact ⟨_, rfl, by omega⟩
  ·rw [if_neg e]
   exact ⟨x, hx, Int.le_refl _⟩
 ·exact leB.refl b
theorem try_has (h : keyE E (StackEdge.mk w.fTo sign t)) : ∃ y, mget t (tryS E w sign t b) = some y ∧ y.fCost ≤ (newW E w sign t).fCost := by
 unfold tryS
 have h : (mget (StackEdge.mk w.fTo sign t) E).isSome = true := h
 rw [if_neg (by rw [h]; decide)]
 split
 ·exact ⟨_, by rw [mget_put, if_pos rfl], Int.le_refl _⟩
 ·rename_i h2
  rw [Bool.not_eq_true, Bool.or_eq_false_iff, decide_eq_false_iff_not] at h2
  cases hm : mget t b with
  | none => rw [hm] at h2; simp at h2
  | some y =>
   refine ⟨y, rfl, ?_⟩
   have := h2.2
   rw [hm] at this
   have this : ¬ (newW E w sign t).fCost < y.fCost := this
   omega
theorem try_all (hb : ∀ u x, mget u b = some x → P u x) (hn : keyE E (StackEdge.mk w.fTo sign t) → P t (newW E w sign t)) : ∀ u x, mget u (tryS E w sign t b) = some x → P u x := by
 intro u x hx
 unfold tryS at hx
 split at hx
 ·exact hb u x hx
 ·rename_i h1
  split at hx
  ·rw [mget_put] at hx
   split at hx
   ·rename_i e
    subst e
    cases hx
    exact hn (by unfold keyE; revert h1; cases mget (StackEdge.mk w.fTo sign u) E <;> simp)
   ·exact hb u x hx
  ·exact hb u x hx
theorem row_le : ∀ {k : Nat}, leB b (rowS E w sign k b)
 | 0 => leB.refl b
 | k + 1 => by
  rw [rowS_succ]
  exact row_le.trans try_le
theorem row_has {i : Nat} (h : keyE E (StackEdge.mk w.fTo sign (i : Int))) : ∀ {k : Nat}, i < k → ∃ y, mget (i : Int) (rowS E w sign k b) = some y ∧ y.fCost ≤ (newW E w sign (i : Int)).fCost
 | 0, h0 => absurd h0 (Nat.not_lt_zero _)
 | k + 1, h0 => by
  rw [rowS_succ]
  by_cases e : i = k
  ·subst e
   exact try_has h
  ·obtain ⟨y, h1, h2⟩ := row_has h (k := k) (by omega)
   obtain ⟨z, h3, h4⟩ := try_le (E := E) (w := w) (sign := sign) (t := (k : Int)) _ _ h1
   exact ⟨z, h3, by omega⟩
theorem row_all (hb : ∀ u x, mget u b = some x → P u x) : ∀ {k : Nat}, (∀ i : Nat, i < k → keyE E (StackEdge.mk w.fTo sign (i : Int)) → P (i : Int) (newW E w sign (i : Int))) → ∀ u x, mget u (rowS E w sign k b) = some x → P u x
 | 0, _ => hb
 | k + 1, hn => by
  rw [rowS_succ]
  exact try_all (row_all hb fun i hi => hn i (by omega)) (hn k (by omega))
theorem best_le : ∀ {l : List StackWay} {b : WMap}, leB b (bestF E n sign l b)
 | [], b => leB.refl b
 | w :: l, b => row_le.trans (best_le (l := l))
theorem best_has {i : Nat} (hi : i < n) : ∀ {l : List StackWay} {b : WMap} {w : StackWay}, w ∈ l → keyE E (StackEdge.mk w.fTo sign (i : Int)) → ∃ y, mget (i : Int) (bestF E n sign l b) = some y ∧ y.fCost ≤ (newW E w sign (i : Int)).fCost
 | v :: l, b, w, hw, h => by
  rcases List.mem_cons.1 hw with rfl | hw
  ·obtain ⟨y, h1, h2⟩ := row_has (b := b) h hi
   obtain ⟨z, h3, h4⟩ := best_le (E := E) (n := n) (sign := sign) (l := l) _ _ h1
   exact ⟨z, h3, by omega⟩
  ·exact best_has hi (l := l) hw h
theorem best_all : ∀ {l : List StackWay} {b : WMap}, (∀ u x, mget u b = some x → P u x) → (∀ w ∈ l, ∀ i : Nat, i < n → keyE E (StackEdge.mk w.fTo sign (i : Int)) → P (i : Int) (newW E w sign (i : Int))) → ∀ u x, mget u (bestF E n sign l b) = some x → P u x
 | [], _, hb, _ => hb
 | w :: l, b, hb, hn => best_all (l := l) (row_all hb (hn w List.mem_cons_self)) fun v hv => hn v (List.mem_cons_of_mem _ hv)
theorem item_len : (itemS gc gs b t).length ≤ 2 := by
 unfold itemS
 split
 ·split <;> simp
 ·simp
theorem out_len : ∀ {k : Nat}, (outS gc gs b k).length ≤ 2 * k
 | 0 => Nat.le_refl _
 | k + 1 => by
  rw [outS_succ, List.length_append]
  have h1 : (outS gc gs b k).length ≤ 2 * k := out_len
  have := item_len (gc := gc) (gs := gs) (b := b) (t := (k : Int))
  omega
theorem mem_out {k : Nat} {x : StackWay} : x ∈ outS gc gs b k ↔ ∃ i : Nat, i < k ∧ ∃ y, mget (i : Int) b = some y ∧ (x = y ∨ ((i : Int) = gc ∧ gs = [] ∧ x = StackWay.mk (lstS gs) y.fCost y.fOver)) := by
 unfold outS
 rw [List.mem_flatMap]
 have key : ∀ t : Int, x ∈ itemS gc gs b t ↔ ∃ y, mget t b = some y ∧ (x = y ∨ (t = gc ∧ gs = [] ∧ x = StackWay.mk (lstS gs) y.fCost y.fOver)) := fun t => by
  unfold itemS
  cases hm : mget t b with
  | none => simp
  | some y =>
   rw [if_pos (show (some y).isSome = true from rfl)]
   show x ∈ [y] ++ (if ((t == gc) && ((gs.length : Int) == 0)) = true then [StackWay.mk (lstS gs) y.fCost y.fOver] else []) ↔ _
   by_cases hc : ((t == gc) && ((gs.length : Int) == 0)) = true
   ·rw [if_pos hc]
    rw [Bool.and_eq_true, beq_iff_eq, beq_iff_eq] at hc
    have hz : gs = [] := List.length_eq_zero_iff.1 (by omega)
    simp only [List.mem_append, List.mem_singleton, Option.some.injEq, exists_eq_left']
    exact ⟨fun h => h.imp id fun h => ⟨hc.1, hz, h⟩, fun h => h.imp id fun h => h.2.2⟩
   ·rw [if_neg hc]
    simp only [List.append_nil, List.mem_singleton, Option.some.injEq, exists_eq_left']
    refine ⟨.inl, fun h => h.elim id fun h => absurd ?_ hc⟩
    rw [h.1, h.2.1]
    simp
 exact ⟨fun ⟨i, hi, h⟩ => ⟨i, List.mem_range.1 hi, (key _).1 h⟩, fun ⟨i, hi, h⟩ => ⟨i, List.mem_range.2 hi, (key _).2 h⟩⟩
end
def costE (E : EMap) (e : StackEdge) : Int := ((mget e E).getD kn0).fCost
def sumC (E : EMap) (o : List StackEdge) : Int := (o.map (costE E)).sum
def CostOk (E : EMap) : Prop := ∀ e k, mget e E = some k → 0 ≤ k.fCost ∧ k.fCost ≤ 1099511627776
theorem costE_ok {E : EMap} (h : CostOk E) (e : StackEdge) : 0 ≤ costE E e ∧ costE E e ≤ 1099511627776 := by
 unfold costE
 cases hm : mget e E with
 | none => exact ⟨by decide, by decide⟩
 | some k => exact h e k hm
theorem sumC_app {E : EMap} {a b : List StackEdge} : sumC E (a ++ b) = sumC E a + sumC E b := by
 unfold sumC
 rw [List.map_append, List.sum_append]
theorem sumC_one {E : EMap} {e : StackEdge} : sumC E [e] = costE E e := by
 unfold sumC
 simp
theorem sumC_nn {E : EMap} (h : CostOk E) : ∀ o : List StackEdge, 0 ≤ sumC E o
 | [] => Int.le_refl _
 | e :: o => by
  have h1 := sumC_nn h o
  have h2 := (costE_ok h e).1
  have : sumC E (e :: o) = costE E e + sumC E o := by unfold sumC; simp
  omega
theorem costS_of {a b : Int} (ha : 0 ≤ a ∧ a ≤ 1099511627776) (hb : 0 ≤ b ∧ b ≤ 1099511627776) : costS a b = if 1099511627776 < a + b then 1099511627776 else a + b := by
 unfold costS
 rw [wr_in (by omega) (by omega)]
structure WOk (E : EMap) (n k : Nat) (w : StackWay) : Prop where
 tto : 0 ≤ w.fTo ∧ w.fTo < (n : Int)
 len : w.fOver.length ≤ k
 cost : 0 ≤ w.fCost ∧ w.fCost ≤ 1099511627776
 has : ∀ e ∈ w.fOver, keyE E e
 sum : w.fCost < 1099511627776 → sumC E w.fOver ≤ w.fCost
section
variable {E : EMap} {sign gc : Int} {n k : Nat} {gs : List Int} (hE : CostOk E)
include hE
theorem newW_ok {w : StackWay} {i : Nat} (hw : WOk E n k w) (hi : i < n) (hk : keyE E (StackEdge.mk w.fTo sign (i : Int))) : WOk E n (k + 1) (newW E w sign (i : Int)) := by
 have hc := costE_ok hE (StackEdge.mk w.fTo sign (i : Int))
 have he : (newW E w sign (i : Int)).fCost = if 1099511627776 < w.fCost + costE E (StackEdge.mk w.fTo sign (i : Int)) then 1099511627776 else w.fCost + costE E (StackEdge.mk w.fTo sign (i : Int)) := costS_of hw.cost hc
 have hw1 := hw.cost
 have hl := hw.len
 refine ⟨⟨Int.natCast_nonneg _, by show (i : Int) < (n : Int); omega⟩, ?_, ?_, fun e h => ?_, fun h => ?_⟩
 ·show (w.fOver ++ [_]).length ≤ k + 1
  rw [List.length_append, List.length_singleton]
  omega
 ·rw [he]
  split <;> omega
 ·rcases List.mem_append.1 (show e ∈ w.fOver ++ [_] from h) with h | h
  ·exact hw.has e h
  ·rw [List.mem_singleton] at h
   rw [h]
   exact hk
 ·show sumC E (w.fOver ++ [_]) ≤ _
  rw [sumC_app, sumC_one, he]
  rw [he] at h
  split at h
  ·omega
  ·rename_i h2
   rw [if_neg h2]
   have := hw.sum (by omega)
   omega
theorem step_ok' {l : List StackWay} (hl : ∀ w ∈ l, WOk E (gs.length + 4) k w) : ∀ w ∈ stepW gc gs E l sign, WOk E (gs.length + 4) (k + 1) w := fun x hx => by
 obtain ⟨i, hi, y, hy, h⟩ := mem_out.1 hx
 have hy2 : WOk E (gs.length + 4) (k + 1) y := best_all (P := fun _ y => WOk E (gs.length + 4) (k + 1) y) (fun u x h => by cases h) (fun w hw i hi hk => newW_ok hE (hl w hw) hi hk) _ _ hy
 rcases h with rfl | ⟨_, hz, rfl⟩
 ·exact hy2
 ·exact ⟨⟨by show (0 : Int) ≤ lstS gs; unfold lstS; omega, by show lstS gs < _; unfold lstS; omega⟩, hy2.len, hy2.cost, hy2.has, hy2.sum⟩
theorem fold_ok : ∀ {signs : List Int} {l : List StackWay} {k : Nat}, (∀ w ∈ l, WOk E (gs.length + 4) k w) → ∀ w ∈ signs.foldl (stepW gc gs E) l, WOk E (gs.length + 4) (k + signs.length) w
 | [], _, _, h => h
 | s :: signs, l, k, h => fun w hw => by
  have := fold_ok (signs := signs) (step_ok' hE (sign := s) (gc := gc) h) w hw
  rwa [show k + 1 + signs.length = k + (s :: signs).length by simp only [List.length_cons]; omega] at this
theorem start_ok {fr : Int} (hf : 0 ≤ fr ∧ fr < (gs.length : Int) + 4) : ∀ w ∈ startS gc gs fr, WOk E (gs.length + 4) 0 w := fun w hw => by
 have z : sumC E [] = 0 := rfl
 unfold startS at hw
 rcases List.mem_append.1 hw with hw | hw
 ·rw [List.mem_singleton] at hw
  subst hw
  exact ⟨⟨hf.1, by show fr < _; omega⟩, Nat.le_refl _, ⟨Int.le_refl _, by show (0 : Int) ≤ 1099511627776; decide⟩, (fun e h => by cases h), fun _ => Int.le_refl _⟩
 ·split at hw
  ·rw [List.mem_singleton] at hw
   subst hw
   exact ⟨⟨by show (0 : Int) ≤ lstS gs; unfold lstS; omega, by show lstS gs < _; unfold lstS; omega⟩, Nat.le_refl _, ⟨Int.le_refl _, by show (0 : Int) ≤ 1099511627776; decide⟩, (fun e h => by cases h), fun _ => Int.le_refl _⟩
  ·cases hw
theorem ways_ok' {fr : Int} {signs : List Int} (hf : 0 ≤ fr ∧ fr < (gs.length : Int) + 4) : ∀ w ∈ waysS gc gs E fr signs, WOk E (gs.length + 4) signs.length w := fun w hw => by
 have := fold_ok hE (start_ok hE hf) w hw
 rwa [Nat.zero_add] at this
end
def epsS (gc : Int) (gs : List Int) (a q : Int) : Prop := a = q ∨ (gs = [] ∧ a = gc ∧ q = lstS gs)
def PathC (K : StackEdge → Prop) (gc : Int) (gs : List Int) : Int → List Int → Int → Prop
 | a, [], q => a = q
 | a, s :: r, q => ∃ b, K (StackEdge.mk a s b) ∧ ∃ b', epsS gc gs b b' ∧ PathC K gc gs b' r q
def FullP (K : StackEdge → Prop) (gc : Int) (gs : List Int) (a : Int) (signs : List Int) (q : Int) : Prop := ∃ a', epsS gc gs a a' ∧ PathC K gc gs a' signs q
def keyR (E : EMap) (n : Nat) (e : StackEdge) : Prop := (0 ≤ e.fTo ∧ e.fTo < (n : Int)) ∧ keyE E e
section
variable {K K' : StackEdge → Prop} {gc : Int} {gs : List Int} {E : EMap}
theorem path_mono (h : ∀ e, K e → K' e) : ∀ {signs : List Int} {a q : Int}, PathC K gc gs a signs q → PathC K' gc gs a signs q
 | [], _, _, h1 => h1
 | _ :: _, _, _, ⟨b, h1, b', h2, h3⟩ => ⟨b, h _ h1, b', h2, path_mono h h3⟩
theorem full_mono (h : ∀ e, K e → K' e) {signs : List Int} {a q : Int} (hp : FullP K gc gs a signs q) : FullP K' gc gs a signs q := by
 obtain ⟨a', h1, h2⟩ := hp
 exact ⟨a', h1, path_mono h h2⟩
theorem path_app : ∀ {p r : List Int} {a q : Int}, PathC K gc gs a (p ++ r) q → ∃ m, PathC K gc gs a p m ∧ PathC K gc gs m r q
 | [], _, a, _, h => ⟨a, rfl, h⟩
 | _ :: p, r, _, _, ⟨b, h1, b', h2, h3⟩ => by
  obtain ⟨m, h4, h5⟩ := path_app (p := p) h3
  exact ⟨m, ⟨b, h1, b', h2, h4⟩, h5⟩
theorem step_reach {l : List StackWay} {s q : Int} : (∃ w ∈ stepW gc gs E l s, w.fTo = q) ↔ ∃ w ∈ l, ∃ b, keyR E (gs.length + 4) (StackEdge.mk w.fTo s b) ∧ epsS gc gs b q := by
 have hP : ∀ u x, mget u (bestF E (gs.length + 4) s l []) = some x → x.fTo = u ∧ ∃ w ∈ l, keyE E (StackEdge.mk w.fTo s u) :=
  best_all (P := fun u x => x.fTo = u ∧ ∃ w ∈ l, keyE E (StackEdge.mk w.fTo s u)) (fun u x h => by cases h) (fun w hw i _ hk => ⟨rfl, w, hw, hk⟩)
 constructor
 ·rintro ⟨x, hx, rfl⟩
  obtain ⟨i, hi, y, hy, h⟩ := mem_out.1 hx
  obtain ⟨h1, w, hw, hk⟩ := hP _ _ hy
  refine ⟨w, hw, (i : Int), ⟨⟨Int.natCast_nonneg _, by show (i : Int) < _; omega⟩, hk⟩, ?_⟩
  rcases h with rfl | ⟨e1, e2, rfl⟩
  ·exact .inl h1.symm
  ·exact .inr ⟨e2, e1, rfl⟩
 ·rintro ⟨w, hw, b, ⟨⟨h0, h1⟩, hk⟩, he⟩
  have h0 : 0 ≤ b := h0
  have h1 : b < ((gs.length + 4 : Nat) : Int) := h1
  have hb : ((b.toNat : Nat) : Int) = b := by omega
  obtain ⟨y, hy, _⟩ := best_has (E := E) (n := gs.length + 4) (sign := s) (b := []) (i := b.toNat) (by omega) hw (by rw [hb]; exact hk)
  rw [hb] at hy
  have hy2 := (hP _ _ hy).1
  rcases he with rfl | ⟨e1, e2, e3⟩
  ·exact ⟨y, mem_out.2 ⟨b.toNat, by omega, y, by rw [hb]; exact hy, .inl rfl⟩, hy2⟩
  ·exact ⟨_, mem_out.2 ⟨b.toNat, by omega, y, by rw [hb]; exact hy, .inr ⟨by rw [hb]; exact e2, e1, rfl⟩⟩, e3.symm⟩
theorem fold_reach : ∀ {signs : List Int} {l : List StackWay} {q : Int}, (∃ w ∈ signs.foldl (stepW gc gs E) l, w.fTo = q) ↔ ∃ w ∈ l, PathC (keyR E (gs.length + 4)) gc gs w.fTo signs q
 | [], _, _ => Iff.rfl
 | s :: signs, l, q => by
  rw [List.foldl_cons, fold_reach (signs := signs)]
  constructor
  ·rintro ⟨x, hx, hp⟩
   obtain ⟨w, hw, b, hk, he⟩ := step_reach.1 ⟨x, hx, rfl⟩
   exact ⟨w, hw, b, hk, _, he, hp⟩
  ·rintro ⟨w, hw, b, hk, b', he, hp⟩
   obtain ⟨x, hx, e⟩ := step_reach.2 ⟨w, hw, b, hk, he⟩
   exact ⟨x, hx, by rw [e]; exact hp⟩
theorem start_reach {fr q : Int} : (∃ w ∈ startS gc gs fr, w.fTo = q) ↔ epsS gc gs fr q := by
 unfold startS epsS
 by_cases hc : (((gs.length : Int) == 0) && (fr == gc)) = true
 ·rw [if_pos hc]
  rw [Bool.and_eq_true, beq_iff_eq, beq_iff_eq] at hc
  have hz : gs = [] := List.length_eq_zero_iff.1 (by omega)
  constructor
  ·rintro ⟨w, hw, rfl⟩
   simp only [List.mem_append, List.mem_singleton] at hw
   rcases hw with rfl | rfl
   ·exact .inl rfl
   ·exact .inr ⟨hz, hc.2, rfl⟩
  ·rintro (rfl | ⟨_, _, rfl⟩)
   ·exact ⟨StackWay.mk fr 0 [], by simp, rfl⟩
   ·exact ⟨StackWay.mk (lstS gs) 0 [], by simp, rfl⟩
 ·rw [if_neg hc]
  constructor
  ·rintro ⟨w, hw, rfl⟩
   simp only [List.append_nil, List.mem_singleton] at hw
   subst hw
   exact .inl rfl
  ·rintro (rfl | ⟨h1, h2, _⟩)
   ·exact ⟨StackWay.mk fr 0 [], by simp, rfl⟩
   ·exact absurd (by rw [h1, h2]; simp) hc
theorem ways_iff {fr q : Int} {signs : List Int} : (∃ w ∈ waysS gc gs E fr signs, w.fTo = q) ↔ FullP (keyR E (gs.length + 4)) gc gs fr signs q := by
 unfold waysS
 rw [fold_reach]
 constructor
 ·rintro ⟨w, hw, hp⟩
  exact ⟨w.fTo, start_reach.1 ⟨w, hw, rfl⟩, hp⟩
 ·rintro ⟨a', he, hp⟩
  obtain ⟨w, hw, e⟩ := start_reach.2 he
  exact ⟨w, hw, by rw [e]; exact hp⟩
end
structure ClosedS (l : List ApiPush) (gc : Int) (gs : List Int) (K : StackEdge → Prop) : Prop where
 head : ∀ s, gs[0]? = some s → K (StackEdge.mk gc s 4)
 base : ∀ (i : Nat) s, gs[i]? = some s → K (StackEdge.mk (3 + (i : Int)) s (4 + (i : Int)))
 rule : ∀ r ∈ l, ∀ q, FullP K gc gs r.fTo r.fPut q → K (StackEdge.mk r.fFrom r.fTop q)
def Sat (l : List ApiPush) (gc : Int) (gs : List Int) (e : StackEdge) : Prop := ∀ K, ClosedS l gc gs K → K e
theorem sat_closed (l : List ApiPush) (gc : Int) (gs : List Int) : ClosedS l gc gs (Sat l gc gs) :=
 ⟨fun s h K hK => hK.head s h, fun i s h K hK => hK.base i s h, fun r hr q hp K hK => hK.rule r hr q (full_mono (fun _ he => he K hK) hp)⟩
theorem sat_ahead {l : List ApiPush} {gc : Int} {gs : List Int} {r : ApiPush} (hr : r ∈ l) {rest : List Int} {q : Int} (h : FullP (Sat l gc gs) gc gs r.fTo (r.fPut ++ rest) q) : FullP (Sat l gc gs) gc gs r.fFrom (r.fTop :: rest) q := by
 obtain ⟨a', h1, h2⟩ := h
 obtain ⟨m, h3, h4⟩ := path_app h2
 exact ⟨r.fFrom, .inl rfl, m, (sat_closed l gc gs).rule r hr m ⟨a', h1, h3⟩, m, .inl rfl, h4⟩
structure KOk (m : EMap) (k : StackKnown) : Prop where
 cost : 0 ≤ k.fCost ∧ k.fCost ≤ 1099511627776
 len : k.fOver.length ≤ 2
 ok : k.fRule < 0 ∨ ((∀ x ∈ k.fOver, keyE m x) ∧ (k.fCost < 1099511627776 → sumC m k.fOver + 1 ≤ k.fCost))
def leM (m m' : EMap) : Prop := ∀ e k, mget e m = some k → ∃ k', mget e m' = some k' ∧ k'.fCost ≤ k.fCost
theorem leM.refl (m : EMap) : leM m m := fun _ k h => ⟨k, h, Int.le_refl _⟩
theorem leM.trans {a b c : EMap} (h : leM a b) (h' : leM b c) : leM a c := fun t x hx => by
 obtain ⟨y, h1, h2⟩ := h t x hx
 obtain ⟨z, h3, h4⟩ := h' t y h1
 exact ⟨z, h3, Int.le_trans h4 h2⟩
theorem leM.key {m m' : EMap} (h : leM m m') {e : StackEdge} (he : keyE m e) : keyE m' e := by
 obtain ⟨k, hk⟩ := Option.isSome_iff_exists.1 he
 obtain ⟨k', h1, _⟩ := h e k hk
 unfold keyE
 rw [h1]
 rfl
theorem leM.cost {m m' : EMap} (h : leM m m') {e : StackEdge} (he : keyE m e) : costE m' e ≤ costE m e := by
 obtain ⟨k, hk⟩ := Option.isSome_iff_exists.1 he
 obtain ⟨k', h1, h2⟩ := h e k hk
 unfold costE
 rw [h1, hk]
 exact h2
theorem leM.sum {m m' : EMap} (h : leM m m') : ∀ {o : List StackEdge}, (∀ x ∈ o, keyE m x) → sumC m' o ≤ sumC m o
 | [], _ => Int.le_refl _
 | x :: o, ho => by
  have h1 := h.sum (o := o) fun y hy => ho y (List.mem_cons_of_mem _ hy)
  have h2 := h.cost (ho x List.mem_cons_self)
  have e : ∀ m, sumC m (x :: o) = costE m x + sumC m o := fun m => by unfold sumC; simp
  rw [e, e]
  omega
theorem KOk.mono {m m' : EMap} {k : StackKnown} (h : KOk m k) (hm : leM m m') : KOk m' k := by
 refine ⟨h.cost, h.len, h.ok.imp id fun ⟨h1, h2⟩ => ⟨fun x hx => hm.key (h1 x hx), fun hc => ?_⟩⟩
 have := h2 hc
 have := hm.sum h1
 omega
theorem put_le {m : EMap} {e : StackEdge} {k : StackKnown} (h : ∀ k0, mget e m = some k0 → k.fCost ≤ k0.fCost) : leM m (mput e k m) := fun e' k' hk => by
 rw [mget_put]
 by_cases c : e' = e
 ·subst c
  rw [if_pos rfl]
  exact ⟨k, rfl, h k' hk⟩
 ·rw [if_neg c]
  exact ⟨k', hk, Int.le_refl _⟩
def RngE (n : Nat) (e : StackEdge) : Prop := (0 ≤ e.fFrom ∧ e.fFrom < (n : Int)) ∧ (0 ≤ e.fSign ∧ e.fSign < 3) ∧ 0 ≤ e.fTo ∧ e.fTo < (n : Int)
structure FInv (l : List ApiPush) (gc : Int) (gs : List Int) (m : EMap) : Prop where
 sat : ∀ e k, mget e m = some k → Sat l gc gs e
 ok : ∀ e k, mget e m = some k → KOk m k
 rng : ∀ e k, mget e m = some k → RngE (gs.length + 4) e
theorem FInv.costs {l : List ApiPush} {gc : Int} {gs : List Int} {m : EMap} (h : FInv l gc gs m) : CostOk m := fun e k hk => (h.ok e k hk).cost
theorem FInv.start (l : List ApiPush) (gc : Int) (gs : List Int) : FInv l gc gs [] := ⟨(fun _ _ h => by cases h), (fun _ _ h => by cases h), (fun _ _ h => by cases h)⟩
theorem FInv.put {l : List ApiPush} {gc : Int} {gs : List Int} {m : EMap} {e : StackEdge} {k : StackKnown} (h : FInv l gc gs m) (h1 : Sat l gc gs e) (h2 : RngE (gs.length + 4) e) (h3 : leM m (mput e k m)) (h4 : KOk (mput e k m) k) : FInv l gc gs (mput e k m) := by
 refine ⟨fun e' k' hk => ?_, fun e' k' hk => ?_, fun e' k' hk => ?_⟩
 all_goals
  rw [mget_put] at hk
  by_cases c : e' = e
  ·subst c
   rw [if_pos rfl] at hk
   cases hk
   assumption
  ·rw [if_neg c] at hk
   first | exact h.sat _ _ hk | exact (h.ok _ _ hk).mono h3 | exact h.rng _ _ hk
def allE (n : Nat) : List StackEdge := (List.range n).flatMap fun (a : Nat) => (List.range 3).flatMap fun (b : Nat) => (List.range n).map fun (c : Nat) => StackEdge.mk (a : Int) (b : Int) (c : Int)
def valE (m : EMap) (e : StackEdge) : Nat := match mget e m with
 | none => 1099511627777
 | some k => k.fCost.toNat
def muE (n : Nat) (m : EMap) : Nat := ((allE n).map (valE m)).sum
theorem mem_all {n : Nat} {e : StackEdge} (h : RngE n e) : e ∈ allE n := by
 obtain ⟨⟨h1, h2⟩, ⟨h3, h4⟩, h5, h6⟩ := h
 obtain ⟨a, b, c⟩ := e
 simp only at h1 h2 h3 h4 h5 h6
 unfold allE
 simp only [List.mem_flatMap, List.mem_map, List.mem_range]
 exact ⟨a.toNat, by omega, b.toNat, by omega, c.toNat, by omega, by rw [Int.toNat_of_nonneg h1, Int.toNat_of_nonneg h3, Int.toNat_of_nonneg h5]⟩
theorem sum_lt {α : Type} {f g : α → Nat} : ∀ {l : List α}, (∀ x ∈ l, f x ≤ g x) → (l.map f).sum ≤ (l.map g).sum ∧ ((∃ x ∈ l, f x < g x) → (l.map f).sum < (l.map g).sum)
 | [], _ => ⟨Nat.le_refl _, fun ⟨x, hx, _⟩ => by cases hx⟩
 | y :: l, h => by
  obtain ⟨h1, h2⟩ := sum_lt (l := l) fun x hx => h x (List.mem_cons_of_mem _ hx)
  have h3 := h y List.mem_cons_self
  simp only [List.map_cons, List.sum_cons]
  refine ⟨by omega, fun ⟨x, hx, hl⟩ => ?_⟩
  rcases List.mem_cons.1 hx with rfl | hx
  ·omega
  ·have := h2 ⟨x, hx, hl⟩
   omega
theorem val_le {m m' : EMap} (h : leM m m') (hc : CostOk m') (e : StackEdge) : valE m' e ≤ valE m e := by
 unfold valE
 cases h1 : mget e m with
 | none =>
  cases h2 : mget e m' with
  | none => exact Nat.le_refl _
  | some k => have := hc e k h2; show k.fCost.toNat ≤ 1099511627777; omega
 | some k =>
  obtain ⟨k', h2, h3⟩ := h e k h1
  rw [h2]
  show k'.fCost.toNat ≤ k.fCost.toNat
  omega
theorem mu_put {m : EMap} {n : Nat} {e : StackEdge} {k : StackKnown} (hr : RngE n e) (hc : CostOk (mput e k m)) (h : ∀ k0, mget e m = some k0 → k.fCost < k0.fCost) : muE n (mput e k m) < muE n m := by
 have hle : leM m (mput e k m) := put_le fun k0 h0 => Int.le_of_lt (h k0 h0)
 refine (sum_lt fun x _ => val_le hle hc x).2 ⟨e, mem_all hr, ?_⟩
 have he : mget e (mput e k m) = some k := by rw [mget_put, if_pos rfl]
 have hk := hc e k he
 unfold valE
 rw [he]
 cases h1 : mget e m with
 | none => show k.fCost.toNat < 1099511627777; omega
 | some k0 => have := h k0 h1; show k.fCost.toNat < k0.fCost.toNat; omega
def DoneR (gc : Int) (gs : List Int) (m : EMap) (r : ApiPush) (w : StackWay) : Prop := ∃ k, mget (StackEdge.mk r.fFrom r.fTop w.fTo) m = some k ∧ k.fCost ≤ w.fCost + 1
def Bases (gc : Int) (gs : List Int) (k : Nat) (m : EMap) : Prop := ∀ i : Nat, i < k → ∀ s, gs[i]? = some s → keyE m (StackEdge.mk (3 + (i : Int)) s (4 + (i : Int))) ∧ (i = 0 → keyE m (StackEdge.mk gc s 4))
theorem Bases.mono {gc : Int} {gs : List Int} {k : Nat} {m m' : EMap} (h : Bases gc gs k m) (hm : leM m m') : Bases gc gs k m' := fun i hi s hs => ⟨hm.key (h i hi s hs).1, fun e => hm.key ((h i hi s hs).2 e)⟩
structure FndR (l : List ApiPush) (gc : Int) (gs : List Int) (m : EMap) : Prop where
 inv : FInv l gc gs m
 base : Bases gc gs gs.length m
 done : ∀ r ∈ l, ∀ w ∈ waysS gc gs m r.fTo r.fPut, DoneR gc gs m r w
theorem FndR.closed {l : List ApiPush} {gc : Int} {gs : List Int} {m : EMap} (h : FndR l gc gs m) : ClosedS l gc gs (keyR m (gs.length + 4)) := by
 have hk : ∀ e, keyE m e → keyR m (gs.length + 4) e := fun e he => by
  obtain ⟨k, hk⟩ := Option.isSome_iff_exists.1 he
  exact ⟨(h.inv.rng e k hk).2.2, he⟩
 refine ⟨fun s hs => ?_, fun i s hs => ?_, fun r hr q hp => ?_⟩
 ·have hl := (List.getElem?_eq_some_iff.1 hs).1
  exact hk _ ((h.base 0 hl s hs).2 rfl)
 ·have hl := (List.getElem?_eq_some_iff.1 hs).1
  exact hk _ (h.base i hl s hs).1
 ·obtain ⟨w, hw, rfl⟩ := ways_iff.2 hp
  obtain ⟨k, h1, _⟩ := h.done r hr w hw
  exact hk _ (by unfold keyE; rw [h1]; rfl)
theorem FndR.iff {l : List ApiPush} {gc : Int} {gs : List Int} {m : EMap} (h : FndR l gc gs m) (e : StackEdge) : keyR m (gs.length + 4) e ↔ Sat l gc gs e := by
 refine ⟨fun ⟨_, he⟩ => ?_, fun he => he _ h.closed⟩
 obtain ⟨k, hk⟩ := Option.isSome_iff_exists.1 he
 exact h.inv.sat e k hk
theorem FndR.reach {l : List ApiPush} {gc : Int} {gs : List Int} {m : EMap} (h : FndR l gc gs m) {fr q : Int} {signs : List Int} : (∃ w ∈ waysS gc gs m fr signs, w.fTo = q) ↔ FullP (Sat l gc gs) gc gs fr signs q :=
 ways_iff.trans ⟨full_mono fun e he => (h.iff e).1 he, full_mono fun e he => (h.iff e).2 he⟩
end Go.Proofs.Ytiejmeedkhkfgaa
