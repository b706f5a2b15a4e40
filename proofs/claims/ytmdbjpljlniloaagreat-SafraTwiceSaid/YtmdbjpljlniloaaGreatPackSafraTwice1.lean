/- Lemmas towards the statement: mirrors of functions, and plain laws. No condition. -/
import Derived.WalkKit
import Derived.WalkSpells
import Derived.WalkLawsBesides
import Derived.Lib.Hide
import Derived.Deep.QuietTactic
import Derived.BigQuiet
import Derived.Deep.RegionHeld3
import Derived.Deep.DeepCutAuto
import Derived.StillTailTactics
import Derived.Laws.CopyOwn
import Derived.Outline
import Derived.Laws.AppendOwnNone
import Derived.Test.YtmdbjpljlniloaaGreatProg
import Derived.Maps.OwnOps
import Derived.Maps.RangeRun
import Derived.Maps.RangeWalk
import Derived.Scope
import Derived.Maps.AppendAt
set_option linter.unusedSectionVars false
set_option linter.unusedSimpArgs false
set_option linter.unusedVariables false
namespace Go.Proofs.YtmdbjpljlniloaaGreat
open Go.RowKit Go.MapKept
noncomputable section
abbrev bW := @Sem.run_bind
abbrev sA := @Array.getElem?_eq_some_iff
abbrev jP := @List.flatMap_cons
abbrev mV := @List.getElem?_append_left
abbrev oC := @List.getElem?_append_right
abbrev fk := @Nat.add_mul
abbrev gu := @List.map_cons
abbrev ce := @Result.andThen_ok
abbrev eh := @List.mem_cons
abbrev db := @Sem.run_pure
abbrev jJ := @List.map_append
abbrev cP := @List.mem_map
abbrev cZ := @congrArg
abbrev cg := @List.getElem?_eq_some_iff
abbrev eO := @Option.map_some
abbrev mX := @List.ext_getElem?
abbrev cY := @List.getElem?_map
abbrev mW := @Array.getElem?_toList
abbrev dT := @List.getElem?_set
abbrev dC := @List.mem_of_getElem?
abbrev jI := @List.mem_iff_getElem?
abbrev oR := @Bool.false_ne_true
abbrev oQ := @List.all_cons
abbrev cC := @Bool.and_eq_true
abbrev cI := @List.all_eq_true
abbrev kp := @List.mem_append_left
abbrev oP := @List.mem_filterMap
abbrev fu := @decide_eq_true_eq
abbrev ga := @List.mem_filter
abbrev dq := @List.length_cons
abbrev ft := @Nat.add_assoc
abbrev mU := @Nat.add_comm
abbrev cy := @Nat.zero_le
abbrev dS := @Nat.eq_of_beq_eq_true
abbrev d7 := @List.mem_cons_of_mem
abbrev gz := @Array.getD_eq_getD_getElem?
abbrev gP := @List.getElem?_take
abbrev iC := @List.getElem?_drop
abbrev ru := @List.getElem?_append
abbrev di := @List.length_append
abbrev eU := @List.length_take
abbrev cK := @List.length_set
abbrev dM := @Nat.le_of_ble_eq_true
abbrev fq := @Array.length_toList
abbrev jc := @List.map_congr_left
abbrev gO := @List.mem_append
abbrev dp := @Nat.le_trans
abbrev gv := @Nat.lt_of_lt_of_le
abbrev ko := @List.getElem?_eq_none
abbrev oO := @Array.toList_inj
abbrev iB := @List.getElem?_of_mem
abbrev eG := @Nat.add_zero
abbrev kn := @Nat.eq_zero_or_pos
abbrev km := @Nat.mod_lt
abbrev kk := @List.map_map
abbrev f9 := @List.size_toArray
abbrev bP := @Nat.le_refl
abbrev tW := @Array.getElem?_append_left
abbrev mT := @Bool.true_and
abbrev jb := @List.length_replicate
abbrev mh := @List.getElem?_replicate
abbrev gt := @Nat.zero_add
abbrev mS := @Nat.succ_mul
abbrev ib := @List.mem_flatMap
abbrev cO := @List.getElem?_eq_getElem
abbrev mR := @Nat.div_add_mod
abbrev fE := @List.append_assoc
abbrev f8 := @List.take_of_length_le
abbrev tV := @List.eq_nil_of_length_eq_zero
abbrev dL := @Nat.mul_le_mul_right
abbrev kj := @List.length_drop
abbrev kY := @Nat.add_le_add_left
abbrev mQ := @Nat.min_eq_left
abbrev rt := @Int.mul_le_mul_of_nonneg_left
abbrev jH := @List.any_eq_true
abbrev kg := @List.mem_zipIdx_iff_getElem?
abbrev fD := @List.mem_cons_self
abbrev gN := @List.contains_iff_mem
abbrev oM := @List.nodup_cons
abbrev fc := @Bool.or_eq_true
abbrev d6 := @List.mem_range
abbrev df := @List.length_map
abbrev er := @List.getD_eq_getElem?_getD
abbrev tU := @List.drop_eq_getElem_cons
abbrev mc := @List.not_mem_nil
abbrev mb := @Nat.blt_eq
abbrev oL := @List.any_eq_false
abbrev dK := @List.getElem_mem
abbrev e9 := @Nat.not_lt_zero
abbrev rp := @Decidable.byContradiction
abbrev xn := @Int.fdiv_eq_ediv_of_nonneg
abbrev kX := @Int.eq_ofNat_of_zero_le
abbrev bE := @Int.toNat_natCast
abbrev ca := @of_decide_eq_true
abbrev cx := @of_decide_eq_false
abbrev ia := @List.take_add_one
abbrev dB := @Int.toNat_of_nonneg
abbrev dA := @Nat.lt_or_ge
abbrev ro := @List.getElem?_set_self
abbrev mP := @List.getElem?_set_ne
abbrev et := @List.mem_singleton
abbrev nS := @Int.natCast_add
abbrev g9 := @Int.natCast_mul
abbrev kH := @List.take_length
abbrev nR := @List.getElem_map
abbrev nQ := @List.foldl_append
abbrev gf := @Classical.choose_spec
abbrev jq := @Classical.byContradiction
abbrev g8 := @List.length_range
abbrev nP := @Nat.lt_trichotomy
abbrev cU := @Nat.lt_succ_iff_lt_or_eq
abbrev eN := @Int.le_refl
abbrev dI := @List.length_nil
abbrev nN := @Int.tdiv_eq_ediv_of_nonneg
abbrev mi := @Int.mul_nonneg
abbrev jT := @Bool.or_eq_false_iff
abbrev jp := @Decidable.not_not
abbrev py := @Nat.mul_le_mul_left
abbrev tg := @Int.mul_le_mul_of_nonneg_right
end
end Go.Proofs.YtmdbjpljlniloaaGreat
namespace Go.Proofs.YtmdbjpljlniloaaGreat
open Go.RowKit
set_option maxRecDepth 100000
noncomputable section
class vW {α:Type} (R:World -> Value -> α -> Prop):Prop where
 up:∀ {w w':World} {v:Value} {a:α},R w v a -> Below w.heap.size w w' -> R w' v a
def MH (_:World) (v:Value) (n:Int):Prop:=v=.int .i64 n /\ -9223372036854775808 <= n /\ n <= 9223372036854775807
instance:vW MH:=⟨fun h _=>h⟩
def MK (_:World) (v:Value) (n:Bool):Prop:=v=.bool n
instance:vW MK:=⟨fun h _=>h⟩
def zB {α:Type} (s:Nat) (R:World -> Value -> α -> Prop) (w:World) (v:Value) (l:List α):Prop:=
 ∃ ao n cap,v=.slice ao n cap /\ n=l.length /\ n <= cap /\ cap <= maxLen /\ (ao=none -> cap=0) /\
  ∀ q a,l[q]? = some a -> ∃ b o u,ao=some ⟨b,o,none⟩ /\ R w u a /\ u.cells.size=s /\ ∀ j c,u.cells[j]? = some c -> w.cell? ⟨b,o + q * s + j,none⟩=some c
theorem cell_up {w w':World} {p:Addr} {c:Value} (h:w.cell? p=some c) (hb:Below w.heap.size w w'):w'.cell? p=some c:=
 (hb.cell (World.block_lt_of_cell? w p h)).trans h
instance {α:Type} {s:Nat} {R:World -> Value -> α -> Prop} [vW R]:vW (zB s R):=
 ⟨fun ⟨ao,n,cap,hv,hn,h1,h2,h3,h⟩ hb=>⟨ao,n,cap,hv,hn,h1,h2,h3,fun q a hq =>
  let ⟨b,o,u,hao,hR,hs,hc⟩:=h q a hq
  ⟨b,o,u,hao,vW.up hR hb,hs,fun j c hj=>cell_up (hc j c hj) hb⟩⟩⟩
section
variable {α:Type} {s:Nat} {R:World -> Value -> α -> Prop} {w:World} {l:List α}
end
def bo (P:Program) {α:Type} (e:Sem α):Prop:=(∃ a,∀ w,e.run P w=.ok a w) \/ (∀ w a w1,e.run P w ≠ .ok a w1)
section
variable {P:Program} {α β:Type}
theorem bo.pure (a:α):bo P (Pure.pure a:Sem α):=.inl ⟨a,fun w=>by simp⟩
theorem bo.halt (h:Halt):bo P (.halt h:Sem α):=.inr fun w a w1=>by simp [Sem.run]
theorem bo.stuck (s:String):bo P (Go.stuck s:Sem α):=bo.halt _
theorem bo.unsupported (s:Unsupported):bo P (Go.unsupported s:Sem α):=bo.halt _
theorem bo.bind {e:Sem α} {f:α -> Sem β} (he:bo P e) (hf:∀ a,bo P (f a)):bo P (e >>= f):=by
 rcases he with ⟨a,ha⟩ | hn
 ·rcases hf a with ⟨b,hb⟩ | hn
  ·exact .inl ⟨b,fun w=>by simp [ha,hb]⟩
  ·exact .inr fun w b w1=>by simpa [ha] using hn w b w1
 ·refine .inr fun w b w1=>?_
  rw [bW]
  cases hr:e.run P w with
  | ok a w2=>exact absurd hr (hn w a w2)
  | halt h w2=>simp
theorem bo.prog : bo P Go.program:=.inl ⟨P,fun w=>by simp⟩
theorem xm {c:Prop} [Decidable c] {x y:Sem α} (hx:bo P x) (hy:bo P y):bo P (if c then x else y):=by
 split
 ·exact hx
 ·exact hy
theorem bo.typeInfo (t:TypeId):bo P (Go.typeInfo t):=by
 unfold Go.typeInfo
 refine bo.bind bo.prog fun p=>?_
 split
 ·exact bo.pure _
 ·exact bo.stuck _
theorem bo.underlying (t:TypeId):bo P (Go.underlying t):=by
 unfold Go.underlying
 refine bo.bind bo.prog fun p=>?_
 split
 ·exact bo.pure _
 ·exact bo.stuck _
theorem bo.sizeOf (t:TypeId):bo P (Go.sizeOf t):=by
 unfold Go.sizeOf
 exact bo.bind (bo.typeInfo t) fun _=>bo.pure _
theorem bo.isAgg (t:TypeId):bo P (Go.isAgg t):=by
 unfold Go.isAgg
 refine bo.bind (bo.underlying t) fun _=>?_
 split <;> exact bo.pure _
theorem bo.part (t:TypeId) (cs:Array Value) (off:Nat):bo P (Go.part t cs off):=by
 unfold Go.part
 refine bo.bind (bo.isAgg t) fun _=>?_
 split
 ·exact bo.bind (bo.sizeOf t) fun _=>bo.pure _
 ·split
  ·exact bo.pure _
  ·exact bo.stuck _
theorem kv {e:Sem α} {f:α -> Sem β} (hf:∀ a w b w1,(f a).run P w ≠ .ok b w1):∀ w b w1,(e >>= f).run P w ≠ .ok b w1:=by
 intro w b w1
 rw [bW]
 cases e.run P w with
 | ok a w2=>exact hf a w2 b w1
 | halt h w2=>simp
theorem dG (e:RuntimeError):∀ w a w1,(Go.runtimePanic e:Sem α).run P w ≠ .ok a w1:=by
 unfold Go.runtimePanic
 refine kv fun p=>?_
 intro w a w1
 split
 all_goals first
  | (simp [Go.goPanic]; done)
  | (refine kv ?_ w a w1; intro _ w a w1; first | (simp [Go.goPanic,Sem.run]; done) | (refine kv ?_ w a w1; intro _ w a w1; simp [Go.goPanic]))
theorem pM (k:IntKind) (x y:Int) (c:BoundsCode):∀ w a w1,(Go.boundsPanic k x y c:Sem α).run P w ≠ .ok a w1:=by
 unfold Go.boundsPanic
 dsimp only
 intro w a w1
 split
 ·exact kv (fun s=>dG _) w a w1
 ·exact kv (fun s=>dG _) w a w1
theorem bo.runtimePanic (e:RuntimeError):bo P (Go.runtimePanic e:Sem α):=.inr (dG e)
theorem bo.boundsPanic (k:IntKind) (x y:Int) (c:BoundsCode):bo P (Go.boundsPanic k x y c:Sem α):=.inr (pM k x y c)
theorem bo.asIntOf (v:Value):bo P (Go.asIntOf v):=by
 unfold Go.asIntOf
 split
 ·exact bo.pure _
 ·exact bo.unsupported _
 ·exact bo.stuck _
theorem bo.asBool (v:Value):bo P (Go.asBool v):=by
 unfold Go.asBool
 split
 ·exact bo.pure _
 ·exact bo.stuck _
theorem bo.asAgg (v:Value):bo P (Go.asAgg v):=by
 unfold Go.asAgg
 split
 ·exact bo.pure _
 ·exact bo.stuck _
theorem bo.asAddr (v:Value):bo P (Go.asAddr v):=by
 unfold Go.asAddr
 split
 ·exact bo.pure _
 ·exact bo.runtimePanic _
 ·exact bo.stuck _
theorem bo.sureAddr (v:Value):bo P (Instr.sureAddr v):=by
 unfold Instr.sureAddr
 split
 ·exact bo.pure _
 ·exact bo.stuck _
theorem bo.indexAt (t:TypeId) (x i:Value):bo P (Instr.indexAt t x i):=by
 unfold Instr.indexAt
 dsimp only
 repeat' (first | exact bo.pure _ | exact bo.stuck _ | exact bo.unsupported _ | exact bo.boundsPanic _ _ _ _ | exact bo.runtimePanic _ | exact bo.underlying _ | exact bo.sizeOf _ | exact bo.asIntOf _ | exact bo.asBool _ | exact bo.asAgg _ | exact bo.asAddr _ | exact bo.sureAddr _ | (refine bo.bind ?_ (fun _=>?_)) | split)
theorem bo.sliceBound (v:Value) (y:Nat) (c:BoundsCode):bo P (Instr.sliceBound v y c):=by
 unfold Instr.sliceBound
 dsimp only
 repeat' (first | exact bo.pure _ | exact bo.stuck _ | exact bo.unsupported _ | exact bo.boundsPanic _ _ _ _ | exact bo.runtimePanic _ | exact bo.underlying _ | exact bo.sizeOf _ | exact bo.asIntOf _ | exact bo.asBool _ | exact bo.asAgg _ | exact bo.asAddr _ | exact bo.sureAddr _ | (refine bo.bind ?_ (fun _=>?_)) | split)
theorem bo.sliceBounds (b:Bool) (len cap:Nat) (lo hi mx:Option Value):bo P (Instr.sliceBounds b len cap lo hi mx):=by
 unfold Instr.sliceBounds
 dsimp only
 repeat' (first | exact bo.sliceBound _ _ _ | exact bo.pure _ | exact bo.stuck _ | (refine bo.bind ?_ (fun _=>?_)) | split)
theorem bo.slice (t:TypeId) (x:Value) (lo hi mx:Option Value):bo P (Instr.slice t x lo hi mx):=by
 unfold Instr.slice
 dsimp only
 repeat' (first | exact bo.sliceBounds _ _ _ _ _ _ | exact bo.pure _ | exact bo.stuck _ | exact bo.underlying _ | exact bo.sizeOf _ | exact bo.asAddr _ | (refine bo.bind ?_ (fun _=>?_)) | split)
theorem bo.sliceAt (t:TypeId) (x:Value) (lo hi mx:Option Value):bo P (Instr.sliceAt t x lo hi mx):=by
 unfold Instr.sliceAt
 dsimp only
 repeat' (first | exact bo.slice _ _ _ _ _ | exact bo.sliceBounds _ _ _ _ _ _ | exact bo.pure _ | exact bo.stuck _ | exact bo.underlying _ | exact bo.sizeOf _ | exact bo.sureAddr _ | (refine bo.bind ?_ (fun _=>?_)) | split)
def Gx (P:Program) (s:TypeId):Bool:=match P.underlying s with | some (.struct fs)=>(fs.all fun f=>((P.info? f.type).map (fun i=>i.size != 0)).getD false) | _=>false
theorem bo.fieldAt (s:TypeId) (x:Value) (f:Nat) (hs:Gx P s=true):bo P (Instr.fieldAt s x f):=by
 unfold Gx at hs
 unfold Instr.fieldAt
 rcases bo.underlying (P:=P) s with ⟨d,hd⟩ | hn
 ·have hd':P.underlying s=some d:=by
   have:=hd default
   unfold Go.underlying at this
   simp at this
   split at this <;> simp_all [Go.stuck,Sem.run]
  rw [hd'] at hs
  cases d with
  | struct fs =>
   simp only [Array.all_eq_true_iff_forall_mem] at hs
   suffices h:∀ fl ∈ fs,bo P (Go.fieldPlace ⟨0,0,none⟩ fl) -> True by
    by_cases hf:f < fs.size
    ·have h1:=hs fs[f] (Array.getElem_mem hf)
     cases hi:P.info? fs[f].type with
     | none=>simp [hi] at h1
     | some i =>
      simp [hi] at h1
      rcases bo.sureAddr (P:=P) x with ⟨a,ha⟩ | hn
      ·refine .inl ⟨.pointer (some (a.add fs[f].offset)),fun w=>?_⟩
       simp [hd,hf,ha,Go.fieldPlace,Go.sizeOf,Go.typeInfo,hi,h1]
      ·refine .inr fun w b w1=>?_
       simp [hd,hf]
       cases hr:(Instr.sureAddr x).run P w with
       | ok a w2=>exact absurd hr (hn w a w2)
       | halt h w2=>simp
    ·refine .inr fun w b w1=>?_
     simp [hd,hf,Go.stuck,Sem.run]
   intros; trivial
  | _=>simp at hs
 ·exact .inr (fun w b w1=>by
   rw [bW]
   cases hr:(Go.underlying s).run P w with
   | ok a w2=>exact absurd hr (hn w a w2)
   | halt h w2=>simp)
theorem bo.field (s:TypeId) (x:Value) (f:Nat):bo P (Instr.field s x f):=by
 unfold Instr.field
 refine bo.bind (bo.underlying s) fun d=>?_
 split
 ·split
  ·exact bo.bind (bo.asAgg _) fun _=>bo.part _ _ _
  ·exact bo.stuck _
 ·exact bo.stuck _
theorem bo.index (t:TypeId) (x i:Value):bo P (Instr.index t x i):=by
 unfold Instr.index
 refine bo.bind (bo.asIntOf i) fun ki=>?_
 refine bo.bind (bo.underlying t) fun d=>?_
 split
 ·exact xm (bo.bind (bo.sizeOf _) fun _=>bo.part _ _ _) (bo.boundsPanic _ _ _ _)
 ·split
  ·exact bo.pure _
  ·exact bo.boundsPanic _ _ _ _
 ·exact bo.stuck _
theorem bo.extract (x:Value) (i:Nat):bo P (Instr.extract x i):=by
 unfold Instr.extract
 split
 ·split
  ·exact bo.pure _
  ·exact bo.stuck _
 ·exact bo.stuck _
theorem bo.intArith (op:BinOp) (k:IntKind) (x y:Int):bo P (Op.intArith op k x y):=by
 unfold Op.intArith
 repeat' (first | exact bo.pure _ | exact bo.stuck _ | exact bo.unsupported _ | exact bo.boundsPanic _ _ _ _ | exact bo.runtimePanic _ | exact bo.underlying _ | exact bo.sizeOf _ | exact bo.asIntOf _ | exact bo.asBool _ | exact bo.asAgg _ | exact bo.asAddr _ | exact bo.sureAddr _ | (refine bo.bind ?_ (fun _=>?_)) | split)
theorem bo.intBits (op:BinOp) (k:IntKind) (x y:Int):bo P (Op.intBits op k x y):=by
 unfold Op.intBits
 dsimp only
 repeat' (first | exact bo.pure _ | exact bo.stuck _ | exact bo.unsupported _ | exact bo.boundsPanic _ _ _ _ | exact bo.runtimePanic _ | exact bo.underlying _ | exact bo.sizeOf _ | exact bo.asIntOf _ | exact bo.asBool _ | exact bo.asAgg _ | exact bo.asAddr _ | exact bo.sureAddr _ | (refine bo.bind ?_ (fun _=>?_)) | split)
theorem bo.intCmp (op:BinOp) (x y:Int):bo P (Op.intCmp op x y):=by
 unfold Op.intCmp
 repeat' (first | exact bo.pure _ | exact bo.stuck _ | exact bo.unsupported _ | exact bo.boundsPanic _ _ _ _ | exact bo.runtimePanic _ | exact bo.underlying _ | exact bo.sizeOf _ | exact bo.asIntOf _ | exact bo.asBool _ | exact bo.asAgg _ | exact bo.asAddr _ | exact bo.sureAddr _ | (refine bo.bind ?_ (fun _=>?_)) | split)
theorem bo.intDiv (op:BinOp) (k:IntKind) (x y:Int):bo P (Op.intDiv op k x y):=by
 unfold Op.intDiv
 repeat' (first | exact bo.pure _ | exact bo.stuck _ | exact bo.unsupported _ | exact bo.boundsPanic _ _ _ _ | exact bo.runtimePanic _ | exact bo.underlying _ | exact bo.sizeOf _ | exact bo.asIntOf _ | exact bo.asBool _ | exact bo.asAgg _ | exact bo.asAddr _ | exact bo.sureAddr _ | (refine bo.bind ?_ (fun _=>?_)) | split)
theorem bo.shift (op:BinOp) (k k':IntKind) (x y:Int):bo P (Op.shift op k x k' y):=by
 unfold Op.shift
 dsimp only
 repeat' (first | exact bo.pure _ | exact bo.stuck _ | exact bo.unsupported _ | exact bo.boundsPanic _ _ _ _ | exact bo.runtimePanic _ | exact bo.underlying _ | exact bo.sizeOf _ | exact bo.asIntOf _ | exact bo.asBool _ | exact bo.asAgg _ | exact bo.asAddr _ | exact bo.sureAddr _ | (refine bo.bind ?_ (fun _=>?_)) | split)
theorem bo.unary (op:UnOp) (x:Value):bo P (Op.unary op x):=by
 unfold Op.unary
 repeat' (first | exact bo.intArith _ _ _ _ | exact bo.intBits _ _ _ _ | exact bo.pure _ | exact bo.stuck _ | exact bo.unsupported _ | split)
theorem zP (op:BinOp) (t:TypeId) (k k':IntKind) (x y:Int):bo P (Go.binOp op t (.int k x) (.int k' y)):=by
 cases op <;> simp only [Go.binOp] <;>
  repeat' (first | exact bo.shift _ _ _ _ _ | exact bo.intArith _ _ _ _ | exact bo.intBits _ _ _ _ | exact bo.intCmp _ _ _ | exact bo.intDiv _ _ _ _ | exact bo.stuck _ | refine xm ?_ ?_)
end
section
variable {P:Program} {ops:Array Oper} {md:Region.Mode}
inductive zF where
 | done
 | stop
 | soft (L:List Nat) (p:zF)
 | alt (i:Nat) (p q:zF)
end
theorem yI {us:List Value} {s:Nat} (hs:∀ u ∈ us,u.cells.size=s):∀ {q j:Nat} {u:Value} {c:Value},us[q]? = some u -> u.cells[j]? = some c -> (us.flatMap (·.cells.toList))[q * s + j]? = some c:=by
 induction us with
 | nil=>intro q j u c h; simp at h
 | cons u0 us ih =>
  intro q j u c hq hj
  have h0:u0.cells.toList.length=s:=by simpa using hs u0 (by simp)
  have hjs:j < u.cells.size:=(sA.1 hj).1
  rw [jP]
  cases q with
  | zero =>
   simp at hq
   subst hq
   rw [mV (by simp; omega)]
   simpa using hj
  | succ q =>
   have hus:∀ u ∈ us,u.cells.size=s:=fun u hu=>hs u (by simp [hu])
   rw [oC (by rw [h0,fk]; omega),h0]
   have:(q + 1) * s + j - s=q * s + j:=by rw [fk]; omega
   rw [this]
   exact ih hus (by simpa using hq) hj
def Ca (w:World) (s:Nat) (x:Value) (m:Nat) (news:List Value):Prop:=
 ∃ ao c,x=.slice ao m c /\ (ao=none -> c=0 /\ m=0) /\ news.length=m * s /\ (∀ j u,news[j]? = some u -> ∃ b o,ao=some ⟨b,o,none⟩ /\ w.cell? ⟨b,o + j,none⟩=some u) /\ ∀ u ∈ news,u.oneCell'=true
section
variable {P:Program} {w:World} {ops:Array Oper} {rest:List Oper} {o:Oper} {a:Act} {Q:Exit -> Act -> World -> Prop}
end
end
end Go.Proofs.YtmdbjpljlniloaaGreat
namespace Go.Proofs.YtmdbjpljlniloaaGreat
open Go.RowKit Go.ChangeMaps Go.MapKept
set_option maxRecDepth 100000
noncomputable section
structure kG {κ:Type} [DecidableEq κ] (kt:TypeId) (enc:κ -> Value):Prop where
 check:∀ (b:Bool) (a:κ) w,(Instr.checkKey b 10000 kt (enc a)).run Tryz.prog w=.ok () w
 bits:∀ a,Instr.sameBits 10000 (enc a) (enc a)=true
 now:∃ d,Tryz.prog.underlying kt=some d /\ ((∀ a b,Instr.sameNow d (enc a) (enc b)=none) \/ ∀ a b,Instr.sameNow d (enc a) (enc b)=some (decide (a=b)))
 equal:∀ (a b:κ) w,(Op.equal kt (enc a) (enc b)).run Tryz.prog w=.ok (decide (a=b)) w
section
variable {κ:Type} [DecidableEq κ] {kt:TypeId} {enc:κ -> Value}
def fN (a:κ):List (κ × Value) -> Nat -> Option (Nat × Value)
 | [],_=>none
 | x :: D,i=>if a=x.1 then some (i,x.2) else fN a D (i + 1)
def AC (a:κ) (D:List (κ × Value)):Option Value:=(fN a D 0).map (·.2)
theorem nb (K:kG kt enc) (a:κ) (w:World):∀ (es:List MapEntry) (D:List (κ × Value)) (i:Nat),es.map (fun e=>(e.key,e.val))=D.map (fun x=>(enc x.1,x.2)) -> (Instr.findAsking kt (enc a) es i).run Tryz.prog w=.ok (fN a D i) w
 | [],[],i,_=>by simp [Instr.findAsking,fN]
 | [],_ :: _,_,h=>by simp at h
 | _ :: _,[],_,h=>by simp at h
 | e :: es,x :: D,i,h=>by
  simp only [gu,List.cons.injEq,Prod.mk.injEq] at h
  obtain ⟨⟨h1,h2⟩,h3⟩:=h
  have ih:=nb K a w es D (i + 1) h3
  simp only [Instr.findAsking,h1,h2,bW,K.equal,ce,fN]
  by_cases e:a=x.1
  ·simp [e]
  ·simp [e,ih]
theorem yJ {d:TypeDesc} (a:κ) (hn:∀ a b,Instr.sameNow d (enc a) (enc b)=none):∀ (es:List MapEntry) (D:List (κ × Value)) (i:Nat),es.map (fun e=>(e.key,e.val))=D.map (fun x=>(enc x.1,x.2)) -> Instr.findNow d (enc a) es i=some (fN a D i) \/ Instr.findNow d (enc a) es i=none
 | [],[],i,_=>.inl (by simp [Instr.findNow,fN])
 | [],_ :: _,_,h=>by simp at h
 | _ :: _,[],_,h=>by simp at h
 | e :: es,x :: D,i,h=>by
  simp only [gu,List.cons.injEq,Prod.mk.injEq] at h
  exact .inr (by simp [Instr.findNow,h.1.1,hn])
theorem pV {d:TypeDesc} (a:κ) (hn:∀ a b,Instr.sameNow d (enc a) (enc b)=some (decide (a=b))):∀ (es:List MapEntry) (D:List (κ × Value)) (i:Nat),es.map (fun e=>(e.key,e.val))=D.map (fun x=>(enc x.1,x.2)) -> Instr.findNow d (enc a) es i=some (fN a D i)
 | [],[],i,_=>by simp [Instr.findNow,fN]
 | [],_ :: _,_,h=>by simp at h
 | _ :: _,[],_,h=>by simp at h
 | e :: es,x :: D,i,h=>by
  simp only [gu,List.cons.injEq,Prod.mk.injEq] at h
  have ih:=pV a hn es D (i + 1) h.2
  by_cases e:a=x.1
  ·simp [Instr.findNow,h.1.1,h.1.2,hn,fN,e]
  ·simp [Instr.findNow,h.1.1,hn,fN,e,ih]
theorem sE (K:kG kt enc) (a:κ) (w:World) (es:List MapEntry) (D:List (κ × Value)) (h:es.map (fun e=>(e.key,e.val))=D.map (fun x=>(enc x.1,x.2))):(Instr.findKey kt (enc a) es).run Tryz.prog w=.ok (fN a D 0) w:=by
 obtain ⟨d,hd,hn⟩:=K.now
 have hu:(Go.underlying kt).run Tryz.prog w=.ok d w:=run_underlying hd w
 simp only [Instr.findKey,bW,hu,ce]
 rcases hn with hn | hn
 ·rcases yJ a hn es D 0 h with e | e
  ·rw [e]; simp
  ·rw [e]; exact nb K a w es D 0 h
 ·rw [pV a hn es D 0 h]; simp
def mH (enc:κ -> Value) (w:World) (m:Nat) (D:List (κ × Value)):Prop:=
 ∃ (es:Array MapEntry) (clock:Nat),w.heap[m]? = some (.map es clock) /\ es.toList.map (fun e=>(e.key,e.val))=D.map (fun x=>(enc x.1,x.2)) /\ (D.map (·.1)).Nodup /\ (es.toList.map (·.born)).Pairwise (· < ·) /\ ∀ e ∈ es.toList,e.born < clock
theorem mH.lt {w:World} {m:Nat} {D:List (κ × Value)} (h:mH enc w m D):m < w.heap.size:=by
 obtain ⟨es,clock,h1,_⟩:=h
 exact (sA.1 h1).1
def o6 (a:κ) (v:Value):List (κ × Value) -> List (κ × Value)
 | []=>[(a,v)]
 | x :: D=>if a=x.1 then (a,v) :: D else x :: o6 a v D
theorem pW {a:κ}:∀ {D:List (κ × Value)} {i j:Nat} {v:Value},fN a D i=some (j,v) -> i <= j /\ D[j - i]? = some (a,v)
 | [],i,j,v,h=>by simp [fN] at h
 | x :: D,i,j,v,h=>by
  unfold fN at h
  split at h
  ·rename_i e
   simp at h
   obtain ⟨rfl,rfl⟩:=h
   simp [e]
  ·obtain ⟨h1,h2⟩:=pW h
   refine ⟨by omega,?_⟩
   rw [show j - i=(j - (i + 1)) + 1 from by omega]
   simpa using h2
theorem uW {a:κ}:∀ {D:List (κ × Value)} {i:Nat},fN a D i=none ↔ a ∉ D.map (·.1)
 | [],i=>by simp [fN]
 | x :: D,i=>by
  unfold fN
  split
  ·rename_i e
   simp [e]
  ·rename_i e
   rw [uW]
   simp [e]
theorem wx {a:κ} {v:Value}:∀ {D:List (κ × Value)},a ∉ D.map (·.1) -> o6 a v D=D ++ [(a,v)]
 | [],_=>rfl
 | x :: D,h=>by
  simp only [gu,eh,not_or] at h
  rw [o6,if_neg h.1,wx h.2]
  rfl
theorem ww {a:κ} {v:Value}:∀ {D:List (κ × Value)} {i j:Nat} {u:Value},fN a D i=some (j,u) -> o6 a v D=D.set (j - i) (a,v)
 | [],i,j,u,h=>by simp [fN] at h
 | x :: D,i,j,u,h=>by
  have hj:=(pW h).1
  unfold fN at h
  rw [o6]
  split at h
  ·rename_i e
   simp at h
   obtain ⟨rfl,rfl⟩:=h
   rw [if_pos e]
   simp
  ·rename_i e
   have hj2:=(pW h).1
   rw [if_neg e,ww h,show j - i=(j - (i + 1)) + 1 from by omega]
   rfl
theorem wy {a:κ} {v:Value} {D:List (κ × Value)}:(o6 a v D).map (·.1)=if a ∈ D.map (·.1) then D.map (·.1) else D.map (·.1) ++ [a]:=by
 induction D with
 | nil=>simp [o6]
 | cons x D ih =>
  rw [o6]
  split
  ·rename_i e
   simp [e]
  ·rename_i e
   rw [gu,ih]
   by_cases h:a ∈ D.map (·.1)
   ·rw [if_pos h,if_pos (by simp [h])]; simp
   ·rw [if_neg h,if_neg (by simp [e]; simpa using h)]; simp
def Hh (ok:Bool) (z:Value) (r:Option Value):Value:=if ok then .tuple #[r.getD z, .bool r.isSome] else r.getD z
theorem mH.look (K:kG kt enc) {w:World} {m:Nat} {D:List (κ × Value)} (h:mH enc w m D) {t e:TypeId} {z:Value} (ht:Tryz.prog.underlying t=some (.map kt e)) (hz:∀ w,(zeroValue e).run Tryz.prog w=.ok z w) (a:κ) (ok:Bool) :
  (Instr.lookup t (.map (some m)) (enc a) ok).run Tryz.prog w=.ok (Hh ok z (AC a D)) w:=by
 obtain ⟨es,clock,h1,h2,_⟩:=h
 have hu:(Go.underlying t).run Tryz.prog w=.ok (.map kt e) w:=run_underlying ht w
 have hf:=sE K a w es.toList D h2
 simp only [Instr.lookup,bW,hu,ce,getObj,Sem.run,h1,K.check,hf,db]
 unfold Hh AC
 cases fN a D 0 with
 | none=>simp only [hz,bW,ce,db]; cases ok <;> rfl
 | some x=>simp only [db,ce]; cases ok <;> rfl
theorem mH.put (K:kG kt enc) {w:World} {m:Nat} {D:List (κ × Value)} (h:mH enc w m D) {t e:TypeId} (ht:Tryz.prog.underlying t=some (.map kt e)) (a:κ) (v:Value) :
  ∃ w',(Instr.mapUpdate t (.map (some m)) (enc a) v).run Tryz.prog w=.ok () w' /\ mH enc w' m (o6 a v D) /\ w.grownBy w' (some m):=by
 obtain ⟨es,clock,h1,h2,h3,h4,h5⟩:=h
 have hu:(Go.underlying t).run Tryz.prog w=.ok (.map kt e) w:=run_underlying ht w
 have hf:=sE K a w es.toList D h2
 have hlt:=(sA.1 h1).1
 have hset:∀ o,(setObj m o).run Tryz.prog w=.ok () (setBlock w m o):=fun o=>by simp [setObj,Sem.run,h1,setBlock]
 have hgr:∀ o,w.grownBy (setBlock w m o) (some m):=fun o=>⟨rfl,rfl,rfl,by simp [setBlock],fun i _ hi=>heap_setBlock_other h1 _ (fun e=>hi (by rw [e]))⟩
 cases hfd:fN a D 0 with
 | none =>
  rw [hfd] at hf
  have hn:=uW.1 hfd
  refine ⟨setBlock w m (.map (es.push { key:=enc a,val:=v,born:=clock }) (clock + 1)),?_,⟨_,_,heap_setBlock_same h1 _,?_,?_,?_,?_⟩,hgr _⟩
  ·simp only [Instr.mapUpdate,bW,hu,ce,getObj,Sem.run,h1,K.check,hf,hset]
  ·rw [wx hn]
   simp [h2]
  ·rw [wy,if_neg hn,List.nodup_append]
   exact ⟨h3,by simp,fun x hx y hy=>by simp at hy; subst hy; exact fun e=>hn (e ▸ hx)⟩
  ·simp only [Array.toList_push,jJ,gu,List.map_nil]
   rw [List.pairwise_append]
   exact ⟨h4,by simp,fun x hx y hy=>by
    simp at hy
    subst hy
    obtain ⟨e,he,rfl⟩:=cP.1 hx
    exact h5 e he⟩
  ·intro x hx
   simp at hx
   rcases hx with hx | rfl
   ·have:=h5 x (by simpa using hx); omega
   ·simp
 | some y =>
  obtain ⟨i,u⟩:=y
  rw [hfd] at hf
  obtain ⟨_,hD⟩:=pW hfd
  rw [Nat.sub_zero] at hD
  have hi:i < es.size:=by
   have e1:=cZ List.length h2
   simp at e1
   have:=(cg.1 hD).1
   omega
  have he:es[i]? = some es[i]:=by simp [hi]
  have hk:es[i].key=enc a:=by
   have:=cZ (·[i]?) h2
   simp [hi,hD] at this
   exact this.1
  refine ⟨setBlock w m (.map (es.modify i fun e=>{ e with key:=enc a,val:=v }) clock),?_,⟨_,_,heap_setBlock_same h1 _,?_,?_,?_,?_⟩,hgr _⟩
  ·simp only [Instr.mapUpdate,bW,hu,ce,getObj,Sem.run,h1,K.check,hf,he,eO,Option.getD_some,hk,Instr.keyThatStays,K.bits,if_true,db,hset]
  ·rw [ww hfd,Nat.sub_zero]
   apply mX
   intro j
   have hj:=cZ (·[j]?) h2
   simp only [cY,mW] at hj ⊢
   rw [Array.getElem?_modify,dT]
   by_cases e:i=j
   ·subst e
    simp [hi,(cg.1 hD).1]
   ·rw [if_neg e,if_neg e]
    exact hj
  ·rw [wy,if_pos]
   ·exact h3
   ·exact cP.2 ⟨_,dC hD,rfl⟩
  ·have:(es.modify i fun e=>{ e with key:=enc a,val:=v }).toList.map (·.born)=es.toList.map (·.born):=by
    apply mX
    intro j
    simp only [cY,mW,Array.getElem?_modify]
    split
    ·rename_i e; subst e; simp [hi]
    ·rfl
   rw [this]
   exact h4
  ·intro x hx
   obtain ⟨j,hj⟩:=jI.1 hx
   rw [mW,Array.getElem?_modify] at hj
   split at hj
   ·rename_i e
    simp at hj
    obtain ⟨y,hy,rfl⟩:=hj
    exact h5 y (dC (by rw [mW]; exact hy))
   ·exact h5 x (dC (by rw [mW]; exact hj))
def vo (enc:κ -> Value) (w:World) (r m:Nat) (D left:List (κ × Value)) (cur:Option (κ × Value)):Prop:=
 r ≠ m /\ ∃ (es:Array MapEntry) (clock:Nat) (seen:Array Nat),w.heap[m]? = some (.map es clock) /\ es.toList.map (fun e=>(e.key,e.val))=D.map (fun x=>(enc x.1,x.2)) /\ (D.map (·.1)).Nodup /\ (es.toList.map (·.born)).Pairwise (· < ·) /\ (∀ e ∈ es.toList,e.born < clock) /\
  w.heap[r]? = some (.mapIter (some m) clock seen clock) /\ (leftOf es seen).toList.map (fun e=>(e.key,e.val))=left.map (fun x=>(enc x.1,x.2)) /\ (∀ x,cur=some x -> ∃ e ∈ es.toList,∃ s:Array Nat,seen=s.push e.born /\ e.key=enc x.1 /\ e.val=x.2) /\ ∀ x ∈ left,x ∈ D
theorem vo.kept {w w':World} {r m:Nat} {D left:List (κ × Value)} {cur:Option (κ × Value)} (h:vo enc w r m D left cur) (h1':w'.heap[m]? = w.heap[m]?) (h2':w'.heap[r]? = w.heap[r]?):vo enc w' r m D left cur:=by
 obtain ⟨h0,es,clock,seen,h1,h2,h3,h4,h5,h6,h7⟩:=h
 exact ⟨h0,es,clock,seen,h1'.trans h1,h2,h3,h4,h5,h2'.trans h6,h7⟩
theorem vo.lt {w:World} {r m:Nat} {D left:List (κ × Value)} {cur:Option (κ × Value)} (h:vo enc w r m D left cur):r < w.heap.size:=by
 obtain ⟨h0,es,clock,seen,h1,h2,h3,h4,h5,h6,h7⟩:=h
 exact (sA.1 h6).1
end
end
end Go.Proofs.YtmdbjpljlniloaaGreat
namespace Go.Proofs.YtmdbjpljlniloaaGreat
open Go.RowKit Go.MapKept
set_option maxRecDepth 100000
noncomputable section
def il (B:Nat) (w0 w:World):Prop:=∀ (i:Nat) (c:Array Value) (e:TypeId) (fr:Nat × Nat),i < B -> w0.heap[i]? = some (.cells c e fr) -> w.heap[i]? = some (.cells c e fr)
theorem il.refl (B:Nat) (w:World):il B w w:=fun _ _ _ _ _ h=>h
theorem il.cell {B:Nat} {w0 w:World} (h:il B w0 w) {a:Addr} (ha:a.block < B) {c:Array Value} {e:TypeId} {fr:Nat × Nat} (hg:w0.heap[a.block]? = some (.cells c e fr)):w.cell? a=w0.cell? a:=
 World.cell?_of_block (w:=w0) (w':=w) (a:=a) ((h _ c e fr ha hg).trans hg.symm)
namespace RM
section
variable {P:Program} {ops:Array Oper} {md:Region.Mode}
def oW (P:Program):Op -> Bool
 | .move _ | .assign _ | .pick _ _ _ | .extract _ _ | .field _ _ _ | .index _ _ _ | .indexAddr _ _ _ | .slice _ _ _ _ _ | .unOp _ _ _=>true
 | .fieldAddr s _ _=>Gx P s
 | .binOp _ _ _ _ _ | .load _ _ | .nilCheck _=>true
 | .call { callee:=.builtin .len,args, .. }=>args.size == 1
 | _=>false
def JV : Value -> Prop | .int _ _=>True | _=>False
def slV : Value -> Prop | .slice _ _ _=>True | .string _=>True | _=>False
def L9 : Value -> Prop | .pointer _=>True | _=>False
def lowV (B:Nat) (w0:World):Value -> Prop | .pointer (some p)=>p.block < B /\ (w0.cell? p).isSome=true | _=>False
def side (B:Nat) (w0:World) (ρ:Operand -> Value):Op -> Prop
 | .binOp _ _ x y _=>JV (ρ x) /\ JV (ρ y)
 | .load _ x=>lowV B w0 (ρ x)
 | .nilCheck x=>L9 (ρ x)
 | .call { callee:=.builtin .len,args, .. }=>∀ x ∈ args.toList,slV (ρ x)
 | _=>True
def n6 : Op -> Bool
 | .binOp _ _ _ _ _ | .load _ _ | .nilCheck _ | .call _=>true
 | _=>false
theorem xV {e:Sem Value} (h:bo P e) {w w1:World} {n:Next} (hr:(do pure (.value (<- e)):Sem Next).run P w=.ok n w1) :
  w1=w /\ ∃ v,n=.value v /\ ∀ w',(do pure (.value (<- e)):Sem Next).run P w'=.ok (.value v) w':=by
 rcases h with ⟨a,ha⟩ | hn
 ·simp [ha] at hr
  exact ⟨hr.2.symm,a,hr.1.symm,fun w'=>by simp [ha]⟩
 ·exfalso
  rw [bW] at hr
  cases hx:e.run P w with
  | ok a w2=>exact hn _ _ _ hx
  | halt x w2=>simp [hx] at hr
theorem uL {B:Nat} {w0 w w':World} (h:il B w0 w) (h':il B w0 w') {a:Addr} (ha:a.block < B) {c:Array Value} {e:TypeId} {fr:Nat × Nat} (hg:w0.heap[a.block]? = some (.cells c e fr))
  {r:Value} {w1:World} (hr:(Go.load a).run P w=.ok r w1):w1=w /\ (Go.load a).run P w'=.ok r w':=by
 have e1:w'.cell? a=w.cell? a:=(h'.cell ha hg).trans (h.cell ha hg).symm
 have hblk:w.heap[a.block]? = some (.cells c e fr):=h _ c e fr ha hg
 simp only [Go.load,Sem.run] at hr ⊢
 rw [e1]
 cases hc:w.cell? a with
 | some v=>simp only [hc,Result.ok.injEq] at hr ⊢; exact ⟨hr.2.symm,hr.1,trivial⟩
 | none=>simp [hc,World.farLoad,hblk] at hr
theorem sX {B:Nat} {w0 w w':World} (h:il B w0 w) (h':il B w0 w') {a:Addr} (ha:a.block < B) {c:Array Value} {e:TypeId} {fr:Nat × Nat} (hg:w0.heap[a.block]? = some (.cells c e fr)) :
  ∀ (n i:Nat) (acc:Array Value) (r:Array Value) (w1:World),(loadCellsFrom a i n acc).run P w=.ok r w1 -> w1=w /\ (loadCellsFrom a i n acc).run P w'=.ok r w':=by
 intro n
 induction n with
 | zero=>intro i acc r w1 hr; simp [loadCellsFrom] at hr ⊢; exact ⟨hr.2.symm,hr.1⟩
 | succ n ih =>
  intro i acc r w1 hr
  have hbk:(a.add i).block=a.block:=by unfold Addr.add; split <;> rfl
  simp only [loadCellsFrom,bW] at hr ⊢
  cases hx:(Go.load (a.add i)).run P w with
  | ok v w2 =>
   obtain ⟨rfl,hx'⟩:=uL (P:=P) h h' (a:=a.add i) (by rw [hbk]; exact ha) (by rw [hbk]; exact hg) hx
   simp only [hx,hx',ce] at hr ⊢
   exact ih _ _ _ _ hr
  | halt x w2=>simp [hx] at hr
theorem yx {B:Nat} {w0 w w':World} (h:il B w0 w) (h':il B w0 w') {t:TypeId} {x:Value} (hx:lowV B w0 x) {r:Value} {w1:World}
  (hr:(Instr.loadAt t x).run P w=.ok r w1):w1=w /\ (Instr.loadAt t x).run P w'=.ok r w':=by
 unfold lowV at hx
 split at hx
 ·rename_i a
  obtain ⟨ha,hs⟩:=hx
  obtain ⟨u,hu⟩:=Option.isSome_iff_exists.1 hs
  have:∃ c e fr,w0.heap[a.block]? = some (.cells c e fr):=by
   unfold World.cell? at hu
   split at hu
   ·rename_i c e fr hg; exact ⟨c,e,fr,hg⟩
   ·cases hu
  obtain ⟨c,e,fr,hg⟩:=this
  simp only [Instr.loadAt,Instr.sureAddr,loadVar,bW,db,ce] at hr ⊢
  rcases bo.isAgg (P:=P) t with ⟨b,hb⟩ | hn
  ·simp only [hb,ce] at hr ⊢
   cases b with
   | true =>
    simp only [if_true,bW] at hr ⊢
    rcases bo.sizeOf (P:=P) t with ⟨n,hn⟩ | hn
    ·simp only [hn,ce,loadCells] at hr ⊢
     cases hl:(loadCellsFrom a 0 n #[]).run P w with
     | ok v w2 =>
      obtain ⟨rfl,hl'⟩:=sX (P:=P) h h' ha hg n 0 #[] v w2 hl
      simp [hl,hl'] at hr ⊢
      exact ⟨hr.2.symm,hr.1⟩
     | halt x w2=>simp [hl] at hr
    ·exfalso
     cases hz:(Go.sizeOf t).run P w with
     | ok n w2=>exact hn _ _ _ hz
     | halt x w2=>simp [hz] at hr
   | false =>
    simp only [Bool.false_eq_true,if_false] at hr ⊢
    exact uL h h' ha hg hr
  ·exfalso
   cases hz:(Go.isAgg t).run P w with
   | ok n w2=>exact hn _ _ _ hz
   | halt x w2=>simp [hz] at hr
 ·exact hx.elim
theorem zZ {B:Nat} {w0 w w' w1:World} (h:il B w0 w) (h':il B w0 w') {ρ:Operand -> Value} {o:Oper} (hs:oW P o.op=true) (hd:side B w0 ρ o.op) {n:Next}
  (hr:(execOp ρ o).run P w=.ok n w1):w1=w /\ ∃ v,n=.value v /\ (execOp ρ o).run P w'=.ok (.value v) w':=by
 have fin:∀ {e:Sem Value},bo P e -> (∀ w,(execOp ρ o).run P w=(do pure (.value (<- e)):Sem Next).run P w) -> w1=w /\ ∃ v,n=.value v /\ (execOp ρ o).run P w'=.ok (.value v) w':=fun hb he=>by
  rw [he] at hr ⊢
  obtain ⟨e1,v,e2,e3⟩:=xV hb hr
  exact ⟨e1,v,e2,e3 w'⟩
 obtain ⟨dst,op,type,pos,after,guard⟩:=o
 cases op <;> simp only [oW,Bool.false_eq_true] at hs <;> simp only [side] at hd
 case move x=>simp [execOp] at hr ⊢; exact ⟨hr.2.symm,hr.1.symm⟩
 case assign x=>simp [execOp] at hr ⊢; exact ⟨hr.2.symm,hr.1.symm⟩
 case pick c a b =>
  simp only [execOp,bW] at hr ⊢
  rcases bo.asBool (P:=P) (ρ c) with ⟨v,hv⟩ | hn
  ·simp [hv] at hr ⊢; exact ⟨hr.2.symm,hr.1.symm⟩
  ·exfalso
   cases hz:(Go.asBool (ρ c)).run P w with
   | ok n w2=>exact hn _ _ _ hz
   | halt x w2=>simp [hz] at hr
 case extract=>exact fin (bo.extract _ _) (fun _=>rfl)
 case field=>exact fin (bo.field _ _ _) (fun _=>rfl)
 case index=>exact fin (bo.index _ _ _) (fun _=>rfl)
 case indexAddr=>exact fin (bo.indexAt _ _ _) (fun _=>rfl)
 case slice=>exact fin (bo.sliceAt _ _ _ _ _) (fun _=>rfl)
 case unOp=>exact fin (bo.unary _ _) (fun _=>rfl)
 case fieldAddr s x f=>exact fin (bo.fieldAt s _ f hs) (fun _=>rfl)
 case nilCheck x =>
  simp only [execOp] at hr ⊢
  generalize ρ x=v at *
  cases v <;> simp only [L9] at hd
  rename_i p
  cases p with
  | none=>exact absurd hr (dG _ _ _ _)
  | some p=>simp at hr ⊢; exact ⟨hr.2.symm,hr.1.symm⟩
 case binOp op t x y yt =>
  obtain ⟨hx,hy⟩:=hd
  refine fin (e:=do eqGuard op t x y (ρ x) (ρ y); binOp op t (ρ x) (ρ y)) ?_ (fun _=>rfl)
  generalize ρ x=vx at *
  generalize ρ y=vy at *
  cases vx <;> simp only [JV] at hx
  cases vy <;> simp only [JV] at hy
  refine bo.bind ?_ fun _=>zP _ _ _ _ _ _
  unfold eqGuard
  dsimp only
  repeat' (first | exact bo.pure _ | exact bo.stuck _ | exact bo.unsupported _ | exact bo.boundsPanic _ _ _ _ | exact bo.runtimePanic _ | exact bo.underlying _ | exact bo.sizeOf _ | exact bo.asIntOf _ | exact bo.asBool _ | exact bo.asAgg _ | exact bo.asAddr _ | exact bo.sureAddr _ | (refine bo.bind ?_ (fun _=>?_)) | split)
 case load t x =>
  simp only [execOp,bW] at hr ⊢
  cases hl:(Instr.loadAt t (ρ x)).run P w with
  | ok v w2 =>
   obtain ⟨rfl,hl'⟩:=yx (P:=P) h h' hd hl
   simp [hl,hl'] at hr ⊢
   exact ⟨hr.2.symm,hr.1.symm⟩
  | halt x w2=>simp [hl] at hr
 case call c =>
  obtain ⟨callee,args,argTypes⟩:=c
  cases callee <;> first | exact absurd hs oR | skip
  rename_i b
  cases b <;> first | exact absurd hs oR | skip
  have hs:args.size=1:=by simpa using hs
  have:∃ x,args = #[x]:=by
   have:args.toList.length=1:=by simpa using hs
   match h:args.toList,this with
   | [x],_=>exact ⟨x,by rw [<- Array.toArray_toList (xs:=args),h]⟩
  obtain ⟨x,rfl⟩:=this
  have hd':slV (ρ x):=hd x (by simp)
  clear hd
  refine fin (e:=Builtin.len_ argTypes type #[ρ x]) ?_ ?_
  ·unfold Builtin.len_
   generalize ρ x=v at *
   cases v <;> simp only [slV] at hd'
   ·repeat' (first | exact bo.pure _ | exact bo.stuck _ | exact bo.underlying _ | contradiction | (refine bo.bind ?_ (fun _=>?_)) | split)
    all_goals (rename_i hh; simp at hh)
   ·repeat' (first | exact bo.pure _ | exact bo.stuck _ | exact bo.underlying _ | contradiction | (refine bo.bind ?_ (fun _=>?_)) | split)
    all_goals (rename_i hh; simp at hh)
  ·intro w
   simp [execOp,resolve,invoke,builtin]
def mK (P:Program) (ops:Array Oper):List Oper -> Act -> World -> Act -> World -> Prop
 | [],a,w,a',w'=>a'=a /\ w'=w
 | o :: l,a,w,a',w' =>
  if Region.wanted o (yielded ops a.tmps)=true then ∃ n w1 v,(execOp a.eval o).run P w=.ok n w1 /\ n=.value v /\ mK P ops l (a.put o.dst v) w1 a' w'
  else mK P ops l (a.put o.dst undef) w a' w'
theorem Bo {ρ:Operand -> Value} {o:Oper} (hs:oW P o.op=true) {w w1:World} {n:Next} (hr:(execOp ρ o).run P w=.ok n w1):∃ v,n=.value v:=by
 have gen:∀ {e:Sem Value},(do pure (.value (<- e)):Sem Next).run P w=.ok n w1 -> ∃ v,n=.value v:=fun {e} h=>by
  rw [bW] at h
  cases hx:e.run P w with
  | ok a w2=>simp [hx] at h; exact ⟨a,h.1.symm⟩
  | halt x w2=>simp [hx] at h
 obtain ⟨dst,op,type,pos,after,guard⟩:=o
 cases op <;> simp only [oW,Bool.false_eq_true] at hs
 case move x=>simp [execOp] at hr; exact ⟨_,hr.1.symm⟩
 case assign x=>simp [execOp] at hr; exact ⟨_,hr.1.symm⟩
 case pick c a b =>
  simp only [execOp] at hr
  exact gen (e:=do pure (if <- asBool (ρ c) then ρ a else ρ b)) (by simpa using hr)
 case nilCheck x =>
  simp only [execOp] at hr
  split at hr
  ·exact absurd hr (dG _ _ _ _)
  ·exact absurd hr (dG _ _ _ _)
  ·exact absurd hr (dG _ _ _ _)
  ·split at hr
   ·exact absurd hr (dG _ _ _ _)
   ·rw [bW] at hr
    generalize Sem.run P Go.program w=r1 at hr
    cases r1 with
    | halt x w2=>simp at hr
    | ok a w2 =>
     simp only [ce,bW] at hr
     generalize Sem.run P _ w2=r2 at hr
     cases r2 with
     | halt x w2=>simp at hr
     | ok a w2 =>
      simp only [ce] at hr
      split at hr
      ·simp [Go.unsupported] at hr
      ·simp at hr; exact ⟨_,hr.1.symm⟩
   ·simp at hr; exact ⟨_,hr.1.symm⟩
  ·simp at hr; exact ⟨_,hr.1.symm⟩
 case call c =>
  obtain ⟨callee,args,argTypes⟩:=c
  cases callee <;> first | exact absurd hs oR | skip
  rename_i b
  cases b <;> first | exact absurd hs oR | skip
  exact gen (e:=Builtin.len_ argTypes type (args.map ρ)) (by simpa [execOp,resolve,invoke,builtin] using hr)
 all_goals exact gen hr
def Only (K:Act -> World -> Prop):Exit -> Act -> World -> Prop
 | .normal,a,w=>K a w
 | _,_,_=>False
theorem zS {K:Act -> World -> Prop}:∀ (l:List Oper) (a:Act) (w:World),(∀ o ∈ l,oW P o.op=true) -> wpList P ops (Only K) l a w -> ∃ a' w',K a' w' /\ mK P ops l a w a' w':=by
 intro l
 induction l with
 | nil=>intro a w _ h; exact ⟨a,w,h,rfl,rfl⟩
 | cons o l ih =>
  intro a w hs h
  unfold wpList at h
  split at h
  ·rename_i hw
   rcases h with h | ⟨_,a0,w0,h⟩
   ·unfold Oper.wp at h
    cases hr:(execOp a.eval o).run P w with
    | ok n w1 =>
     obtain ⟨v,rfl⟩:=Bo (hs o (by simp)) hr
     rw [hr] at h
     obtain ⟨a',w',hK,ht⟩:=ih _ _ (fun o' ho'=>hs o' (by simp [ho'])) h
     exact ⟨a',w',hK,by unfold mK; rw [if_pos hw]; exact ⟨_,_,_,hr,rfl,ht⟩⟩
    | halt x w1 =>
     rw [hr] at h
     cases x <;> exact h.elim
   ·exact h.elim
  ·rename_i hw
   obtain ⟨a',w',hK,ht⟩:=ih _ _ (fun o' ho'=>hs o' (by simp [ho'])) h
   exact ⟨a',w',hK,by unfold mK; rw [if_neg hw]; exact ht⟩
def j8 (l:List Oper) (t:Tmp):Bool:=l.all fun o=>o.dst != some t
theorem nE {a:Act} {d:Option Tmp} {v:Value} {x:Operand} (h:∀ t,x=.tmp t -> d ≠ some t):(a.put d v).eval x=a.eval x:=
 Act.eval_put fun t ht e=>h t e ht
theorem t5 : ∀ (l:List Oper) (a:Act) (w:World) (a':Act) (w':World),mK P ops l a w a' w' -> ∀ x,(∀ t,x=.tmp t -> j8 l t=true) -> a'.eval x=a.eval x:=by
 intro l
 induction l with
 | nil=>intro a w a' w' h x _; rw [h.1]
 | cons o l ih =>
  intro a w a' w' h x hx
  have hl:∀ t,x=.tmp t -> j8 l t=true:=fun t ht=>by
   have:=hx t ht
   simp only [j8,oQ,cC] at this ⊢
   exact this.2
  have hd:∀ t,x=.tmp t -> o.dst ≠ some t:=fun t ht=>by
   have:=hx t ht
   simp only [j8,oQ,cC,bne_iff_ne] at this
   exact this.1
  unfold mK at h
  split at h
  ·obtain ⟨n,w1,v,_,_,h⟩:=h
   rw [ih _ _ _ _ h x hl,nE hd]
  ·rw [ih _ _ _ _ h x hl,nE hd]
def Dt (ops:Array Oper):List Oper -> Bool
 | []=>true
 | o :: l=>(!n6 o.op || (o.looksAt ops).all fun t=>j8 (o :: l) t) && Dt ops l
def sides (B:Nat) (w0:World) (ops:Array Oper) (a:Act):List Oper -> Prop
 | []=>True
 | o :: l=>(n6 o.op=true -> Region.wanted o (yielded ops a.tmps)=true -> side B w0 a.eval o.op) /\ sides B w0 ops a l
theorem Br {B:Nat} {w0:World} {ρ ρ':Operand -> Value} {op:Op} (h:∀ x ∈ op.operands,ρ x=ρ' x) (hd:side B w0 ρ op):side B w0 ρ' op:=by
 cases op <;> simp only [side] at hd ⊢
 case binOp=>rw [<- h _ (by simp [Op.operands]),<- h _ (by simp [Op.operands])]; exact hd
 case load=>rw [<- h _ (by simp [Op.operands])]; exact hd
 case nilCheck=>rw [<- h _ (by simp [Op.operands])]; exact hd
 case call c =>
  obtain ⟨callee,args,argTypes⟩:=c
  cases callee <;> first | trivial | skip
  rename_i b
  cases b <;> first | trivial | skip
  have hd':∀ x ∈ args.toList,slV (ρ x):=hd
  show ∀ x ∈ args.toList,slV (ρ' x)
  intro x hx
  rw [<- h x (by simpa [Op.operands,Call.operands] using hx)]
  exact hd' x hx
def pick (ops:Array Oper) (L:List Nat):List Oper:=L.filterMap (ops[·]?)
def tH (listed:Array Bool) (L:List Nat):Array Bool:=L.foldl (fun l i=>l.setIfInBounds i true) listed
def j9 (P:Program) (md:Region.Mode) (ops:Array Oper):List Nat -> Array Bool -> Bool
 | [],_=>true
 | i :: L,listed=>(match ops[i]? with | some o=>oW P o.op | none=>false) && (Region.ready md ops listed).contains i && Region.free md ops listed i && j9 P md ops L (listed.setIfInBounds i true)
inductive zF where
 | done
 | stop
 | soft (L:List Nat) (p:zF)
 | alt (i:Nat) (p q:zF)
def mY (P:Program) (ops:Array Oper) (B:Nat) (w0:World) (Q:Exit -> Act -> World -> Prop):zF -> Act -> World -> Prop
 | .done,a,w=>Q .normal a w
 | .stop,_,_=>True
 | .soft L p,a,w=>wpList P ops (Only fun a' w'=>sides B w0 ops a' (pick ops L) /\ mY P ops B w0 Q p a' w') (pick ops L) a w
 | .alt i p q,a,w=>wpList P ops (Only fun a' w'=>il B w0 w' /\ mY P ops B w0 Q p a' w') (pick ops [i]) a w /\ mY P ops B w0 Q q a w
def covers (P:Program) (md:Region.Mode) (ops:Array Oper):zF -> Nat -> Array Bool -> Option (List Nat) -> Bool
 | .done,_,listed,rs=>rs.isNone && (Region.ready md ops listed).isEmpty
 | .stop,_,_,rs=>match rs with | some r=>r.isEmpty | none=>false
 | .soft L p,f,listed,rs=>rs.isNone && decide (L.length <= f) && j9 P md ops L listed && Dt ops (pick ops L) && covers P md ops p (f - L.length) (tH listed L) none
 | .alt i p q,f,listed,rs =>
  decide (0 < f) && (rs.getD (Region.ready md ops listed)).contains i && (Region.ready md ops listed).contains i && covers P md ops p (f - 1) (listed.setIfInBounds i true) none &&
   covers P md ops q f listed (some ((rs.getD (Region.ready md ops listed)).filter (· != i)))
theorem yielded_eq (ops:Array Oper) (tmps:Array Value) (j:Nat):yielded ops tmps j=match (ops[j]?).bind (·.dst) with | none=>none | some t=>match tmps.getD t undef with | .bool b=>some b | _=>none:=by
 unfold yielded
 cases (ops[j]?).bind (·.dst) with
 | none=>rfl
 | some t =>
  simp only [Option.bind_some]
  by_cases h:t < tmps.size
  ·simp [Array.getD,h]
   split <;> simp_all
  ·simp [Array.getD,h,undef]
theorem D6 {K K':Act -> World -> Prop} {o:Oper} {a:Act} {w:World} {N:Act -> World -> Prop} (h:o.wp P a w N (Only K)):o.wp P a w N (Only K'):=by
 unfold Oper.wp at *
 generalize (execOp a.eval o).run P w=r at *
 cases r with
 | ok n w' =>
  cases n <;> simp only [Oper.upon] at h ⊢ <;> first | exact h | skip
  all_goals exact Calls.mono h fun e w'' he=>by cases e <;> first | exact he | exact (he:False).elim | (obtain ⟨_,_,hf⟩:=he; exact (hf:False).elim)
 | halt x w'=>cases x <;> simp only [Oper.upon] at h ⊢ <;> exact (h:False).elim
theorem D9 {B:Nat} {w0:World} {Q:Exit -> Act -> World -> Prop} (hns:Region.noSelect ops=true) (hQ:∀ c a a' w,Q (.panic c) a w -> Q (.panic c) a' w) {f:Nat} {aE:Act} {wE w:World} (hw:il B w0 w) :
  ∀ (L:List Nat) (listed:Array Bool) (a:Act),j9 P md ops L listed=true -> Dt ops (pick ops L)=true -> sides B w0 ops aE (pick ops L) -> mK P ops (pick ops L) a w aE wE ->
   (wE=w -> wpAnyH P md ops Q (il B w0) f (tH listed L) aE w) -> wE=w /\ wpAnyH P md ops Q (il B w0) (f + L.length) listed a w:=by
 intro L
 induction L with
 | nil =>
  intro listed a _ _ _ ht hK
  obtain ⟨rfl,rfl⟩:=ht
  exact ⟨rfl,by simpa [tH] using hK rfl⟩
 | cons i L ih =>
  intro listed a hc hcl hsd ht hK
  simp only [j9,cC] at hc
  obtain ⟨⟨⟨h1,h2⟩,h3⟩,h4⟩:=hc
  cases ho:ops[i]? with
  | none=>simp [ho] at h1
  | some o =>
   simp only [ho] at h1
   have hp:pick ops (i :: L)=o :: pick ops L:=by simp [pick,ho]
   rw [hp] at hcl hsd ht
   simp only [Dt,cC] at hcl
   obtain ⟨hc1,hc2⟩:=hcl
   obtain ⟨hs1,hs2⟩:=hsd
   unfold mK at ht
   have evals:∀ x ∈ o.op.operands,n6 o.op=true -> aE.eval x=a.eval x:=fun x hx hh=>by
    simp only [hh,Bool.not_true,Bool.false_or,cI] at hc1
    have hu:∀ t,x=.tmp t -> j8 (o :: pick ops L) t=true:=fun t ht=>hc1 t (by
     subst ht
     exact kp _ (oP.2 ⟨.tmp t,by simpa using hx,rfl⟩))
    refine t5 (P:=P) (ops:=ops) (o :: pick ops L) a w aE wE ?_ x hu
    unfold mK
    exact ht
   have wants:n6 o.op=true -> Region.wanted o (yielded ops aE.tmps)=Region.wanted o (yielded ops a.tmps):=fun hh=>by
    simp only [hh,Bool.not_true,Bool.false_or,cI] at hc1
    unfold Region.wanted
    cases hg:o.guard with
    | none=>rfl
    | some gw =>
     obtain ⟨g,want⟩:=gw
     have:yielded ops aE.tmps g=yielded ops a.tmps g:=by
      rw [yielded_eq,yielded_eq]
      cases hd:(ops[g]?).bind (·.dst) with
      | none=>rfl
      | some t =>
       have hm:t ∈ o.looksAt ops:=List.mem_append_right _ (by simp [hg,hd])
       have:=t5 (P:=P) (ops:=ops) (o :: pick ops L) a w aE wE (by unfold mK; exact ht) (.tmp t) (fun t' ht'=>by cases ht'; exact hc1 t hm)
       simp only [Act.eval] at this
       simp only [this]
     simp only [this]
   have key:∀ v w1,YieldsIf P ops (il B w0) o v a -> w1=w -> mK P ops (pick ops L) (a.put o.dst v) w1 aE wE -> wE=w /\ wpAnyH P md ops Q (il B w0) (f + (L.length + 1)) listed a w:=fun v w1 hy e ht=>by
    rw [e] at ht
    obtain ⟨e1,hrest⟩:=ih (listed.setIfInBounds i true) (a.put o.dst v) h4 hc2 hs2 ht (fun e=>by simpa [tH] using hK e)
    exact ⟨e1,wpAnyH_take ho hns h3 (by simpa using h2) (fun c a w h=>hQ c _ _ w h) hy hw hrest⟩
   by_cases hwt:Region.wanted o (yielded ops a.tmps)=true
   ·rw [if_pos hwt] at ht
    obtain ⟨n,w1,v,hr,rfl,ht⟩:=ht
    have hd:side B w0 a.eval o.op:=by
     by_cases hh:n6 o.op=true
     ·exact Br (fun x hx=>evals x hx hh) (hs1 hh (by rw [wants hh]; exact hwt))
     ·revert hh
      cases o.op <;> simp [n6,side]
    have hst:=fun w' (hw':il B w0 w')=>zZ (P:=P) hw hw' h1 hd hr
    have e1:=(hst w hw).1
    refine key v w1 (.inl ⟨hwt,fun w' hw'=>?_⟩) e1 ht
    obtain ⟨_,v',hv',hr'⟩:=hst w' hw'
    cases hv'
    exact hr'
   ·rw [if_neg hwt] at ht
    exact key undef w (.inr ⟨by simpa using hwt,rfl⟩) rfl ht
theorem GX {i:Nat} {o:Oper} (h:ops[i]? = some o):pick ops [i]=[o]:=by simp [pick,h]
theorem ub : ∀ (L:List Nat) (listed:Array Bool),j9 P md ops L listed=true -> ∀ o ∈ pick ops L,oW P o.op=true:=by
 intro L
 induction L with
 | nil=>intro _ _ o ho; simp [pick] at ho
 | cons i L ihL =>
  intro listed hc o ho
  simp only [j9,cC] at hc
  obtain ⟨⟨⟨g1,_⟩,_⟩,g4⟩:=hc
  cases hi:ops[i]? with
  | none=>simp [hi] at g1
  | some o' =>
   simp only [hi] at g1
   have hp:pick ops (i :: L)=o' :: pick ops L:=by simp [pick,hi]
   rw [hp] at ho
   rcases eh.1 ho with rfl | ho
   ·exact g1
   ·exact ihL _ g4 _ ho
theorem yQ {B:Nat} {w0:World} {Q:Exit -> Act -> World -> Prop} {K:Act -> World -> Prop} (hQ:Q=Only K) (hns:Region.noSelect ops=true) :
  ∀ (p:zF) (f:Nat) (listed:Array Bool) (rs:Option (List Nat)) (a:Act) (w:World),covers P md ops p f listed rs=true -> il B w0 w -> mY P ops B w0 Q p a w ->
   match rs with
   | none=>wpAnyH P md ops Q (il B w0) f listed a w
   | some r=>∀ i ∈ r,0 < f /\ wpOp P ops Q i (fun a' w'=>il B w0 w' /\ wpAnyH P md ops Q (il B w0) (f - 1) (listed.setIfInBounds i true) a' w') a w:=by
 intro p
 induction p with
 | done =>
  intro f listed rs a w hc hw h
  simp only [covers,cC,Option.isNone_iff_eq_none,List.isEmpty_iff] at hc
  obtain ⟨rfl,hr⟩:=hc
  exact wpAnyH_done hr h f
 | stop =>
  intro f listed rs a w hc hw h
  cases rs with
  | none=>simp [covers] at hc
  | some r =>
   simp only [covers,List.isEmpty_iff] at hc
   subst hc
   intro i hi
   cases hi
 | soft L p ih =>
  intro f listed rs a w hc hw h
  simp only [covers,cC,Option.isNone_iff_eq_none,fu] at hc
  obtain ⟨⟨⟨⟨rfl,h2⟩,h3⟩,h4⟩,h5⟩:=hc
  obtain ⟨aE,wE,⟨hsd,hK⟩,ht⟩:=zS _ _ _ (ub L listed h3) h
  have hl:f - L.length + L.length=f:=by omega
  rw [<- hl]
  refine (D9 (P:=P) hns (by rw [hQ]; intro c a a' w h; exact h) hw L listed a h3 h4 hsd ht (fun e=>?_)).2
  subst e
  exact ih _ _ none _ _ h5 hw hK
 | alt i p q ihp ihq =>
  intro f listed rs a w hc hw h
  simp only [covers,cC,fu] at hc
  obtain ⟨⟨⟨⟨h1,h2⟩,h2'⟩,h3⟩,h4⟩:=hc
  obtain ⟨hi,hq⟩:=h
  have here:wpOp P ops Q i (fun a' w'=>il B w0 w' /\ wpAnyH P md ops Q (il B w0) (f - 1) (listed.setIfInBounds i true) a' w') a w:=by
   unfold wpOp
   cases ho:ops[i]? with
   | none => 
    have hm:i ∈ Region.ready md ops listed:=by simpa using h2'
    obtain ⟨_,o,ho',_⟩:=mem_ready.1 hm
    rw [ho] at ho'
    cases ho'
   | some o =>
    rw [GX ho] at hi
    simp only []
    unfold wpList at hi
    split
    ·rename_i hwt
     rw [if_pos hwt] at hi
     rcases hi with hi | ⟨_,_,_,hf⟩
     ·rw [hQ]
      refine .inl (D6 (K:=fun a' w'=>il B w0 w' /\ mY P ops B w0 Q p a' w') (Oper.wp_mono (fun a' w' hn=>?_) hi))
      obtain ⟨hb,hn⟩:=hn
      have:=ihp (f - 1) (listed.setIfInBounds i true) none a' w' h3 hb hn
      exact ⟨hb,hQ ▸ this⟩
     ·exact hf.elim
    ·rename_i hwt
     rw [if_neg hwt] at hi
     obtain ⟨hb,hn⟩:=hi
     exact ⟨hb,ihp (f - 1) (listed.setIfInBounds i true) none _ _ h3 hb hn⟩
  have rest:=ihq f listed _ a w h4 hw hq
  have all:∀ j ∈ rs.getD (Region.ready md ops listed),0 < f /\ wpOp P ops Q j (fun a' w'=>il B w0 w' /\ wpAnyH P md ops Q (il B w0) (f - 1) (listed.setIfInBounds j true) a' w') a w:=by
   intro j hj
   by_cases e:j=i
   ·subst e; exact ⟨h1,here⟩
   ·exact rest j (ga.2 ⟨hj,by simpa using e⟩)
  cases rs with
  | some r=>exact all
  | none =>
   simp only [Option.getD_none] at all
   have hne:Region.ready md ops listed ≠ []:=by intro e; rw [e] at h2'; simp at h2'
   have hf:f=(f - 1) + 1:=by omega
   show wpAnyH P md ops Q (il B w0) f listed a w
   rw [hf]
   exact wpAnyH_all rfl hne fun j hj=>(all j hj).2
theorem G3 {Q:Exit -> Act -> World -> Prop}:∀ e a w,Only (Q .normal) e a w -> Q e a w:=fun e a w h=>by
 cases e <;> first | exact h | exact (h:False).elim
theorem tX {id:Nat} {Q:Exit -> Act -> World -> Prop} {a:Act} {w:World} (p:zF) (B:Nat) (hm:P.follows .mixedOrders=true) (hns:Region.noSelect ops=true)
  (hc:covers P .any ops p ops.size (Array.replicate ops.size false) none=true) (h:mY P ops B w.drew (Only (Q .normal)) p a w.drew):(Code.region id ops true).wp P Q a w:=by
 refine Code.wp_mono G3 (wp_region_held (S:=il B w.drew) hm ?_)
 exact yQ rfl hns p _ _ none _ _ hc (il.refl _ _) h
theorem wp_region_soft {l:List Oper} {id:Nat} {Q:Exit -> Act -> World -> Prop} {a:Act} {w:World} {aE:Act} {wE:World} (hm:P.follows .mixedOrders=true)
  (hc:(Region.noSelect l.toArray && covers P .any l.toArray (.soft (List.range l.length) .done) l.length (Array.replicate l.length false) none)=true)
  (h:∀ K:Act -> World -> Prop,K aE wE -> wpList P l.toArray (Only K) l a w.drew) (h1:sides w.heap.size w.drew l.toArray aE l) (h2:Q .normal aE wE):(Code.region id l.toArray true).wp P Q a w:=by
 simp only [cC] at hc
 have hp:pick l.toArray (List.range l.length)=l:=by
  unfold pick
  have:∀ (k:Nat) (l':List Oper),(∀ j,l'[j]? = l[k + j]?) -> (List.range' k l'.length).filterMap (l.toArray[·]?)=l':=by
   intro k l'
   induction l' generalizing k with
   | nil=>intro _; rfl
   | cons o l' ih =>
    intro hk
    have h0:l.toArray[k]? = some o:=by simpa using (hk 0).symm
    simp only [dq,List.range'_succ,List.filterMap_cons,h0]
    rw [ih (k + 1) (fun j=>by have:=hk (j + 1); simpa [ft,mU 1 j] using this)]
  have:=this 0 l (fun j=>by simp)
  rwa [<- List.range_eq_range'] at this
 refine tX (.soft (List.range l.length) .done) w.heap.size hm hc.1 (by simpa using hc.2) ?_
 simp only [mY,hp]
 exact h _ ⟨h1,h2⟩
end
attribute [irreducible] mY
end RM
abbrev Gh := Nat -> Option Obj
def Gh.le (g g':Gh):Prop:=∀ b o,g b=some o -> g' b=some o
theorem Gh.le.refl (g:Gh):Gh.le g g:=fun _ _ h=>h
theorem Gh.le.trans {a b c:Gh} (h:Gh.le a b) (k:Gh.le b c):Gh.le a c:=fun i o e=>k i o (h i o e)
def Gh.cell (g:Gh) (p:Addr):Option Value:=match g p.block with
 | some (.cells c _ _)=>if p.spot.isSome then none else c[p.off]?
 | _=>none
theorem vt {g g':Gh} (h:Gh.le g g') {p:Addr} {v:Value} (e:g.cell p=some v):g'.cell p=some v:=by
 unfold Gh.cell at e ⊢
 cases hb:g p.block with
 | none=>rw [hb] at e; simp at e
 | some o=>rw [hb] at e; rw [h _ _ hb]; exact e
def pu (g:Gh) (w:World):Prop:=∀ b o,g b=some o -> w.heap[b]? = some o
theorem pu.cell {g:Gh} {w:World} (h:pu g w) {p:Addr} {v:Value} (e:g.cell p=some v):w.cell? p=some v:=by
 unfold Gh.cell at e
 unfold World.cell?
 cases hb:g p.block with
 | none=>rw [hb] at e; simp at e
 | some o=>rw [hb] at e; rw [h _ _ hb]; exact e
theorem pu.lt {g:Gh} {w:World} (h:pu g w) {b:Nat} {o:Obj} (e:g b=some o):b < w.heap.size:=(sA.1 (h b o e)).1
def _root_.Go.World.gh (w:World):Gh:=fun b=>w.heap[b]?
theorem JX (w:World):pu w.gh w:=fun _ _ h=>h
def _root_.Go.World.ownsAt (w:World) (e:TypeId) (size:Nat) (v:Value) (n:Nat) (xs:List Value):Prop:=
 xs.length=n * size /\ ((v=.slice none 0 0 /\ n=0) \/
  ∃ g o cap cur,v=.slice (some ⟨g,o,none⟩) n cap /\ w.heap[g]? = some (.cells cur e (0,0)) /\ n <= cap /\ cap <= maxLen /\ o + cap * size <= cur.size /\ (cur.toList.drop o).take (n * size)=xs)
theorem _root_.Go.World.ownsRow.at {w:World} {base:Nat} {e:TypeId} {size:Nat} {v:Value} {n:Nat} {xs:List Value} (h:w.ownsRow base e size v n xs):w.ownsAt e size v n xs:=by
 refine ⟨h.1,?_⟩
 rcases h.2 with h1 | ⟨g,cap,cur,h1,_,h2,h3,h4,h5,h6⟩
 ·exact .inl h1
 ·exact .inr ⟨g,0,cap,cur,h1,h2,h3,h4,by omega,by rw [List.drop_zero]; exact h6⟩
theorem _root_.Go.World.ownsAt_nil (w:World) (e:TypeId) (size:Nat):w.ownsAt e size (.slice none 0 0) 0 []:=⟨by simp, .inl ⟨rfl,rfl⟩⟩
theorem _root_.Go.World.ownsAt.lt {w:World} {e:TypeId} {size:Nat} {v:Value} {n:Nat} {xs:List Value} (h:w.ownsAt e size v n xs):∀ k,v.ownBlock=some k -> 0 <= k /\ k < w.heap.size:=by
 intro k hk
 rcases h.2 with ⟨rfl,_⟩ | ⟨g,o,cap,cur,rfl,hg,_⟩
 ·simp [Value.ownBlock] at hk
 ·simp [Value.ownBlock] at hk
  subst hk
  exact ⟨cy _,(sA.1 hg).1⟩
theorem _root_.Go.World.ownsAt.kept {w w':World} {e:TypeId} {size:Nat} {v:Value} {n:Nat} {xs:List Value} {row:Option Nat} (h:w.ownsAt e size v n xs) (hg:w.grownBy w' row) (hne:v.ownBlock=none \/ v.ownBlock ≠ row):w'.ownsAt e size v n xs:=by
 refine ⟨h.1,?_⟩
 rcases h.2 with hn | ⟨g,o,cap,cur,rfl,hgg,rest⟩
 ·exact .inl hn
 ·refine .inr ⟨g,o,cap,cur,rfl,?_,rest⟩
  rw [hg.block g (sA.1 hgg).1 (by simpa [Value.ownBlock] using hne)]
  exact hgg
structure Rd where
 R:Gh -> Value -> Prop
 mono:∀ g g' v,Gh.le g g' -> R g v -> R g' v
structure Rl (α:Type) where
 R:Gh -> α -> Prop
 mono:∀ g g' v,Gh.le g g' -> R g v -> R g' v
def dR : Value -> Prop
 | .agg _=>False
 | .tuple _=>False
 | _=>True
theorem dR.cells {v:Value} (h:dR v):v.cells = #[v]:=by cases v <;> first | rfl | exact (h:False).elim
inductive At where
 | v (x:Value)
 | ptr (i off:Nat)
 | own (i:Nat)
 | rd (r:Rd)
 | sl (r:Rd) (n:Nat)
 | pe (r:Rd) (s:Nat)
 | oe (i k s:Nat)
 | fn (f:Nat) (caps:List Nat)
 | bsl (i n:Nat)
 | pptr (i off b:Nat)
 | pown (i:Nat) (x:Value)
 | gs (i k:Nat)
 | ge (i k q s:Nat)
 | vw (i lo m s:Nat)
 | junk
 | opt (i:Nat)
 | pfn (f:Nat) (l:List (Nat × Nat))
inductive SV where
 | one (a:At)
 | agg (l:List At)
inductive SC where
 | sv (s:SV)
 | tup (l:List SV)
def Ma (r:Rd) (s:Nat) (g:Gh) (u:Value):Prop:=∃ b o x,u=.pointer (some ⟨b,o,none⟩) /\ r.R g x /\ x.cells.size=s /\ ∀ j c,x.cells[j]? = some c -> g.cell ⟨b,o + j,none⟩=some c
def cR (v:Value) (k:Nat):Value:=match v with
 | .tuple us=>us.toList.getD k undef
 | _=>undef
def At.raw (g:Gh) (hs:Nat -> Value):At -> Value -> Prop
 | .v x,u=>u=x
 | .ptr i off,u=>∃ b,hs i=.pointer (some ⟨b,0,none⟩) /\ u=.pointer (some ⟨b,off,none⟩)
 | .own i,u=>u=hs i
 | .rd r,u=>r.R g u
 | .sl r n,u=>r.R g u /\ ∃ ao cap,u=.slice ao n cap
 | .pe r s,u=>Ma r s g u
 | .oe i k s,u=>∃ b o n cap,hs i=.slice (some ⟨b,o,none⟩) n cap /\ u=.pointer (some ⟨b,o + k * s,none⟩)
 | .fn f caps,u=>u=.func (.func f) #[] (caps.map hs).toArray
 | .bsl i n,u=>∃ b,hs i=.pointer (some ⟨b,0,none⟩) /\ u=.slice (some ⟨b,0,none⟩) n n
 | .pptr i off b,u=>hs i=.pointer (some ⟨b,0,none⟩) /\ u=.pointer (some ⟨b,off,none⟩)
 | .pown i x,u=>hs i=x /\ u=hs i
 | .gs i k,u=>u=cR (hs i) k
 | .ge i k q s,u=>∃ b o n cap,cR (hs i) k=.slice (some ⟨b,o,none⟩) n cap /\ u=.pointer (some ⟨b,o + q * s,none⟩)
 | .vw i lo m s,u=>∃ ao cap,u=.slice ao m cap /\ (ao=none -> cap=0) /\ (0 < m -> ∃ b o n cp,hs i=.slice (some ⟨b,o,none⟩) n cp /\ ao=some ⟨b,o + lo * s,none⟩)
 | .junk,_=>True
 | .opt i,u=>u=.pointer none \/ ∃ b,hs i=.pointer (some ⟨b,0,none⟩) /\ u=.pointer (some ⟨b,0,none⟩)
 | .pfn f l,u=>(∀ p ∈ l,hs p.1=.pointer (some ⟨p.2,0,none⟩)) /\ u=.func (.func f) #[] ((l.map (·.1)).map hs).toArray
def At.ok (g:Gh) (hs:Nat -> Value) (a:At) (u:Value):Prop:=a.raw g hs u /\ (match a with | .junk=>True | _=>dR u)
def oks (g:Gh) (hs:Nat -> Value):List At -> List Value -> Prop
 | [],[]=>True
 | a :: l,u :: us=>a.ok g hs u /\ dR u /\ oks g hs l us
 | _,_=>False
def SV.ok (g:Gh) (hs:Nat -> Value):SV -> Value -> Prop
 | .one a,u=>a.ok g hs u
 | .agg l,u=>∃ cs:List Value,u=.agg cs.toArray /\ oks g hs l cs
def fy (g:Gh) (hs:Nat -> Value):List SV -> List Value -> Prop
 | [],[]=>True
 | a :: l,u :: us=>a.ok g hs u /\ fy g hs l us
 | _,_=>False
def SC.ok (g:Gh) (hs:Nat -> Value):SC -> Value -> Prop
 | .sv s,u=>s.ok g hs u
 | .tup l,u=>∃ us:List Value,u=.tuple us.toArray /\ fy g hs l us
def blk : Value -> Option Nat
 | .pointer (some a)=>some a.block
 | .slice (some a) _ _=>some a.block
 | .map (some m)=>some m
 | _=>none
def fW (v:Value) (b:Nat):Prop:=match v with
 | .tuple us=>∃ u ∈ us.toList,blk u=some b
 | v=>blk v=some b
structure Ext where
 R:Gh -> (Nat -> Option Obj) -> Value -> Prop
 mono:∀ g g' H v,Gh.le g g' -> R g H v -> R g' H v
 same:∀ g H H' v,(∀ b,fW v b -> H' b=H b) -> R g H v -> R g H' v
inductive br where
 | box (cells:List At) (ty:Nat) (fz:Bool)
 | row (ty s:Nat) (r:Rl (List Value)) (n:Nat)
 | map (r:Rl (Array MapEntry × Nat))
 | iter (j:Nat) (r:Nat × Array Nat -> Prop)
 | siter (s:ByteArray) (pos:Nat)
 | grid (tyo ty s:Nat) (rows:List (Option (Rl (List Value) × Nat))) (link:Option (Nat × Nat))
 | ext (X:Ext)
 | gone
def br.fz : br -> Bool
 | .box _ _ fz=>fz
 | .gone=>true
 | _=>false
theorem sx {v:Value} {b:Nat} (h:blk v=some b):fW v b:=by
 cases v <;> first | exact h | cases h
theorem fW.part {v:Value} {k b:Nat} {us:List Value} (h:v=.tuple us.toArray) (hk:k < us.length) (hb:blk (cR v k)=some b):fW v b:=by
 subst h
 refine ⟨us.getD k undef,?_,hb⟩
 simp [hk]
theorem kR {w w':World} {e:TypeId} {size:Nat} {v:Value} {n:Nat} {xs:List Value} (h:w.ownsAt e size v n xs) (hb:∀ b,blk v=some b -> w'.heap[b]? = w.heap[b]?):w'.ownsAt e size v n xs:=by
 obtain ⟨h0,h1⟩:=h
 refine ⟨h0,?_⟩
 rcases h1 with h1 | ⟨gb,of,cap,cur,rfl,h4,h5⟩
 ·exact .inl h1
 ·exact .inr ⟨gb,of,cap,cur,rfl,(hb gb rfl).trans h4,h5⟩
def br.ok (g:Gh) (hs:Nat -> Value) (w:World) (h:Value):br -> Prop
 | .box cells ty fz=>∃ b cs,h=.pointer (some ⟨b,0,none⟩) /\ oks g hs cells cs /\ w.heap[b]? = some (.cells cs.toArray ty (0,0)) /\ (fz=true -> g b=some (.cells cs.toArray ty (0,0)))
 | .row ty s r n=>∃ cs,w.ownsAt ty s h n cs /\ r.R g cs
 | .map r=>∃ m es clock,h=.map (some m) /\ w.heap[m]? = some (.map es clock) /\ r.R g (es,clock)
 | .iter j r=>∃ rb m clock seen,h=.pointer (some ⟨rb,0,none⟩) /\ hs j=.map (some m) /\ w.heap[rb]? = some (.mapIter (some m) clock seen clock) /\ r (clock,seen)
 | .siter s pos=>∃ rb,h=.pointer (some ⟨rb,0,none⟩) /\ w.heap[rb]? = some (.stringIter s pos)
 | .grid tyo ty s rows link=>∃ us ocs:List Value,h=.tuple us.toArray /\ us.length=rows.length + 1 /\ w.ownsAt tyo 1 (cR h 0) rows.length ocs /\ (∀ u ∈ ocs,∃ ao m cap,u=.slice ao m cap) /\ (∀ p r n,rows[p]? = some (some (r,n)) -> ocs[p]? = some (cR h (p + 1)) /\ ∃ cs,w.ownsAt ty s (cR h (p + 1)) n cs /\ r.R g cs) /\ (∀ p,rows[p]? = some none -> cR h (p + 1)=.slice none 0 0) /\ (∀ p k,link=some (p,k) -> ocs[p]? = some (hs k)) /\ ∀ p q b,p < us.length -> q < us.length -> p ≠ q -> blk (cR h p)=some b -> blk (cR h q) ≠ some b
 | .ext X=>X.R g (fun b=>w.heap[b]?) h
 | .gone=>True
structure St where
 F:List (Nat × SC)
 M:List br
structure eT where
 n:Nat
 w0:World
 g0:Gh
 may:Nat -> Prop
 dfr:List Deferred
 pan:List PanicEntry -> Act -> World -> Prop
abbrev A0 (n:Nat) (w:World) (g:Gh) (may:Nat -> Prop):eT:=⟨n,w,g,may,[],fun _ _ _=>False⟩
def gm (c:eT) (N:Act -> World -> Prop):Exit -> Act -> World -> Prop
 | .normal,a,w=>N a w
 | .panic ch,a,w=>c.pan ch a w
 | _,_,_=>False
structure j7 (c:eT) (w:World) (g:Gh):Prop where
 os:w.os=c.w0.os
 tape:w.tape=c.w0.tape
 output:w.output=c.w0.output
 grows:c.w0.heap.size <= w.heap.size
 frame:∀ b,b < c.w0.heap.size -> ¬ c.may b -> w.heap[b]? = c.w0.heap[b]?
 ghle:Gh.le c.g0 g
 ghnew:∀ b o,g b=some o -> c.g0 b=some o \/ c.may b \/ c.w0.heap.size <= b
 pers:pu g w
structure dJ (c:eT) (S:St) (a:Act) (w:World) (g:Gh) (hs:Nat -> Value):Prop where
 size:a.tmps.size=c.n
 defers:a.defers=c.dfr
 base:j7 c w g
 slots:∀ t x,(t,x) ∈ S.F -> x.ok g hs (a.tmps.getD t undef)
 items:∀ (i:Nat) (it:br),S.M[i]? = some it -> it.ok g hs w (hs i)
 sep:∀ (i j:Nat) (it jt:br),i ≠ j -> S.M[i]? = some it -> S.M[j]? = some jt -> it.fz=false -> jt ≠ .gone -> ∀ b,fW (hs i) b -> ¬ fW (hs j) b
 mine:∀ (i:Nat) (it:br),S.M[i]? = some it -> it ≠ .gone -> ∀ b,fW (hs i) b -> b < w.heap.size /\ (it.fz=false -> (c.may b \/ c.w0.heap.size <= b) /\ g b=none)
def Ok (c:eT) (S:St) (a:Act) (w:World):Prop:=∃ g hs,dJ c S a w g hs
abbrev sl (n:Nat) (x:At):Nat × SC:=(n, .sv (.one x))
abbrev o1 (x:At):SC:=.sv (.one x)
abbrev tt : Bool:=true
abbrev ff : Bool:=false
structure TI where
 agg:Bool
 st:Bool
 size:Nat
 zero:List Value
 offs:List (Nat × Nat × Bool)
 kind:Option IntKind
 sl:Option Nat
 bytes:Nat
def slT (t:Nat):Option Nat:=match Tryz.prog.underlying t with
 | some (.slice e)=>some e
 | _=>none
def tb (t:Nat):Option Bool:=(Tryz.prog.underlying t).map fun d=>match d with
 | .struct _=>true
 | .array _ _=>true
 | _=>false
def stT (t:Nat):Bool:=match Tryz.prog.underlying t with
 | some (.struct _)=>true
 | _=>false
def Hk (t:Nat):Option IntKind:=match Tryz.prog.underlying t with
 | some (.int k)=>some k
 | _=>none
def yK (t:Nat):List (Nat × Nat × Option Bool):=match Tryz.prog.underlying t with
 | some (.struct fs)=>fs.toList.map fun f=>(f.offset,Tryz.prog.cellsOf f.type,tb f.type)
 | some (.array n e)=>(List.range n).map fun i=>(i * Tryz.prog.cellsOf e,Tryz.prog.cellsOf e,tb e)
 | _=>[]
def A1 : Value -> Bool
 | .agg _=>false
 | .tuple _=>false
 | _=>true
theorem xf {v:Value}:A1 v=true ↔ dR v:=by cases v <;> simp [A1,dR]
structure TI.ok (t:Nat) (i:TI):Prop where
 info:(Tryz.prog.info? t).map (fun x=>(x.size,x.zero.map (·.cells.toList),x.bytes))=some (i.size,some i.zero,i.bytes)
 agg:tb t=some i.agg
 st:stT t=i.st
 offs:yK t=i.offs.map (fun x=>(x.1,x.2.1,some x.2.2))
 kind:Hk t=i.kind
 sl:slT t=i.sl
 zc:i.zero.all A1=true
 zs:i.zero.length=i.size
 one:i.agg=false -> i.size=1
theorem dF {g:Gh} {hs:Nat -> Value}:∀ {l:List At} {us:List Value},oks g hs l us -> l.length=us.length
 | [],[],_=>rfl
 | [],_ :: _,h=>h.elim
 | _ :: _,[],h=>h.elim
 | _ :: l,_ :: us,h=>by simp [dF h.2.2]
theorem kM {g:Gh} {hs:Nat -> Value}:∀ {l:List At} {us:List Value} {j:Nat} {a:At},oks g hs l us -> l[j]? = some a -> ∃ u,us[j]? = some u /\ a.ok g hs u /\ dR u
 | [],[],_,_,_,e=>by simp at e
 | [],_ :: _,_,_,h,_=>h.elim
 | _ :: _,[],_,_,h,_=>h.elim
 | a :: l,u :: us,0,b,h,e=>by simp at e; subst e; exact ⟨u,rfl,h.1,h.2.1⟩
 | a :: l,u :: us,j + 1,b,h,e=>by
  obtain ⟨x,h1,h2⟩:=kM (j:=j) h.2.2 (by simpa using e)
  exact ⟨x,by simpa using h1,h2⟩
theorem iI {g:Gh} {hs:Nat -> Value}:∀ {l:List At} {us:List Value} (k:Nat),oks g hs l us -> oks g hs (l.drop k) (us.drop k)
 | _,_,0,h=>by simpa using h
 | [],[],k + 1,h=>by simp [oks]
 | [],_ :: _,_,h=>h.elim
 | _ :: _,[],_,h=>h.elim
 | _ :: l,_ :: us,k + 1,h=>by simpa using iI k h.2.2
theorem iH {g:Gh} {hs:Nat -> Value}:∀ {l:List At} {us:List Value} (k:Nat),oks g hs l us -> oks g hs (l.take k) (us.take k)
 | _,_,0,h=>by simp [oks]
 | [],[],k + 1,h=>by simp [oks]
 | [],_ :: _,_,h=>h.elim
 | _ :: _,[],_,h=>h.elim
 | _ :: l,_ :: us,k + 1,h=>by simpa using ⟨h.1,h.2.1,iH k h.2.2⟩
theorem ie {g:Gh} {hs:Nat -> Value}:∀ {l l':List At} {us us':List Value},oks g hs l us -> oks g hs l' us' -> oks g hs (l ++ l') (us ++ us')
 | [],_,[],_,_,h=>by simpa using h
 | [],_,_ :: _,_,h,_=>h.elim
 | _ :: _,_,[],_,h,_=>h.elim
 | _ :: l,_,_ :: us,_,h,h'=>by simpa using ⟨h.1,h.2.1,ie h.2.2 h'⟩
theorem kd {g:Gh} {hs:Nat -> Value} {l:List At} {us:List Value} (h:oks g hs l us):∀ u ∈ us,dR u:=by
 induction us generalizing l with
 | nil=>simp
 | cons u us ih =>
  cases l with
  | nil=>exact h.elim
  | cons a l =>
   intro x hx
   rcases eh.1 hx with rfl | hx
   ·exact h.2.1
   ·exact ih h.2.2 x hx
theorem uC {g:Gh} {hs:Nat -> Value}:∀ {l:List Value},l.all A1=true -> oks g hs (l.map .v) l
 | [],_=>trivial
 | x :: l,h=>by
  simp at h
  exact ⟨⟨rfl,xf.1 h.1⟩,xf.1 h.1,uC (by simpa using h.2)⟩
theorem CA {g:Gh} {hs:Nat -> Value}:∀ {l:List SV} {us:List Value} {j:Nat} {a:SV},fy g hs l us -> l[j]? = some a -> ∃ u,us[j]? = some u /\ a.ok g hs u
 | [],[],_,_,_,e=>by simp at e
 | [],_ :: _,_,_,h,_=>h.elim
 | _ :: _,[],_,_,h,_=>h.elim
 | a :: l,u :: us,0,b,h,e=>by simp at e; subst e; exact ⟨u,rfl,h.1⟩
 | a :: l,u :: us,j + 1,b,h,e=>by
  obtain ⟨x,h1,h2⟩:=CA (j:=j) h.2 (by simpa using e)
  exact ⟨x,by simpa using h1,h2⟩
def look (t:Nat):List (Nat × SC) -> Option SC
 | []=>none
 | (k,x) :: F=>match Nat.beq k t with
  | true=>some x
  | false=>look t F
theorem dZ {t:Nat} {x:SC}:∀ {F:List (Nat × SC)},look t F=some x -> (t,x) ∈ F
 | [],h=>by simp [look] at h
 | (k,y) :: F,h=>by
  unfold look at h
  split at h
  ·rename_i e
   have:=dS e
   simp at h
   subst this h
   simp
  ·exact d7 _ (dZ h)
def St.put (d:Option Nat) (x:SC) (S:St):St:=match d with
 | none=>S
 | some d=>⟨(d,x) :: S.F.filter (fun e=>!(Nat.beq e.1 d)),S.M⟩
theorem Hs (a:Act) (d t:Nat) (v:Value) (hd:d < a.tmps.size):(a.put (some d) v).tmps.getD t undef=if t=d then v else a.tmps.getD t undef:=by
 simp only [Act.put,gz,Array.getElem?_setIfInBounds]
 by_cases e:d=t
 ·subst e; simp [hd]
 ·rw [if_neg e,if_neg (Ne.symm e)]
theorem dJ.put {c:eT} {S:St} {a:Act} {w:World} {g:Gh} {hs:Nat -> Value} (h:dJ c S a w g hs) {dst:Option Nat} (hd:∀ d,dst=some d -> d < c.n) {x:SC} {v:Value} (hx:∀ d,dst=some d -> x.ok g hs v) :
  dJ c (S.put dst x) (a.put dst v) w g hs:=by
 cases dst with
 | none=>exact h
 | some d =>
  have hd':=hd d rfl
  have hx':=hx d rfl
  refine ⟨by simp [Act.put]; exact h.size,h.defers,h.base,?_,h.items,h.sep,h.mine⟩
  intro t y hy
  rw [Hs _ _ _ _ (by rw [h.size]; exact hd')]
  simp only [St.put,eh,ga] at hy
  rcases hy with hy | ⟨hy,hne⟩
  ·simp at hy
   obtain ⟨rfl,rfl⟩:=hy
   rw [if_pos rfl]
   exact hx'
  ·have:t ≠ d:=fun e=>by subst e; simp at hne
   rw [if_neg this]
   exact h.slots t y hy
def evC : Value -> Option SC
 | .agg cs=>if cs.toList.all A1 then some (.sv (.agg (cs.toList.map .v))) else none
 | .tuple _=>none
 | v=>some (.sv (.one (.v v)))
def unpin : Option SC -> Option SC
 | some (.sv (.one (.pptr i off _)))=>some (.sv (.one (.ptr i off)))
 | some (.sv (.one (.pown i _)))=>some (.sv (.one (.own i)))
 | some (.sv (.one (.pfn f l)))=>some (.sv (.one (.fn f (l.map (·.1)))))
 | x=>x
theorem Gp {g:Gh} {hs:Nat -> Value} {r:Option SC} {x:SC} {u:Value} (e:unpin r=some x) (h:∀ y,r=some y -> y.ok g hs u):x.ok g hs u:=by
 unfold unpin at e
 split at e
 ·cases e
  obtain ⟨⟨h1,h2⟩,h3⟩:=h _ rfl
  exact ⟨⟨_,h1,h2⟩,h3⟩
 ·cases e
  obtain ⟨⟨_,h2⟩,h3⟩:=h _ rfl
  exact ⟨h2,h3⟩
 ·cases e
  obtain ⟨⟨_,h2⟩,h3⟩:=h _ rfl
  exact ⟨h2,h3⟩
 ·exact h x e
def eL (F:List (Nat × SC)):Operand -> Option SC
 | .tmp t=>unpin (look t F)
 | .const v=>evC v
 | .func f=>some (.sv (.one (.fn f [])))
 | .global _=>none
theorem LC {g:Gh} {hs:Nat -> Value} {v:Value} {x:SC} (e:evC v=some x):x.ok g hs v:=by
 cases v <;> simp only [evC] at e <;> first | (cases e; exact ⟨rfl,trivial⟩) | (cases e; done) | skip
 rename_i cs
 split at e
 ·rename_i hc
  cases e
  exact ⟨cs.toList,by simp,uC hc⟩
 ·cases e
theorem bV {c:eT} {S:St} {a:Act} {w:World} {g:Gh} {hs:Nat -> Value} (h:dJ c S a w g hs) {o:Operand} {x:SC} (e:eL S.F o=some x):x.ok g hs (a.eval o):=by
 cases o with
 | tmp t=>exact Gp e fun y hy=>h.slots t y (dZ hy)
 | const v=>exact LC e
 | func f=>cases e; exact ⟨rfl,trivial⟩
 | global _=>cases e
abbrev I (n:Int):At:=.v (.int .i64 n)
abbrev B (b:Bool):At:=.v (.bool b)
def evK (F:List (Nat × SC)) (o:Operand):Option Value:=match eL F o with
 | some (.sv (.one (.v v)))=>some v
 | _=>none
theorem eQ {c:eT} {S:St} {a:Act} {w:World} {g:Gh} {hs:Nat -> Value} (h:dJ c S a w g hs) {o:Operand} {v:Value} (e:evK S.F o=some v):a.eval o=v:=by
 unfold evK at e
 split at e
 ·rename_i x hx
  cases e
  exact (bV h hx).1
 ·cases e
def bR (op:BinOp) (k:IntKind) (x y:Int):Int:=match op with
 | .and=>k.wrap (BitVec.ofInt k.bits x &&& BitVec.ofInt k.bits y).toNat
 | .or=>k.wrap (BitVec.ofInt k.bits x ||| BitVec.ofInt k.bits y).toNat
 | .xor=>k.wrap (BitVec.ofInt k.bits x ^^^ BitVec.ofInt k.bits y).toNat
 | _=>k.wrap (BitVec.ofInt k.bits x &&& ~~~(BitVec.ofInt k.bits y)).toNat
def Fr (op:BinOp) (k:IntKind) (x:Int) (k':IntKind) (y:Int):Option Value:=match op with
 | .shl=>match y with
  | .ofNat n=>some (.int k (k.wrap (x * 2 ^ (min n k.bits))))
  | .negSucc _=>none
 | .shr=>match y with
  | .ofNat n=>some (.int k (x.fdiv (2 ^ (min n k.bits))))
  | .negSucc _=>none
 | op=>match decide (k=k') with
  | false=>none
  | true=>match op with
   | .add=>some (.int k (k.wrap (x + y)))
   | .sub=>some (.int k (k.wrap (x - y)))
   | .mul=>some (.int k (k.wrap (x * y)))
   | .quo=>match y with
    | .ofNat (n + 1)=>some (.int k (k.wrap (x.tdiv (Int.ofNat (n + 1)))))
    | _=>none
   | .rem=>match y with
    | .ofNat (n + 1)=>some (.int k (x.tmod (Int.ofNat (n + 1))))
    | _=>none
   | .and=>some (.int k (bR .and k x y))
   | .or=>some (.int k (bR .or k x y))
   | .xor=>some (.int k (bR .xor k x y))
   | .andNot=>some (.int k (bR .andNot k x y))
   | .eql=>some (.bool (x == y))
   | .neq=>some (.bool (x != y))
   | .lss=>some (.bool (decide (x < y)))
   | .leq=>some (.bool (decide (x <= y)))
   | .gtr=>some (.bool (decide (x > y)))
   | .geq=>some (.bool (decide (x >= y)))
   | _=>none
def HU (op:BinOp) (u v:Value):Option Value:=match u with
 | .int k x=>match v with
  | .int k' y=>Fr op k x k' y
  | _=>none
 | _=>none
theorem Jo {op:BinOp} {t:Nat} {x y:Operand} {u v r:Value} {P:Program} (w:World) (e:HU op u v=some r):(do eqGuard op t x y u v; binOp op t u v:Sem Value).run P w=.ok r w:=by
 unfold HU at e
 split at e
 case h_2=>cases e
 rename_i k a
 split at e
 case h_2=>cases e
 rename_i k' b
 have hg:(eqGuard op t x y (.int k a) (.int k' b)).run P w=.ok () w:=by
  cases op <;> simp [eqGuard]
 rw [bW,hg,ce]
 by_cases h1:op=.shl
 ·subst h1
  simp only [Fr] at e
  split at e
  ·cases e
   simp [binOp,Op.shift]
   intro h
   omega
  ·cases e
 by_cases h2:op=.shr
 ·subst h2
  simp only [Fr] at e
  split at e
  ·cases e
   simp [binOp,Op.shift]
   intro h
   omega
  ·cases e
 have hk:k=k':=by
  by_cases hk:k=k'
  ·exact hk
  ·exfalso
   cases op <;> simp [Fr,hk] at e h1 h2
 subst hk
 cases op <;> simp [Fr] at e h1 h2 <;> first | (subst e; simp [binOp,Op.intArith,Op.intCmp,Op.intBits,bR]; done) | skip
 ·split at e
  ·cases e
   rename_i n
   have:¬ ((n:Int) + 1=0):=by omega
   simp [binOp,Op.intDiv,this]
  ·cases e
 ·split at e
  ·cases e
   rename_i n
   have:¬ ((n:Int) + 1=0):=by omega
   simp [binOp,Op.intDiv,this]
  ·cases e
section ti
variable {t:Nat} {i:TI} (h:TI.ok t i)
include h
theorem TI.ok.run_size (w:World):(sizeOf t).run Tryz.prog w=.ok i.size w:=by
 have h1:=h.info
 cases hx:Tryz.prog.info? t with
 | none=>rw [hx] at h1; simp at h1
 | some x =>
  rw [hx] at h1
  simp at h1
  simp [sizeOf,typeInfo,Go.program,Sem.run,hx,h1.1]
theorem TI.ok.run_zero : ∃ z:Value,z.cells.toList=i.zero /\ ∀ w,(zeroValue t).run Tryz.prog w=.ok z w:=by
 have h1:=h.info
 cases hx:Tryz.prog.info? t with
 | none=>rw [hx] at h1; simp at h1
 | some x =>
  rw [hx] at h1
  simp at h1
  obtain ⟨_,⟨z,hz,hz2⟩,_⟩:=h1
  exact ⟨z,hz2,fun w=>by simp [zeroValue,typeInfo,Go.program,Sem.run,hx,hz]⟩
theorem TI.ok.run_isAgg (w:World):(isAgg t).run Tryz.prog w=.ok i.agg w:=by
 have h1:=h.agg
 unfold tb at h1
 cases hx:Tryz.prog.underlying t with
 | none=>rw [hx] at h1; simp at h1
 | some d =>
  rw [hx] at h1
  simp only [isAgg,bW,run_underlying hx,ce]
  cases d <;> simp at h1 <;> simp [<- h1]
end ti
theorem xW {t:Nat} {b:Bool} (h1:tb t=some b) (w:World):(isAgg t).run Tryz.prog w=.ok b w:=by
 unfold tb at h1
 cases hx:Tryz.prog.underlying t with
 | none=>rw [hx] at h1; simp at h1
 | some d =>
  rw [hx] at h1
  simp only [isAgg,bW,run_underlying hx,ce]
  cases d <;> simp at h1 <;> simp [<- h1]
theorem jr {t s:Nat} (h1:Tryz.prog.cellsOf t=s + 1) (w:World):(sizeOf t).run Tryz.prog w=.ok (s + 1) w:=by
 unfold Program.cellsOf at h1
 cases hx:Tryz.prog.info? t with
 | none=>rw [hx] at h1; simp at h1
 | some x =>
  rw [hx] at h1
  simp at h1
  simp [sizeOf,typeInfo,Go.program,Sem.run,hx,h1]
theorem TI.ok.field {t:Nat} {i:TI} (h:TI.ok t i) (hst:i.st=true) {f fo sz:Nat} {ag:Bool} (hf:i.offs[f]? = some (fo,sz,ag)) :
  ∃ fs x,Tryz.prog.underlying t=some (.struct fs) /\ fs[f]? = some x /\ x.offset=fo /\ Tryz.prog.cellsOf x.type=sz /\ tb x.type=some ag:=by
 have h1:=h.st
 rw [hst] at h1
 unfold stT at h1
 split at h1
 ·rename_i fs hu
  have h2:=h.offs
  unfold yK at h2
  rw [hu] at h2
  simp only at h2
  have h3:=cZ (·[f]?) h2
  simp [hf] at h3
  obtain ⟨x,hx,e1,e2,e3⟩:=h3
  exact ⟨fs,x,hu,hx,e1,e2,e3⟩
 ·cases h1
def iG (l:List At) (off sz:Nat) (ag:Bool):Option SV:=match ag with
 | true=>match Nat.beq ((l.drop off).take sz).length sz with
  | true=>some (.agg ((l.drop off).take sz))
  | false=>none
 | false=>match l[off]? with
  | some a=>some (.one a)
  | none=>none
theorem GA {t off sz:Nat} {ag:Bool} (h1:tb t=some ag) (h2:Tryz.prog.cellsOf t=sz) (hsz:0 < sz) {g:Gh} {hs:Nat -> Value} {l:List At} {cs:List Value} (hl:oks g hs l cs) {x:SV} (e:iG l off sz ag=some x) (w:World) :
  ∃ v,(part t cs.toArray off).run Tryz.prog w=.ok v w /\ x.ok g hs v:=by
 obtain ⟨s,rfl⟩:∃ s,sz=s + 1:=⟨sz - 1,by omega⟩
 simp only [part,bW,xW h1,ce]
 cases ag with
 | true =>
  simp only [iG] at e
  split at e
  ·cases e
   refine ⟨.agg (cs.toArray.extract off (off + (s + 1))),by simp [jr h2],((cs.drop off).take (s + 1)),?_,iH _ (iI _ hl)⟩
   simp [List.extract_eq_take_drop]
  ·cases e
 | false =>
  simp only [iG] at e
  split at e
  ·rename_i a ha
   cases e
   obtain ⟨u,hu,h3,h4⟩:=kM hl ha
   exact ⟨u,by simp [hu],h3⟩
  ·cases e
theorem vf {w:World} {b:Nat} {cs:List Value} {ty:Nat} {fr:Nat × Nat} (h:w.heap[b]? = some (.cells cs.toArray ty fr)) (o:Nat):w.cell? ⟨b,o,none⟩=cs[o]? := by
 unfold World.cell?
 simp [h]
theorem mJ {t off:Nat} {i:TI} (ht:TI.ok t i) {w:World} {b:Nat} {cs:List Value} {ty:Nat} {fr:Nat × Nat} (hb:w.heap[b]? = some (.cells cs.toArray ty fr)) {g:Gh} {hs:Nat -> Value} {l:List At} (hl:oks g hs l cs) {x:SV} (e:iG l off i.size i.agg=some x) :
  ∃ v,(loadVar t ⟨b,off,none⟩).run Tryz.prog w=.ok v w /\ x.ok g hs v:=by
 simp only [loadVar,bW,ht.run_isAgg,ce]
 cases hag:i.agg with
 | true =>
  rw [hag] at e
  simp only [iG] at e
  split at e
  ·rename_i hle
   have hle:=dS hle
   cases e
   have ho:=iH i.size (iI off hl)
   have hlen:((cs.drop off).take i.size).length=i.size:=by rw [<- dF ho,hle]
   have hrun:=run_loadCells_list (P:=Tryz.prog) w ⟨b,off,none⟩ ((cs.drop off).take i.size) (fun j v hj=>by
    rw [Addr.add_lit,vf hb]
    rw [gP] at hj
    split at hj
    ·rwa [iC] at hj
    ·cases hj)
   rw [hlen] at hrun
   exact ⟨_,by simp [ht.run_size,hrun],_,rfl,ho⟩
  ·cases e
 | false =>
  rw [hag] at e
  simp only [iG] at e
  split at e
  ·rename_i a ha
   cases e
   obtain ⟨u,hu,h3,h4⟩:=kM hl ha
   refine ⟨u,?_,h3⟩
   simp [load,Sem.run,vf hb,hu]
  ·cases e
def wS (offs:List (Nat × Nat × Bool)) (cells:List At):List (Nat × List At) -> Option (List At)
 | []=>some cells
 | (i,l) :: rest=>match offs[i]? with
  | none=>none
  | some (off,sz,_)=>match Nat.beq l.length sz && Nat.ble (off + l.length) cells.length with
   | true=>wS offs (cells.take off ++ l ++ cells.drop (off + l.length)) rest
   | false=>none
theorem wg (off:Nat):∀ (l:List Value) (cells:List Value) (k:Nat),off + k + l.length <= cells.length ->
  (l.zipIdx k).foldl (fun (cs:Array Value) (x:Value × Nat)=>cs.setIfInBounds (off + x.2) x.1) cells.toArray=(cells.take (off + k) ++ l ++ cells.drop (off + k + l.length)).toArray
 | [],cells,k,h=>by simp
 | x :: l,cells,k,h=>by
  simp only [dq] at h
  rw [List.zipIdx_cons,List.foldl_cons,List.setIfInBounds_toArray,wg off l (cells.set (off + k) x) (k + 1) (by simp; omega)]
  congr 1
  apply mX
  intro j
  simp only [ru,di,eU,cK,gP,iC,dT,dq]
  have e1:min (off + (k + 1)) cells.length=off + k + 1:=by omega
  have e2:min (off + k) cells.length=off + k:=by omega
  rw [e1,e2]
  by_cases c1:j < off + k
  ·simp [c1,show j < off + k + 1 by omega,show j < off + k + 1 + l.length by omega,show j < off + k + (l.length + 1) by omega,show ¬ off + k=j by omega]
   omega
  ·by_cases c2:j=off + k
   ·subst c2
    simp [show off + k < off + k + 1 + l.length by omega,show off + k < off + (k + 1) by omega,show off + k < cells.length by omega]
   ·by_cases c3:j < off + k + 1 + l.length
    ·simp [c1,c3,show ¬ j < off + k + 1 by omega,show j < off + k + (l.length + 1) by omega]
     rw [show j - (off + k)=(j - (off + k + 1)) + 1 by omega]
     simp
    ·simp [c3,show ¬ j < off + k + (l.length + 1) by omega,show off + (k + 1) + l.length + (j - (off + k + 1 + l.length))=off + k + (l.length + 1) + (j - (off + k + (l.length + 1))) by omega]
     intro h1
     omega
def cF : SV -> List At
 | .one a=>[a]
 | .agg l=>l
theorem oV {g:Gh} {hs:Nat -> Value} {x:SV} {v:Value} (h:x.ok g hs v) (hj:∀ a,x=.one a -> dR v):oks g hs (cF x) v.cells.toList:=by
 cases x with
 | one a =>
  have hc:=hj a rfl
  rw [dR.cells hc]
  exact ⟨h,hc,trivial⟩
 | agg l =>
  obtain ⟨cs,rfl,h⟩:=h
  simpa [Value.cells,cF] using h
def evP (F:List (Nat × SC)):List (Nat × Operand) -> Option (List (Nat × List At))
 | []=>some []
 | (i,o) :: r=>match eL F o with
  | some (.sv (.agg l))=>match evP F r with
   | some rs=>some ((i,l) :: rs)
   | none=>none
  | some (.sv (.one .junk))=>none
  | some (.sv (.one a))=>match evP F r with
   | some rs=>some ((i,[a]) :: rs)
   | none=>none
  | _=>none
def zG (g:Gh) (hs:Nat -> Value):List (Nat × List At) -> List (Nat × Value) -> Prop
 | [],[]=>True
 | (i,l) :: r,(j,v) :: r'=>i=j /\ oks g hs l v.cells.toList /\ zG g hs r r'
 | _,_=>False
theorem u9 {c:eT} {S:St} {a:Act} {w:World} {g:Gh} {hs:Nat -> Value} (h:dJ c S a w g hs):∀ {l:List (Nat × Operand)} {r:List (Nat × List At)},evP S.F l=some r -> zG g hs r (l.map fun x=>(x.1,a.eval x.2))
 | [],r,e=>by cases e; trivial
 | (i,o) :: l,r,e=>by
  unfold evP at e
  split at e
  ·rename_i x hx
   split at e
   ·rename_i rs hr
    cases e
    exact ⟨rfl,oV (x:=.agg x) (bV h hx) (fun _ h=>by cases h),u9 h hr⟩
   ·cases e
  ·cases e
  ·rename_i x hne hx
   split at e
   ·rename_i rs hr
    cases e
    have hk:=bV h hx
    refine ⟨rfl,oV (x:=.one x) hk (fun _ _=>?_),u9 h hr⟩
    have hk2:x.ok g hs (a.eval o):=hk
    have:=hk2.2
    cases x <;> first | exact this | exact absurd rfl hne
   ·cases e
  ·cases e
theorem pX {g:Gh} {hs:Nat -> Value} {offs:List (Nat × Nat × Bool)} {place:Nat -> Option (Nat × Nat)} (hp:∀ i off sz ag,offs[i]? = some (off,sz,ag) -> place i=some (off,sz)) :
  ∀ {ps:List (Nat × List At)} {vs:List (Nat × Value)} {cells:List At} {us:List Value} {r:List At},zG g hs ps vs -> oks g hs cells us -> wS offs cells ps=some r -> ∃ us',Instr.fill place us.toArray vs=some us'.toArray /\ oks g hs r us'
 | [],[],cells,us,r,_,hc,e=>by cases e; exact ⟨us,rfl,hc⟩
 | [],_ :: _,_,_,_,h,_,_=>h.elim
 | _ :: _,[],_,_,_,h,_,_=>h.elim
 | (i,l) :: ps,(j,v) :: vs,cells,us,r,h,hc,e=>by
  obtain ⟨rfl,hl,h⟩:=h
  unfold wS at e
  split at e
  ·cases e
  ·rename_i off sz ag ho
   split at e
   ·rename_i hb
    obtain ⟨b1,b2⟩:=(cC _ _).mp hb
    replace b1:=dS b1
    replace b2:=dM b2
    have l1:=dF hl
    have l2:=dF hc
    simp only [fq] at l1
    unfold Instr.fill
    rw [hp _ _ _ _ ho]
    simp only
    rw [if_neg (by simp; omega)]
    have hset:=wg off v.cells.toList us 0 (by simp; omega)
    have e3:Array.foldl (fun (cs:Array Value) (x:Value × Nat)=>cs.setIfInBounds (off + x.2) x.1) us.toArray v.cells.zipIdx=(us.take off ++ v.cells.toList ++ us.drop (off + v.cells.toList.length)).toArray:=by
     rw [<- Array.foldl_toList]
     simpa using hset
    simp only [fq] at e3
    rw [e3]
    have hn:=ie (ie (iH off hc) hl) (iI (off + l.length) hc)
    rw [l1] at hn e
    exact pX hp h hn e
   ·cases e
def At.refs : At -> List Nat
 | .ptr i _=>[i]
 | .own i=>[i]
 | .oe i _ _=>[i]
 | .fn _ l=>l
 | .bsl i _=>[i]
 | .pptr i _ _=>[i]
 | .pown i _=>[i]
 | .opt i=>[i]
 | .pfn _ l=>l.map (·.1)
 | .gs i _=>[i]
 | .ge i _ _ _=>[i]
 | .vw i _ _ _=>[i]
 | _=>[]
theorem At.ok_hs {g:Gh} {hs hs':Nat -> Value} {a:At} {u:Value} (e:∀ i ∈ a.refs,hs' i=hs i) (h:a.ok g hs u):a.ok g hs' u:=by
 refine ⟨?_,by have:=h.2; cases a <;> exact this⟩
 have h1:=h.1
 cases a <;> simp only [At.raw,At.refs] at h1 e ⊢
 case ptr i off=>rw [e i (by simp)]; exact h1
 case own i=>rw [e i (by simp)]; exact h1
 case oe i k s=>rw [e i (by simp)]; exact h1
 case fn f l =>
  rw [h1]
  congr 2
  exact jc fun i hi=>(e i hi).symm
 case bsl i n=>rw [e i (by simp)]; exact h1
 case pptr i off b=>rw [e i (by simp)]; exact h1
 case pown i x=>rw [e i (by simp)]; exact h1
 case gs i k=>rw [e i (by simp)]; exact h1
 case ge i k q s=>rw [e i (by simp)]; exact h1
 case vw i lo m s=>rw [e i (by simp)]; exact h1
 case opt i=>rw [e i (by simp)]; exact h1
 case pfn f l =>
  refine ⟨fun p hp=>(e p.1 (List.mem_map_of_mem hp)).trans (h1.1 p hp),?_⟩
  rw [h1.2]
  congr 2
  exact jc fun i hi=>(e i hi).symm
 all_goals exact h1
def SV.refs : SV -> List Nat
 | .one a=>a.refs
 | .agg l=>l.flatMap At.refs
def SC.refs : SC -> List Nat
 | .sv s=>s.refs
 | .tup l=>l.flatMap SV.refs
theorem rQ {g:Gh} {hs hs':Nat -> Value}:∀ {l:List At} {us:List Value},(∀ i ∈ l.flatMap At.refs,hs' i=hs i) -> oks g hs l us -> oks g hs' l us
 | [],[],_,_=>trivial
 | [],_ :: _,_,h=>h.elim
 | _ :: _,[],_,h=>h.elim
 | a :: l,u :: us,e,h=>⟨At.ok_hs (fun i hi=>e i (by simp [hi])) h.1,h.2.1,rQ (fun i hi=>e i (by rw [jP,gO]; exact .inr hi)) h.2.2⟩
theorem SV.ok_hs {g:Gh} {hs hs':Nat -> Value} {a:SV} {u:Value} (e:∀ i ∈ a.refs,hs' i=hs i) (h:a.ok g hs u):a.ok g hs' u:=by
 cases a with
 | one a=>exact At.ok_hs e h
 | agg l =>
  obtain ⟨cs,h1,h2⟩:=h
  exact ⟨cs,h1,rQ e h2⟩
theorem Gw {g:Gh} {hs hs':Nat -> Value}:∀ {l:List SV} {us:List Value},(∀ i ∈ l.flatMap SV.refs,hs' i=hs i) -> fy g hs l us -> fy g hs' l us
 | [],[],_,_=>trivial
 | [],_ :: _,_,h=>h.elim
 | _ :: _,[],_,h=>h.elim
 | a :: l,u :: us,e,h=>⟨SV.ok_hs (fun i hi=>e i (by simp [hi])) h.1,Gw (fun i hi=>e i (by rw [jP,gO]; exact .inr hi)) h.2⟩
theorem SC.ok_hs {g:Gh} {hs hs':Nat -> Value} {a:SC} {u:Value} (e:∀ i ∈ a.refs,hs' i=hs i) (h:a.ok g hs u):a.ok g hs' u:=by
 cases a with
 | sv s=>exact SV.ok_hs e h
 | tup l =>
  obtain ⟨cs,h1,h2⟩:=h
  exact ⟨cs,h1,Gw e h2⟩
def br.refs : br -> List Nat
 | .box cells _ _=>cells.flatMap At.refs
 | .iter j _=>[j]
 | .grid _ _ _ _ (some (_,k))=>[k]
 | _=>[]
theorem br.ok_hs {g:Gh} {hs hs':Nat -> Value} {w:World} {x:Value} {it:br} (e:∀ i ∈ it.refs,hs' i=hs i) (h:it.ok g hs w x):it.ok g hs' w x:=by
 cases it with
 | box cells ty fz =>
  obtain ⟨b,cs,h1,h2,h3⟩:=h
  exact ⟨b,cs,h1,rQ e h2,h3⟩
 | row _ _ _ _=>exact h
 | map _=>exact h
 | iter j r =>
  obtain ⟨rb,m,clock,seen,h1,h2,h3⟩:=h
  exact ⟨rb,m,clock,seen,h1,(e j (by simp [br.refs])).trans h2,h3⟩
 | grid tyo ty s rows link =>
  obtain ⟨us,ocs,h1,h2,h3,h3',h4,h4',hk,h5⟩:=h
  refine ⟨us,ocs,h1,h2,h3,h3',h4,h4',fun p k hl=>?_,h5⟩
  subst hl
  rw [e k (by simp [br.refs])]
  exact hk p k rfl
 | siter _ _=>exact h
 | ext _=>exact h
 | gone=>trivial
def St.refsAll (S:St) (p:Nat -> Bool):Bool:=S.F.all (fun x=>x.2.refs.all p) && S.M.all (fun it=>it.refs.all p)
theorem sk {S:St} {p:Nat -> Bool} (h:S.refsAll p=true) {t:Nat} {x:SC} (hx:(t,x) ∈ S.F):∀ i ∈ x.refs,p i=true:=by
 simp only [St.refsAll,cC,cI] at h
 exact h.1 _ hx
theorem sj {S:St} {p:Nat -> Bool} (h:S.refsAll p=true) {j:Nat} {it:br} (hx:S.M[j]? = some it):∀ i ∈ it.refs,p i=true:=by
 simp only [St.refsAll,cC,cI] at h
 exact h.2 _ (dC hx)
theorem jv {v:Value} {b:Nat} (h:v.ownBlock=some b):blk v=some b:=by
 unfold Value.ownBlock at h
 split at h
 ·exact h
 ·cases h
theorem yn {v:Value} {b:Nat} (h:v.ownBlock=some b):fW v b:=by
 unfold Value.ownBlock at h
 split at h
 ·exact h
 ·cases h
theorem br.kept {g:Gh} {hs:Nat -> Value} {w w':World} {k:Option Nat} (hg:w.grownBy w' k) {x:Value} {it:br} (hb:∀ b,fW x b -> b < w.heap.size /\ some b ≠ k) (h:it.ok g hs w x):it.ok g hs w' x:=by
 cases it with
 | box cells ty fz =>
  obtain ⟨b,cs,rfl,h2,h3,h4⟩:=h
  obtain ⟨h5,h6⟩:=hb b rfl
  exact ⟨b,cs,rfl,h2,(hg.block b h5 h6).trans h3,h4⟩
 | row ty s r n =>
  obtain ⟨cs,h1,h2⟩:=h
  refine ⟨cs,h1.kept hg ?_,h2⟩
  cases hx:x.ownBlock with
  | none=>exact .inl rfl
  | some b=>exact .inr (by obtain ⟨_,h6⟩:=hb b (yn hx); exact h6)
 | map r =>
  obtain ⟨m,es,clock,rfl,h1,h3⟩:=h
  obtain ⟨h5,h6⟩:=hb m rfl
  exact ⟨m,es,clock,rfl,(hg.block m h5 h6).trans h1,h3⟩
 | iter j r =>
  obtain ⟨rb,m,clock,seen,rfl,h2,h3,h4⟩:=h
  obtain ⟨h5,h6⟩:=hb rb rfl
  exact ⟨rb,m,clock,seen,rfl,h2,(hg.block rb h5 h6).trans h3,h4⟩
 | siter s pos =>
  obtain ⟨rb,rfl,h3⟩:=h
  obtain ⟨h5,h6⟩:=hb rb rfl
  exact ⟨rb,rfl,(hg.block rb h5 h6).trans h3⟩
 | grid tyo ty s rows link =>
  obtain ⟨us,ocs,hx,h2,h3,h3',h4,h4',hk,h5⟩:=h
  have hne:∀ j,j < us.length -> (cR x j).ownBlock=none \/ (cR x j).ownBlock ≠ k:=fun j hj=>by
   cases he:(cR x j).ownBlock with
   | none=>exact .inl rfl
   | some b=>exact .inr (hb b (fW.part hx hj (jv he))).2
  exact ⟨us,ocs,hx,h2,h3.kept hg (hne 0 (by omega)),h3',fun p r n hp=>by
   obtain ⟨h0,cs,h6,h7⟩:=h4 p r n hp
   have:=(cg.1 hp).1
   exact ⟨h0,cs,h6.kept hg (hne (p + 1) (by omega)),h7⟩,h4',hk,h5⟩
 | ext X=>exact X.same g _ _ x (fun b e=>hg.block b (hb b e).1 (hb b e).2) h
 | gone=>trivial
theorem j7.kept {c:eT} {w w':World} {g:Gh} (h:j7 c w g) {k:Option Nat} (hg:w.grownBy w' k) (hk:∀ b,k=some b -> (c.may b \/ c.w0.heap.size <= b) /\ g b=none):j7 c w' g:=by
 refine ⟨hg.os.trans h.os,hg.tape.trans h.tape,hg.output.trans h.output,dp h.grows hg.size,fun b hb hm=>?_,h.ghle,h.ghnew,fun b o e=>?_⟩
 ·have hne:some b ≠ k:=fun e=>by
   rcases (hk b e.symm).1 with h1 | h1
   ·exact hm h1
   ·omega
  exact (hg.block b (gv hb h.grows) hne).trans (h.frame b hb hm)
 ·have hne:some b ≠ k:=fun e2=>by
   have:=(hk b e2.symm).2
   rw [this] at e
   cases e
  exact (hg.block b (h.pers.lt e) hne).trans (h.pers b o e)
theorem dy {it:br} (h:it.fz=false):it ≠ .gone:=fun e=>by subst e; cases h
section
variable {c:eT} {S:St} {a:Act} {w w':World} {g:Gh} {hs:Nat -> Value}
theorem dJ.grown (h:dJ c S a w g hs) (hg:w.grownBy w' none):dJ c S a w' g hs:=by
 refine ⟨h.size,h.defers,h.base.kept hg (fun b e=>by cases e),h.slots,fun i it hi=>?_,h.sep,fun i it hi hn b hb=>?_⟩
 ·by_cases hn:it=.gone
  ·subst hn; trivial
  ·exact br.kept hg (h:=h.items i it hi) fun b hb=>⟨(h.mine i it hi hn b hb).1,by simp⟩
 ·obtain ⟨h2,h3⟩:=h.mine i it hi hn b hb
  exact ⟨gv h2 hg.size,h3⟩
theorem dJ.updK (h:dJ c S a w g hs) {i:Nat} {it it':br} (hi:S.M[i]? = some it) (hf:it.fz=false) (hf':it'.fz=false) {kb:Option Nat} (hkb:∀ b,kb=some b -> fW (hs i) b) (hg:w.grownBy w' kb) (ho:it'.ok g hs w' (hs i)):dJ c ⟨S.F,S.M.set i it'⟩ a w' g hs:=by
 have hlt:i < S.M.length:=(cg.1 hi).1
 have hn:=dy hf
 have hset:∀ (j:Nat) (jt:br),(S.M.set i it')[j]? = some jt -> (j=i /\ jt=it') \/ (j ≠ i /\ S.M[j]? = some jt):=fun j jt hj=>by
  rw [dT] at hj
  by_cases e:i=j
  ·rw [if_pos e] at hj
   rw [if_pos hlt] at hj
   simp at hj
   exact .inl ⟨e.symm,hj.symm⟩
  ·rw [if_neg e] at hj; exact .inr ⟨Ne.symm e,hj⟩
 have hold:∀ (j:Nat) (jt:br),(S.M.set i it')[j]? = some jt -> jt ≠ .gone -> ∃ x,S.M[j]? = some x /\ x ≠ .gone /\ (jt.fz=false -> x.fz=false):=fun j jt hj hnj=>by
  rcases hset j jt hj with ⟨rfl,_⟩ | ⟨_,hj⟩
  ·exact ⟨it,hi,hn,fun _=>hf⟩
  ·exact ⟨jt,hj,hnj,fun h=>h⟩
 refine ⟨h.size,h.defers,h.base.kept hg (fun b e=>(h.mine i it hi hn b (hkb b e)).2 hf),h.slots,fun j jt hj=>?_,fun j k jt kt hjk hj hk hfj hnk b hb=>?_,fun j jt hj hnj b hb=>?_⟩
 ·rcases hset j jt hj with ⟨rfl,rfl⟩ | ⟨hne,hj⟩
  ·exact ho
  ·by_cases hnj:jt=.gone
   ·subst hnj; trivial
   ·exact br.kept hg (h:=h.items j jt hj) fun b hb=>⟨(h.mine j jt hj hnj b hb).1,fun e=>h.sep i j it jt (Ne.symm hne) hi hj hf hnj b (hkb b e.symm) hb⟩
 ·obtain ⟨jt',hj',hnj',hfj'⟩:=hold j jt hj (dy hfj)
  obtain ⟨kt',hk',hnk',_⟩:=hold k kt hk hnk
  exact h.sep j k jt' kt' hjk hj' hk' (hfj' hfj) hnk' b hb
 ·obtain ⟨jt',hj',hnj',hfj'⟩:=hold j jt hj hnj
  obtain ⟨h2,h3⟩:=h.mine j jt' hj' hnj' b hb
  exact ⟨gv h2 hg.size,fun hf=>h3 (hfj' hf)⟩
theorem dJ.upd (h:dJ c S a w g hs) {i:Nat} {it it':br} (hi:S.M[i]? = some it) (hf:it.fz=false) (hf':it'.fz=false) (hg:w.grownBy w' (blk (hs i))) (ho:it'.ok g hs w' (hs i)):dJ c ⟨S.F,S.M.set i it'⟩ a w' g hs:=h.updK hi hf hf' (fun _ e=>sx e) hg ho
theorem dJ.handles (h:dJ c S a w g hs) {p:Nat -> Bool} (hp:S.refsAll p=true) {hs':Nat -> Value} (e:∀ i,p i=true -> hs' i=hs i) (e2:∀ (i:Nat) (it:br),S.M[i]? = some it -> it ≠ .gone -> hs' i=hs i):dJ c S a w g hs':=by
 refine ⟨h.size,h.defers,h.base,fun t x hx=>SC.ok_hs (fun i hi=>e i (sk hp hx i hi)) (h.slots t x hx),fun i it hi=>?_,fun i j it jt hij hi hj hfi hnj=>?_,fun i it hi hni=>?_⟩
 ·by_cases hn:it=.gone
  ·subst hn; trivial
  ·rw [e2 i it hi hn]
   exact br.ok_hs (fun j hj=>e j (sj hp hi j hj)) (h.items i it hi)
 ·rw [e2 i it hi (dy hfi),e2 j jt hj hnj]
  exact h.sep i j it jt hij hi hj hfi hnj
 ·rw [e2 i it hi hni]
  exact h.mine i it hi hni
theorem dJ.new (h:dJ c S a w g hs) (hp:S.refsAll (fun i=>Nat.blt i S.M.length)=true) {x:Value} {it:br} (hg:w.grownBy w' none) (hb:∀ b,fW x b -> w.heap.size <= b /\ b < w'.heap.size)
  (ho:it.ok g (fun j=>if j=S.M.length then x else hs j) w' x):dJ c ⟨S.F,S.M ++ [it]⟩ a w' g (fun j=>if j=S.M.length then x else hs j):=by
 have h1:=h.grown hg
 have h2:=h1.handles hp (hs':=fun j=>if j=S.M.length then x else hs j) (fun i hi=>by
  have:=dM hi
  rw [if_neg (by omega)]) (fun i it hi _=>by
  have:=(cg.1 hi).1
  rw [if_neg (by omega)])
 have hset:∀ (j:Nat) (jt:br),(S.M ++ [it])[j]? = some jt -> (j=S.M.length /\ jt=it) \/ (j < S.M.length /\ S.M[j]? = some jt):=fun j jt hj=>by
  rw [ru] at hj
  split at hj
  ·rename_i e; exact .inr ⟨e,hj⟩
  ·rename_i e
   by_cases e2:j=S.M.length
   ·subst e2
    simp at hj
    exact .inl ⟨rfl,hj.symm⟩
   ·rw [ko (by simp; omega)] at hj
    cases hj
 have hold:∀ (j:Nat) (jt:br),S.M[j]? = some jt -> jt ≠ .gone -> ∀ b,fW (hs j) b -> b < w.heap.size:=fun j jt hj hn b hb=>(h.mine j jt hj hn b hb).1
 refine ⟨h2.size,h2.defers,h2.base,h2.slots,fun j jt hj=>?_,fun j k jt kt hjk hj hk hfj hnk b hb1=>?_,fun j jt hj hnj b hb1=>?_⟩
 ·rcases hset j jt hj with ⟨rfl,rfl⟩ | ⟨_,hj⟩
  ·simp only [if_true]
   exact ho
  ·exact h2.items j jt hj
 ·rcases hset j jt hj with ⟨rfl,rfl⟩ | ⟨j1,hj'⟩
  ·rcases hset k kt hk with ⟨rfl,rfl⟩ | ⟨k1,hk'⟩
   ·exact absurd rfl hjk
   ·simp only [if_true] at hb1
    rw [if_neg (by omega)]
    intro e
    have:=hold k kt hk' hnk b e
    have:=hb b hb1
    omega
  ·rcases hset k kt hk with ⟨rfl,rfl⟩ | ⟨k1,hk'⟩
   ·rw [if_neg (by omega)] at hb1
    intro e
    rw [if_pos rfl] at e
    have:=hold j jt hj' (dy hfj) b hb1
    have:=hb b e
    omega
   ·exact h2.sep j k jt kt hjk hj' hk' hfj hnk b hb1
 ·rcases hset j jt hj with ⟨rfl,rfl⟩ | ⟨j1,hj'⟩
  ·simp only [if_true] at hb1
   obtain ⟨x1,x2⟩:=hb b hb1
   refine ⟨x2,fun _=>⟨.inr (dp h.base.grows x1),?_⟩⟩
   cases hgb:g b with
   | none=>rfl
   | some o=>have:=h.base.pers.lt hgb; omega
  ·exact h2.mine j jt hj' hnj b hb1
end
abbrev gY := Nat -> Option TI
def gY.ok (co:gY):Prop:=∀ t i,co t=some i -> TI.ok t i
def AA : Value -> List Value -> Option Value
 | v,[]=>some v
 | .int k x, .int _ y :: r=>AA (.int k (if y < x then y else x)) r
 | _,_=>none
def AB : Value -> List Value -> Option Value
 | v,[]=>some v
 | .int k x, .int _ y :: r=>AB (.int k (if y > x then y else x)) r
 | _,_=>none
def HC (F:List (Nat × SC)):List Operand -> Option (List Value)
 | []=>some []
 | o :: r=>match evK F o with
  | some v=>match HC F r with
   | some vs=>some (v :: vs)
   | none=>none
  | none=>none
def yO (F:List (Nat × SC)):List Operand -> Option (List Nat)
 | []=>some []
 | o :: r=>match eL F o with
  | some (.sv (.one (.ptr i 0)))=>match yO F r with
   | some vs=>some (i :: vs)
   | none=>none
  | _=>none
def HA (S:St) (c a b:Operand):Option SC:=match evK S.F c with
 | some (.bool true)=>eL S.F a
 | some (.bool false)=>eL S.F b
 | _=>none
def Mi (S:St) (op:UnOp) (x:Operand):Option SC:=match op with
 | .not=>match evK S.F x with
  | some (.bool b)=>some (.sv (.one (.v (.bool (!b)))))
  | _=>none
 | .neg=>match evK S.F x with
  | some (.int k n)=>some (.sv (.one (.v (.int k (k.wrap (0 - n))))))
  | _=>none
 | _=>none
def KP (S:St) (op:BinOp) (x y:Operand):Option SC:=match evK S.F x with
 | some u=>match evK S.F y with
  | some v=>match HU op u v with
   | some r=>some (.sv (.one (.v r)))
   | none=>none
  | none=>none
 | none=>none
def Ml (co:gY) (S:St) (s:Nat) (x:Operand) (f:Nat):Option SC:=match eL S.F x with
 | some (.sv (.one (.ptr i off)))=>match co s with
  | some ti=>match ti.st with
   | true=>match ti.offs[f]? with
    | some (fo,sz + 1,_)=>some (.sv (.one (.ptr i (off + fo))))
    | _=>none
   | false=>none
  | none=>none
 | _=>none
def Di (co:gY) (S:St) (s:Nat) (x:Operand) (f:Nat):Option SC:=match eL S.F x with
 | some (.sv (.agg l))=>match co s with
  | some ti=>match ti.st with
   | true=>match ti.offs[f]? with
    | some (fo,sz + 1,ag)=>match iG l fo (sz + 1) ag with
     | some r=>some (.sv r)
     | none=>none
    | _=>none
   | false=>none
  | none=>none
 | _=>none
def wV (S:St) (x:Operand) (i:Nat):Option SC:=match eL S.F x with
 | some (.tup l)=>match l[i]? with
  | some r=>some (.sv r)
  | none=>none
 | _=>none
def rZ (co:gY) (S:St) (t:Nat) (x:Operand):Option SC:=match eL S.F x with
 | some (.sv (.one (.ptr i off)))=>match S.M[i]? with
  | some (.box cells _ _)=>match co t with
   | some ti=>match iG cells off ti.size ti.agg with
    | some r=>some (.sv r)
    | none=>none
   | none=>none
  | _=>none
 | _=>none
def Mk (S:St) (fn:Fn) (first captured:Array Operand):Option SC:=match fn with
 | .func f=>match first.toList with
  | []=>match yO S.F captured.toList with
   | some l=>some (.sv (.one (.fn f l)))
   | none=>none
  | _=>none
 | _=>none
def Dj (co:gY) (S:St) (t:Nat) (parts:Array (Nat × Operand)):Option SC:=match co t with
 | some ti=>match ti.agg && !ti.offs.isEmpty with
  | true=>match evP S.F parts.toList with
   | some ps=>match wS ti.offs (ti.zero.map .v) ps with
    | some r=>some (.sv (.agg r))
    | none=>none
   | none=>none
  | false=>none
 | none=>none
def Mj (S:St) (x:Operand):Option SC:=match eL S.F x with
 | some (.sv (.one (.ptr i off)))=>some (.sv (.one (.ptr i off)))
 | some (.sv (.one (.pe r s)))=>some (.sv (.one (.pe r s)))
 | _=>none
def HD (co:gY) (S:St) (s d:Nat) (x:Operand):Option SC:=match evK S.F x with
 | some (.int _ n)=>match co s with
  | some _=>match co d with
   | some ti=>match ti.kind with
    | some k=>some (.sv (.one (.v (.int k (k.wrap n)))))
    | none=>none
   | none=>none
  | none=>none
 | _=>none
def KO (co:gY) (S:St) (t:Nat) (x:Operand):Option SC:=match co t with
 | some ti=>match ti.sl with
  | some _=>match eL S.F x with
   | some (.sv (.one (.sl _ n)))=>some (.sv (.one (.v (.int .i64 n))))
   | some (.sv (.one (.own i)))=>match S.M[i]? with
    | some (.row _ _ _ n)=>some (.sv (.one (.v (.int .i64 n))))
    | _=>none
   | some (.sv (.one (.v (.slice _ n _))))=>some (.sv (.one (.v (.int .i64 n))))
   | _=>none
  | none=>none
 | none=>none
def HE (co:gY) (S:St) (c:Call):Option SC:=match c.callee with
 | .builtin b=>match b with
  | .len=>match c.args.toList with
   | [x]=>match c.argTypes.toList with
    | [t]=>KO co S t x
    | _=>none
   | _=>none
  | .min=>match HC S.F c.args.toList with
   | some (v :: x :: vs)=>match AA v (x :: vs) with
    | some r=>some (.sv (.one (.v r)))
    | none=>none
   | _=>none
  | .max=>match HC S.F c.args.toList with
   | some (v :: x :: vs)=>match AB v (x :: vs) with
    | some r=>some (.sv (.one (.v r)))
    | none=>none
   | _=>none
  | _=>none
 | _=>none
def evV (co:gY) (S:St) (o:Oper):Option SC:=match o.op with
 | .move x=>eL S.F x
 | .assign x=>eL S.F x
 | .pick c a b=>HA S c a b
 | .unOp op _ x=>Mi S op x
 | .binOp op _ x y _=>KP S op x y
 | .fieldAddr s x f=>Ml co S s x f
 | .field s x f=>Di co S s x f
 | .extract x i=>wV S x i
 | .load t x=>rZ co S t x
 | .makeFunc fn first captured=>Mk S fn first captured
 | .build t parts=>Dj co S t parts
 | .nilCheck x=>Mj S x
 | .convert s d x=>HD co S s d x
 | .call c=>HE co S c
 | _=>none
theorem BE {g:Gh} {hs:Nat -> Value} {v:Value} (h:dR v):SC.ok g hs (.sv (.one (.v v))) v:=⟨rfl,h⟩
theorem cX {e:Sem Value} {v:Value} {w:World} (h:e.run Tryz.prog w=.ok v w):(do pure (.value (<- e)):Sem Next).run Tryz.prog w=.ok (.value v) w:=by
 rw [bW,h]
 simp
theorem Fq {op:BinOp} {u v r:Value} (e:HU op u v=some r):dR r:=by
 unfold HU at e
 split at e
 case h_2=>cases e
 split at e
 case h_2=>cases e
 unfold Fr at e
 repeat' (first | (cases e; done) | (cases e; trivial) | split at e)
theorem yN {c:eT} {S:St} {a:Act} {w:World} {g:Gh} {hs:Nat -> Value} (h:dJ c S a w g hs):∀ {l:List Operand} {vs:List Value},HC S.F l=some vs -> l.map a.eval=vs
 | [],vs,e=>by cases e; rfl
 | o :: l,vs,e=>by
  unfold HC at e
  split at e
  ·rename_i v hv
   split at e
   ·rename_i vs' hvs
    cases e
    rw [gu,eQ h hv,yN h hvs]
   ·cases e
  ·cases e
theorem wW {c:eT} {S:St} {a:Act} {w:World} {g:Gh} {hs:Nat -> Value} (h:dJ c S a w g hs):∀ {l:List Operand} {is:List Nat},yO S.F l=some is -> l.map a.eval=is.map hs
 | [],is,e=>by cases e; rfl
 | o :: l,is,e=>by
  unfold yO at e
  split at e
  ·rename_i i hi
   split at e
   ·rename_i vs' hvs
    cases e
    have:=(bV h hi).1
    obtain ⟨b,h1,h2⟩:=this
    rw [gu,gu,wW h hvs,h2,h1]
   ·cases e
  ·cases e
theorem CL : ∀ {vs:List Value} {v r:Value} (w:World),AA v vs=some r -> dR v -> (vs.foldlM Builtin.min2 v).run Tryz.prog w=.ok r w /\ dR r
 | [],v,r,w,e,hv=>by cases e; exact ⟨by simp,hv⟩
 | x :: vs,v,r,w,e,hv=>by
  cases v
  case int k n =>
   cases x
   case int k' m =>
    simp only [AA] at e
    have:=CL w e trivial
    simpa [Builtin.min2] using this
   all_goals simp [AA] at e
  all_goals (cases x <;> simp [AA] at e)
theorem CM : ∀ {vs:List Value} {v r:Value} (w:World),AB v vs=some r -> dR v -> (vs.foldlM Builtin.max2 v).run Tryz.prog w=.ok r w /\ dR r
 | [],v,r,w,e,hv=>by cases e; exact ⟨by simp,hv⟩
 | x :: vs,v,r,w,e,hv=>by
  cases v
  case int k n =>
   cases x
   case int k' m =>
    simp only [AB] at e
    have:=CM w e trivial
    simpa [Builtin.max2] using this
   all_goals simp [AB] at e
  all_goals (cases x <;> simp [AB] at e)
theorem E1 {v x:Value} {r:Value} {vs:List Value} (e:AA v (x :: vs)=some r):dR v:=by
 cases v <;> first | trivial | (cases x <;> simp [AA] at e)
theorem E3 {v x:Value} {r:Value} {vs:List Value} (e:AB v (x :: vs)=some r):dR v:=by
 cases v <;> first | trivial | (cases x <;> simp [AB] at e)
section
variable {c:eT} {S:St} {a:Act} {w:World} {g:Gh} {hs:Nat -> Value} {co:gY}
theorem E5 {t e n cap:Nat} {ao:Option Addr} {ty:TypeId} (ht:Tryz.prog.underlying t=some (.slice e)) (w:World):(Builtin.len_ #[t] ty #[.slice ao n cap]).run Tryz.prog w=.ok (.int .i64 n) w:=by
 simp [Builtin.len_,run_underlying ht,goInt]
theorem fY {t:Nat} {e:Nat} (h:slT t=some e):Tryz.prog.underlying t=some (.slice e):=by
 unfold slT at h
 split at h
 ·rename_i x hx
  cases h
  exact hx
 ·cases h
theorem BL {t:Nat} {k:IntKind} (h:Hk t=some k):Tryz.prog.underlying t=some (.int k):=by
 unfold Hk at h
 split at h
 ·rename_i x hx
  cases h
  exact hx
 ·cases h
theorem na {t:Nat} {b:Bool} (h:tb t=some b) (w:World):(sizeOf t).run Tryz.prog w=.ok (Tryz.prog.cellsOf t) w:=by
 unfold tb at h
 cases hx:Tryz.prog.info? t with
 | none =>
  unfold Program.underlying at h
  rw [hx] at h
  cases h
 | some i=>simp [sizeOf,typeInfo,Go.program,Sem.run,hx,Program.cellsOf]
theorem sD {α β:Type} (f:α -> Sem β) (k:α -> β) (w:World):∀ (l:List α),(∀ x ∈ l,(f x).run Tryz.prog w=.ok (k x) w) -> (l.mapM f).run Tryz.prog w=.ok (l.map k) w
 | [],_=>by simp
 | x :: l,h=>by
  have ih:=sD f k w l (fun y hy=>h y (d7 _ hy))
  simp [List.mapM_cons,bW,h x (by simp),ih]
theorem uZ (ht:co.ok) (h:dJ c S a w g hs) {o:Oper} {x:SC} (e:evV co S o=some x):∃ v,(execOp a.eval o).run Tryz.prog w=.ok (.value v) w /\ x.ok g hs v:=by
 obtain ⟨dst,op,type,pos,after,guard⟩:=o
 cases op <;> simp only [evV] at e <;> try (cases e; done)
 case move x=>exact ⟨_,by simp [execOp],bV h e⟩
 case assign x=>exact ⟨_,by simp [execOp],bV h e⟩
 case pick k u v =>
  unfold HA at e
  split at e
  ·rename_i hk
   exact ⟨_,by simp [execOp,eQ h hk,asBool],bV h e⟩
  ·rename_i hk
   exact ⟨_,by simp [execOp,eQ h hk,asBool],bV h e⟩
  ·cases e
 case unOp op t x =>
  unfold Mi at e
  split at e
  ·split at e
   ·rename_i b hb
    cases e
    exact ⟨_,cX (v:=.bool (!b)) (by simp [eQ h hb,Op.unary]),BE trivial⟩
   ·cases e
  ·split at e
   ·rename_i k n hb
    cases e
    exact ⟨_,cX (v:=.int k (k.wrap (0 - n))) (by simp [eQ h hb,Op.unary,Op.intArith]),BE trivial⟩
   ·cases e
  ·cases e
 case binOp op t x y yt =>
  unfold KP at e
  split at e
  case h_2=>cases e
  rename_i u hu
  split at e
  case h_2=>cases e
  rename_i v hv
  split at e
  case h_2=>cases e
  rename_i r hr
  cases e
  refine ⟨r,cX ?_,BE (Fq hr)⟩
  rw [eQ h hu,eQ h hv]
  exact Jo w hr
 case fieldAddr s x f =>
  unfold Ml at e
  split at e
  case h_2=>cases e
  rename_i i off hx
  split at e
  case h_2=>cases e
  rename_i ti hti
  split at e
  case h_2=>cases e
  rename_i hst
  split at e
  case h_2=>cases e
  rename_i fo sz ag hf
  cases e
  obtain ⟨fs,fx,h1,h2,h3,h4,h5⟩:=(ht s ti hti).field hst hf
  obtain ⟨⟨b,hb,hv⟩,_⟩:=bV h hx
  refine ⟨.pointer (some ⟨b,off + fo,none⟩),cX ?_,⟨b,hb,rfl⟩,trivial⟩
  simp only [Instr.fieldAt,bW,run_underlying h1,ce,h2,hv,Instr.sureAddr,db,fieldPlace,jr h4]
  simp [h3,Addr.add_lit]
 case field s x f =>
  unfold Di at e
  split at e
  case h_2=>cases e
  rename_i l hx
  split at e
  case h_2=>cases e
  rename_i ti hti
  split at e
  case h_2=>cases e
  rename_i hst
  split at e
  case h_2=>cases e
  rename_i fo sz ag hf
  split at e
  case h_2=>cases e
  rename_i r hr
  cases e
  obtain ⟨fs,fx,h1,h2,h3,h4,h5⟩:=(ht s ti hti).field hst hf
  obtain ⟨cs,hv,hl⟩:=bV h hx
  obtain ⟨v,h6,h7⟩:=GA h5 h4 (by omega) hl hr w
  refine ⟨v,cX ?_,h7⟩
  simp only [Instr.field,bW,run_underlying h1,ce,h2,hv,asAgg,db,h3,h6]
 case extract x i =>
  unfold wV at e
  split at e
  case h_2=>cases e
  rename_i l hx
  split at e
  case h_2=>cases e
  rename_i r hr
  cases e
  obtain ⟨us,hv,hl⟩:=bV h hx
  obtain ⟨u,h1,h2⟩:=CA hl hr
  exact ⟨u,cX (by simp [hv,Instr.extract,h1]),h2⟩
 case load t x =>
  unfold rZ at e
  split at e
  case h_2=>cases e
  rename_i i off hx
  split at e
  case h_2=>cases e
  rename_i cells ty fz hm
  split at e
  case h_2=>cases e
  rename_i ti hti
  split at e
  case h_2=>cases e
  rename_i r hr
  cases e
  obtain ⟨⟨b,hb,hv⟩,_⟩:=bV h hx
  obtain ⟨b',cs,h1,h2,h3,h4⟩:=h.items i _ hm
  rw [hb] at h1
  simp at h1
  subst h1
  obtain ⟨v,h5,h6⟩:=mJ (ht t ti hti) h3 h2 hr
  exact ⟨v,cX (by simp [Instr.loadAt,hv,Instr.sureAddr,h5]),h6⟩
 case makeFunc fn first captured =>
  unfold Mk at e
  split at e
  case h_2=>cases e
  rename_i f
  split at e
  case h_2=>cases e
  rename_i hf
  split at e
  case h_2=>cases e
  rename_i l hl
  cases e
  have h1:=wW h hl
  have h2:first = #[]:=by simpa using hf
  have h3:captured.map a.eval=(l.map hs).toArray:=by
   apply oO.1
   rw [Array.toList_map]
   exact h1
  refine ⟨.func (.func f) #[] (l.map hs).toArray,cX ?_,rfl,trivial⟩
  subst h2
  rw [h3]
  simp [Instr.makeFunc]
 case build t parts =>
  unfold Dj at e
  split at e
  case h_2=>cases e
  rename_i ti hti
  split at e
  case h_2=>cases e
  rename_i hag0
  obtain ⟨hag,hne⟩:=(cC _ _).mp hag0
  split at e
  case h_2=>cases e
  rename_i ps hps
  split at e
  case h_2=>cases e
  rename_i r hr
  cases e
  have hp:=u9 h hps
  have htk:=ht t ti hti
  obtain ⟨z,hz1,hz2⟩:=htk.run_zero
  have ho:=htk.offs
  unfold yK at ho
  have hz0:oks g hs (ti.zero.map .v) ti.zero:=uC htk.zc
  have hpl:(Array.map (fun (x:Nat × Operand)=>(x.1,a.eval x.2)) parts).toList=parts.toList.map fun x=>(x.1,a.eval x.2):=by simp
  have hzc:z.cells=ti.zero.toArray:=by simp [<- hz1]
  have hax:=htk.agg
  rw [hag] at hax
  unfold tb at hax
  cases hu:Tryz.prog.underlying t with
  | none=>rw [hu] at hax; cases hax
  | some d =>
   rw [hu] at ho hax
   cases d <;> simp at hax
   case struct fs =>
    simp only at ho
    have hsz:∀ (f:Field),f ∈ fs.toList -> (sizeOf f.type).run Tryz.prog w=.ok (Tryz.prog.cellsOf f.type) w:=fun f hf=>by
     obtain ⟨j,hj⟩:=iB hf
     have h1:=cZ (·[j]?) ho
     simp only [cY,hj,eO] at h1
     cases h2:ti.offs[j]? with
     | none=>rw [h2] at h1; cases h1
     | some y =>
      rw [h2] at h1
      simp at h1
      exact na h1.2.2 w
    have hmm:(fs.mapM fun (f:Field)=>(do pure (f.offset,<- sizeOf f.type):Sem (Nat × Nat))).run Tryz.prog w=.ok (fs.map fun f=>(f.offset,Tryz.prog.cellsOf f.type)) w:=by
     rw [Array.mapM_eq_mapM_toList]
     have:=sD (fun (f:Field)=>(do pure (f.offset,<- sizeOf f.type):Sem (Nat × Nat))) (fun f=>(f.offset,Tryz.prog.cellsOf f.type)) w fs.toList (fun f hf=>by rw [bW,hsz f hf]; rfl)
     rw [map_eq_pure_bind,bW,this]
     simp only [ce,db]
     congr 1
     apply oO.1
     simp
    obtain ⟨us',h1,h2⟩:=pX (place:=fun i=>(fs.map fun f=>(f.offset,Tryz.prog.cellsOf f.type))[i]?) (fun i off sz ag hi=>by
     have h1:=cZ (·[i]?) ho
     simp only [cY,hi,eO] at h1
     cases hf:fs.toList[i]? with
     | none=>rw [hf] at h1; cases h1
     | some f =>
      rw [hf] at h1
      simp at h1
      rw [Array.getElem?_map,<- mW,hf]
      simp [h1.1,h1.2.1]) hp hz0 hr
    refine ⟨.agg us'.toArray,cX ?_,us',rfl,h2⟩
    simp only [Instr.build,bW,hz2,ce,run_underlying hu,hmm,hzc,hpl,h1,db]
   case array n el =>
    simp only at ho
    have hsz:(sizeOf el).run Tryz.prog w=.ok (Tryz.prog.cellsOf el) w:=by
     have h1:=cZ (·[0]?) ho
     simp only [cY] at h1
     cases h2:ti.offs[0]? with
     | none =>
      have:ti.offs=[]:=by simpa using h2
      rw [this] at hne
      cases hne
     | some y =>
      rw [h2] at h1
      cases h3:(List.range n)[0]? with
      | none=>rw [h3] at h1; cases h1
      | some z =>
       rw [h3] at h1
       simp at h1
       exact na h1.2.2 w
    obtain ⟨us',h1,h2⟩:=pX (place:=fun i=>some (i * Tryz.prog.cellsOf el,Tryz.prog.cellsOf el)) (fun i off sz ag hi=>by
     have h1:=cZ (·[i]?) ho
     simp only [cY,hi,eO] at h1
     cases h3:(List.range n)[i]? with
     | none=>rw [h3] at h1; cases h1
     | some z =>
      have hz:z=i:=by
       have:=(cg.1 h3).2
       simpa using this.symm
      subst hz
      rw [h3] at h1
      simp at h1
      obtain ⟨e1,e2,_⟩:=h1
      subst e1 e2
      rfl) hp hz0 hr
    refine ⟨.agg us'.toArray,cX ?_,us',rfl,h2⟩
    simp only [Instr.build,bW,hz2,ce,run_underlying hu,hsz,hzc,hpl,h1,db]
 case nilCheck x =>
  unfold Mj at e
  split at e
  ·rename_i i off hx
   cases e
   obtain ⟨⟨b,hb,hv⟩,_⟩:=bV h hx
   exact ⟨_,by simp [execOp,hv],⟨b,hb,rfl⟩,trivial⟩
  ·rename_i r s hx
   cases e
   obtain ⟨⟨b,o,x,hv,h2⟩,_⟩:=bV h hx
   exact ⟨_,by simp [execOp,hv],⟨b,o,x,rfl,h2⟩,trivial⟩
  ·cases e
 case convert s d x =>
  unfold HD at e
  split at e
  case h_2=>cases e
  rename_i k0 n hx
  split at e
  case h_2=>cases e
  rename_i si hsi
  split at e
  case h_2=>cases e
  rename_i ti hti
  split at e
  case h_2=>cases e
  rename_i k hk
  cases e
  have h1:=BL ((ht d ti hti).kind.trans hk)
  have hx':=eQ h hx
  have h2:=(ht s si hsi).agg
  unfold tb at h2
  cases hu:Tryz.prog.underlying s with
  | none=>rw [hu] at h2; cases h2
  | some ds =>
   refine ⟨.int k (k.wrap n),cX ?_,BE trivial⟩
   simp only [convert,bW,run_underlying hu,run_underlying h1,ce,hx',Conv.intToInt]
   simp
 case call cl =>
  obtain ⟨callee,args,argTypes⟩:=cl
  unfold HE at e
  split at e
  case h_2=>cases e
  rename_i b hb
  simp only at hb
  subst hb
  split at e
  ·split at e
   case h_2=>cases e
   rename_i x hx
   split at e
   case h_2=>cases e
   rename_i t ht'
   simp only at hx ht' e
   have hx:args = #[x]:=by rw [<- Array.toArray_toList (xs:=args),hx]
   have ht':argTypes = #[t]:=by rw [<- Array.toArray_toList (xs:=argTypes),ht']
   subst hx ht'
   unfold KO at e
   split at e
   case h_2=>cases e
   rename_i ti hti
   split at e
   case h_2=>cases e
   rename_i el hel
   have hu:=fY ((ht t ti hti).sl.trans hel)
   have fin:∀ {ao:Option Addr} {n cap:Nat},a.eval x=.slice ao n cap -> ∃ v,(execOp a.eval ⟨dst, .call ⟨.builtin .len,#[x],#[t]⟩,type,pos,after,guard⟩).run Tryz.prog w=.ok (.value v) w /\ SC.ok g hs (.sv (.one (.v (.int .i64 n)))) v:=fun {ao n cap} hv =>
    ⟨.int .i64 n,by simp [execOp,resolve,invoke,builtin,hv,E5 hu],BE trivial⟩
   split at e
   ·rename_i r n hx
    cases e
    obtain ⟨⟨_,ao,cap,hv⟩,_⟩:=bV h hx
    exact fin hv
   ·rename_i i hx
    split at e
    case h_2=>cases e
    rename_i ty s r n hm
    cases e
    have hv:a.eval x=hs i:=(bV h hx).1
    obtain ⟨cs,⟨_,h1⟩,_⟩:=h.items i _ hm
    rcases h1 with ⟨h1,rfl⟩ | ⟨gb,of,cap,cur,h1,_⟩
    ·exact fin (hv.trans h1)
    ·exact fin (hv.trans h1)
   ·rename_i ao n cap hx
    cases e
    exact fin (bV h hx).1
   ·cases e
  ·split at e
   case h_2=>cases e
   rename_i v x vs hv
   split at e
   case h_2=>cases e
   rename_i r hr
   cases e
   have h1:=yN h hv
   obtain ⟨h2,h3⟩:=CL w hr (E1 hr)
   refine ⟨r,?_,BE h3⟩
   simp only at h1
   refine (cZ (fun z=>Sem.run Tryz.prog z w) ?_).trans (cX (e:=Builtin.min_ argTypes type (args.map a.eval)) (v:=r) ?_)
   ·simp [execOp,resolve,invoke,builtin]
   ·unfold Builtin.min_
    simp only [Array.toList_map,h1]
    exact h2
  ·split at e
   case h_2=>cases e
   rename_i v x vs hv
   split at e
   case h_2=>cases e
   rename_i r hr
   cases e
   have h1:=yN h hv
   obtain ⟨h2,h3⟩:=CM w hr (E3 hr)
   refine ⟨r,?_,BE h3⟩
   simp only at h1
   refine (cZ (fun z=>Sem.run Tryz.prog z w) ?_).trans (cX (e:=Builtin.max_ argTypes type (args.map a.eval)) (v:=r) ?_)
   ·simp [execOp,resolve,invoke,builtin]
   ·unfold Builtin.max_
    simp only [Array.toList_map,h1]
    exact h2
  ·cases e
end
def iA (n:Nat) (dst:Option Nat) (x:SC) (S:St):Option St:=match dst with
 | none=>some S
 | some d=>match Nat.blt d n with
  | true=>some (S.put (some d) x)
  | false=>none
def dX (ops:Array Oper) (F:List (Nat × SC)) (o:Oper):Option Bool:=match o.guard with
 | none=>some true
 | some (j,b)=>match ops[j]? with
  | none=>none
  | some oj=>match oj.dst with
   | none=>none
   | some t=>match look t F with
    | some (.sv (.one (.v (.bool c))))=>some (c == b)
    | some (.tup [])=>some false
    | _=>none
def BG (n:Nat) (dst:Option Nat) (it:br) (x:SC) (S:St):Option St:=match S.refsAll (fun i=>Nat.blt i S.M.length) && it.refs.all (fun i=>Nat.blt i S.M.length) with
 | true=>iA n dst x ⟨S.F,S.M ++ [it]⟩
 | false=>none
def KD : Rl (Array MapEntry × Nat):=⟨fun _ D=>D=(#[],0),fun _ _ _ _ h=>h⟩
def tJ (co:gY) (n:Nat) (S:St) (dst:Option Nat) (t:Nat) (x y:Operand):Option St:=match eL S.F x with
 | some (.sv (.one (.ptr i off)))=>match S.M[i]? with
  | some (.box cells ty false)=>match co t with
   | some ti=>match eL S.F y with
    | some (.sv s)=>match s with
     | .one .junk=>none
     | s=>match Nat.beq (cF s).length ti.size && Nat.ble (off + (cF s).length) cells.length with
      | true=>iA n dst (.tup []) ⟨S.F,S.M.set i (.box (cells.take off ++ cF s ++ cells.drop (off + (cF s).length)) ty false)⟩
      | false=>none
    | _=>none
   | none=>none
  | _=>none
 | _=>none
def evM (co:gY) (n:Nat) (S:St) (o:Oper):Option St:=match o.op with
 | .alloc t=>match co t with
  | some ti=>BG n o.dst (.box (ti.zero.map .v) t false) (.sv (.one (.ptr S.M.length 0))) S
  | none=>none
 | .box t x=>match eL S.F x with
  | some (.sv s)=>match s with
   | .one .junk=>none
   | s=>BG n o.dst (.box (cF s) t false) (.sv (.one (.ptr S.M.length 0))) S
  | _=>none
 | .store t x y=>tJ co n S o.dst t x y
 | .makeMap _ r=>match r with
  | none=>BG n o.dst (.map KD) (.sv (.one (.own S.M.length))) S
  | some _=>none
 | .buildSlice t len parts=>match co t with
  | some ti=>match ti.sl with
   | some el=>match co el with
    | some te=>match Nat.ble (len * te.size) 16777216 && Nat.blt 0 (len * te.size) with
     | true=>match evP S.F parts.toList with
      | some ps=>match wS ((List.range len).map fun i=>(i * te.size,te.size,te.agg)) ((List.range (len * te.size)).map fun j=>.v (te.zero.getD (j % te.size) undef)) ps with
       | some r=>BG n o.dst (.box r el false) (.sv (.one (.bsl S.M.length len))) S
       | none=>none
      | none=>none
     | false=>none
    | none=>none
   | none=>none
  | none=>none
 | _=>none
section
variable {c:eT} {S S':St} {a:Act} {w:World} {g:Gh} {hs:Nat -> Value} {co:gY} {n:Nat}
theorem fR (h:dJ c S a w g hs) (hn:c.n=n) {dst:Option Nat} {x:SC} {v:Value} (hx:x.ok g hs v) (e:iA n dst x S=some S'):dJ c S' (a.put dst v) w g hs:=by
 unfold iA at e
 split at e
 ·cases e; exact h
 ·rename_i d
  split at e
  ·rename_i hd
   cases e
   have:=dM hd
   exact h.put (fun d' hd'=>by cases hd'; rw [hn]; exact this) (fun _ _=>hx)
  ·cases e
theorem dU (h:dJ c S a w g hs) {ops:Array Oper} {o:Oper} {r:Bool} (e:dX ops S.F o=some r):Region.wanted o (yielded ops a.tmps)=r:=by
 unfold dX at e
 unfold Region.wanted
 split at e
 ·rename_i hg
  rw [hg]
  cases e
  rfl
 ·rename_i j b hg
  rw [hg]
  simp only
  split at e
  ·cases e
  ·rename_i oj hoj
   split at e
   ·cases e
   ·rename_i t ht
    rw [RM.yielded_eq,hoj]
    simp only [Option.bind_some,ht]
    split at e
    ·rename_i cc hl
     cases e
     have:=(h.slots t _ (dZ hl)).1
     rw [this]
     cases cc <;> cases b <;> rfl
    ·rename_i hl
     cases e
     obtain ⟨us,h1,h2⟩:=h.slots t _ (dZ hl)
     cases us with
     | nil=>rw [h1]; rfl
     | cons _ _=>exact h2.elim
    ·cases e
theorem sK (w:World) (o:Obj):w.grownBy (w.alloc o) none:=World.grownBy_alloc w o none
theorem Da (h:dJ c S a w g hs) (hn:c.n=n) {dst:Option Nat} {it:br} {x:SC} {v h0:Value} {w':World} (hg:w.grownBy w' none) (hb:∀ b,fW h0 b -> w.heap.size <= b /\ b < w'.heap.size) (hf:it.fz=false)
  (hi:it.ok g hs w' h0) (hx:∀ hs':Nat -> Value,hs' S.M.length=h0 -> x.ok g hs' v) (e:BG n dst it x S=some S'):∃ hs',dJ c S' (a.put dst v) w' g hs':=by
 unfold BG at e
 split at e
 case h_2=>cases e
 rename_i hr
 obtain ⟨h1,h2⟩:=(cC _ _).mp hr
 have hk:=h.new h1 (x:=h0) (it:=it) hg hb (br.ok_hs (fun i hi=>by
  have:=dM ((cI.1 h2) i hi)
  rw [if_neg (by omega)]) hi)
 exact ⟨_,fR hk hn (hx _ (by simp)) e⟩
theorem jw {s:SV} {v:Value} (hs1:s ≠ .one .junk) (h:s.ok g hs v):oks g hs (cF s) v.cells.toList:=
 oV h fun a ha=>by
  subst ha
  have:=h.2
  cases a <;> first | exact this | exact absurd rfl hs1
def Ie (c:eT) (S':St) (o:Oper) (a:Act) (w:World) (g:Gh):Prop:=∃ v w' hs',((execOp a.eval o).run Tryz.prog w=.ok (.value v) w' \/ (execOp a.eval o).run Tryz.prog w=.ok .skip w' /\ v=undef) /\ dJ c S' (a.put o.dst v) w' g hs'
theorem gA {e:Sem Value} {v:Value} {w w':World} (h:e.run Tryz.prog w=.ok v w'):(do pure (.value (<- e)):Sem Next).run Tryz.prog w=.ok (.value v) w':=by
 rw [bW,h]
 simp
theorem rR (h:dJ c S a w g hs) (hn:c.n=n) {o:Oper} {cells:List At} {cs:List Value} {t:Nat} {x:SC} {v:Value} (hc:oks g hs cells cs)
  (hrun:(execOp a.eval o).run Tryz.prog w=.ok (.value v) (w.alloc (.cells cs.toArray t))) (hx:∀ hs':Nat -> Value,hs' S.M.length=.pointer (some ⟨w.heap.size,0,none⟩) -> x.ok g hs' v)
  (e:BG n o.dst (.box cells t false) x S=some S'):Ie c S' o a w g:=by
 obtain ⟨hs',hk⟩:=Da (it:=.box cells t false) h hn (w':=w.alloc (.cells cs.toArray t)) (h0:=.pointer (some ⟨w.heap.size,0,none⟩)) (v:=v) (sK _ _)
  (fun b hb=>by have hb:=Option.some.inj hb; subst hb; simp) rfl ⟨w.heap.size,cs,rfl,hc,heap_alloc_new w _,fun h=>by cases h⟩ hx e
 exact ⟨v,_,hs', .inl hrun,hk⟩
theorem tD {i:Nat} {hs':Nat -> Value} {b:Nat} (e:hs' i=.pointer (some ⟨b,0,none⟩)):SC.ok g hs' (.sv (.one (.ptr i 0))) (.pointer (some ⟨b,0,none⟩)):=⟨⟨b,e,rfl⟩,trivial⟩
theorem HB (ht:co.ok) (h:dJ c S a w g hs) (hn:c.n=n) {o:Oper} (e:evM co n S o=some S'):Ie c S' o a w g:=by
 obtain ⟨dst,op,type,pos,after,guard⟩:=o
 cases op <;> simp only [evM] at e <;> try (cases e; done)
 case alloc t =>
  split at e
  case h_2=>cases e
  rename_i ti hti
  have htk:=ht t ti hti
  obtain ⟨z,hz1,hz2⟩:=htk.run_zero
  have hzc:z.cells=ti.zero.toArray:=by simp [<- hz1]
  refine rR (cs:=ti.zero) h hn (uC htk.zc) (gA (v:=.pointer (some ⟨w.heap.size,0,none⟩)) ?_) (fun hs' e=>tD e) e
  simp only [Instr.alloc,bW,hz2,ce,newVar,newRow,newObj,Sem.run,db,hzc]
  rfl
 case box t x =>
  split at e
  case h_2=>cases e
  rename_i s hs1
  split at e
  ·cases e
  ·rename_i hne
   have hv:=bV h hs1
   have hc:=jw (fun e=>hne e) hv
   refine rR (cs:=(a.eval x).cells.toList) h hn hc (gA (v:=.pointer (some ⟨w.heap.size,0,none⟩)) ?_) (fun hs' e=>tD e) e
   simp [Instr.box,newVar,newRow,newObj,Sem.run]
 case store t x y =>
  unfold tJ at e
  split at e
  case h_2=>cases e
  rename_i i off hx
  split at e
  case h_2=>cases e
  rename_i cells ty hm
  split at e
  case h_2=>cases e
  rename_i ti hti
  split at e
  case h_2=>cases e
  rename_i s hs1
  split at e
  ·cases e
  ·rename_i hne
   split at e
   case h_2=>cases e
   rename_i hb
   obtain ⟨b1,b2⟩:=(cC _ _).mp hb
   replace b1:=dS b1
   replace b2:=dM b2
   have hv:=bV h hs1
   have hc:=jw (fun e=>hne e) hv
   have htk:=ht t ti hti
   obtain ⟨⟨b,hb1,hv1⟩,_⟩:=bV h hx
   obtain ⟨b',cs,h1,h2,h3,h4⟩:=h.items i _ hm
   rw [hb1] at h1
   simp at h1
   subst h1
   have l1:=dF hc
   have l2:=dF h2
   have hst:=run_storeCells_at (P:=Tryz.prog) b off ty (a.eval y).cells.toList 0 cs.toArray w h3 (by simp at l1 ⊢; omega) (fun v hv=>by
    have:=kd hc v hv
    cases v <;> first | rfl | exact this.elim)
   simp only [eG] at hst
   have hup:=h.upd (w':=w.setRow b (cs.take off ++ (a.eval y).cells.toList ++ cs.drop (off + (a.eval y).cells.toList.length)).toArray) (it':=.box (cells.take off ++ cF s ++ cells.drop (off + (cF s).length)) ty false) hm rfl rfl ?_ ?_
   ·refine ⟨undef,_,hs, .inr ⟨?_,rfl⟩,fR (x:=.tup []) hup hn (v:=undef) ⟨[],rfl,trivial⟩ e⟩
    simp only [execOp,Instr.storeAt,hv1,Instr.sureAddr,storeVar,bW,db,ce,htk.run_size]
    rw [if_neg (by simp at l1; simp; omega)]
    simp only [hst,ce]
   ·rw [hb1]
    exact ⟨rfl,rfl,rfl,by simp,fun k hk hne=>setRow_other w b k _ (fun e=>hne (by rw [e]; rfl))⟩
   ·refine ⟨b,_,hb1,?_,setRow_heap w b _ _ _ _ h3,fun h=>by cases h⟩
    have e1:(a.eval y).cells.toList.length=(cF s).length:=l1.symm
    rw [e1]
    exact ie (ie (iH off h2) hc) (iI _ h2)
 case makeMap t r =>
  split at e
  case h_2=>cases e
  obtain ⟨hs',hk⟩:=Da (it:=.map KD) h hn (w':=w.alloc (.map #[] 0)) (x:=.sv (.one (.own S.M.length))) (h0:=.map (some w.heap.size)) (v:=.map (some w.heap.size)) (sK _ _)
   (fun b hb=>by have hb:=Option.some.inj hb; subst hb; simp) rfl ⟨w.heap.size,#[],0,rfl,heap_alloc_new w _,rfl⟩ (fun hs' e=>⟨e.symm,trivial⟩) e
  refine ⟨_,_,hs', .inl (gA (v:=.map (some w.heap.size)) ?_),hk⟩
  simp [Instr.makeMap,newObj,Sem.run]
 case buildSlice t len parts =>
  split at e
  case h_2=>cases e
  rename_i ti hti
  split at e
  case h_2=>cases e
  rename_i el hel
  split at e
  case h_2=>cases e
  rename_i te hte
  split at e
  case h_2=>cases e
  rename_i hb
  obtain ⟨b1,b2⟩:=(cC _ _).mp hb
  replace b1:=dM b1
  replace b2:=dM b2
  split at e
  case h_2=>cases e
  rename_i ps hps
  split at e
  case h_2=>cases e
  rename_i r hr
  have hu:=fY ((ht t ti hti).sl.trans hel)
  have htk:=ht el te hte
  obtain ⟨z,hz1,hz2⟩:=htk.run_zero
  have hzc:z.cells=te.zero.toArray:=by simp [<- hz1]
  have hp:=u9 h hps
  have hz0:oks g hs ((List.range (len * te.size)).map fun j=>.v (te.zero.getD (j % te.size) undef)) ((List.range (len * te.size)).map fun j=>te.zero.getD (j % te.size) undef):=by
   have:=uC (g:=g) (hs:=hs) (l:=(List.range (len * te.size)).map fun j=>te.zero.getD (j % te.size) undef) (by
    rw [cI]
    intro x hx
    obtain ⟨j,hj,rfl⟩:=cP.1 hx
    have gS:0 < te.size:=by
     rcases kn te.size with h0 | h0
     ·rw [h0] at b2; omega
     ·exact h0
    have hlt:j % te.size < te.zero.length:=by rw [htk.zs]; exact km _ gS
    have:=cI.1 htk.zc (te.zero[j % te.size]) (by simp)
    simpa [List.getD,hlt] using this)
   rw [kk] at this
   exact this
  obtain ⟨us',h1,h2⟩:=pX (place:=fun i=>some (i * te.size,te.size)) (fun i off sz ag hi=>by
   rw [cY] at hi
   cases h3:(List.range len)[i]? with
   | none=>rw [h3] at hi; cases hi
   | some j =>
    have hj:j=i:=by
     have:=(cg.1 h3).2
     simpa using this.symm
    subst hj
    rw [h3] at hi
    simp at hi
    obtain ⟨e1,e2,_⟩:=hi
    subst e1 e2
    rfl) hp hz0 hr
  refine rR (cs:=us') (x:=.sv (.one (.bsl S.M.length len))) (v:=.slice (some ⟨w.heap.size,0,none⟩) len len) h hn h2 (gA ?_) (fun hs' e=>⟨⟨w.heap.size,e,rfl⟩,trivial⟩) e
  have hpl:(Array.map (fun (x:Nat × Operand)=>(x.1,a.eval x.2)) parts).toList=parts.toList.map fun x=>(x.1,a.eval x.2):=by simp
  have hza:(Array.range (len * te.size)).map (fun j=>te.zero.toArray[j % te.zero.toArray.size]!)=((List.range (len * te.size)).map fun j=>te.zero.getD (j % te.size) undef).toArray:=by
   have gS:0 < te.size:=by
    rcases kn te.size with h0 | h0
    ·rw [h0] at b2; omega
    ·exact h0
   apply oO.1
   simp only [Array.toList_map,Array.toList_range]
   refine jc fun j _=>?_
   have hlt:j % te.size < te.zero.length:=by rw [htk.zs]; exact km _ gS
   have hlt2:j % te.zero.length < te.zero.length:=by rw [htk.zs] at hlt ⊢; exact hlt
   simp only [f9,htk.zs]
   simp [List.getD,hlt]
  simp only [Instr.buildSlice,bW,run_underlying hu,ce,htk.run_size]
  rw [if_neg (by omega)]
  rw [if_neg (show ¬ len * te.size=0 by omega)]
  simp only [bW,db,ce,hz2,hzc,hza,hpl,h1,newRow,newObj,Sem.run]
  rfl
end
def ev1 (co:gY) (n:Nat) (ops:Array Oper) (S:St) (o:Oper):Option St:=match dX ops S.F o with
 | some true=>match evV co S o with
  | some x=>iA n o.dst x S
  | none=>evM co n S o
 | some false=>iA n o.dst (.tup []) S
 | none=>none
def evL (co:gY) (n:Nat) (ops:Array Oper):List Oper -> St -> Option St
 | [],S=>some S
 | o :: l,S=>match ev1 co n ops S o with
  | some S'=>evL co n ops l S'
  | none=>none
def WL (c:eT) (ops:Array Oper) (L:List Oper) (S:St) (N:Act -> World -> Prop):Prop:=∀ a w,Ok c S a w -> wpList Tryz.prog ops (gm c N) L a w
section
variable {c:eT} {S S':St} {ops:Array Oper} {rest:List Oper} {N:Act -> World -> Prop} {co:gY} {n:Nat}
theorem lA {g:Gh} {hs:Nat -> Value}:SC.ok g hs (.tup []) undef:=⟨[],rfl,trivial⟩
theorem HF (ht:co.ok) (hn:c.n=n) {o:Oper} (e:ev1 co n ops S o=some S') {a:Act} {w:World} (h:Ok c S a w) (hk:∀ a' w',Ok c S' a' w' -> wpList Tryz.prog ops (gm c N) rest a' w'):wpList Tryz.prog ops (gm c N) (o :: rest) a w:=by
 obtain ⟨g,hs,h⟩:=h
 unfold ev1 at e
 unfold wpList
 split at e
 ·rename_i hw
  rw [if_pos (dU h hw)]
  refine .inl ?_
  unfold Oper.wp
  split at e
  ·rename_i x hx
   obtain ⟨v,h1,h2⟩:=uZ ht h hx
   rw [h1]
   exact hk _ _ ⟨g,hs,fR h hn h2 e⟩
  ·obtain ⟨v,w',hs',h1 | ⟨h1,rfl⟩,h2⟩:=HB ht h hn e
   ·rw [h1]
    exact hk _ _ ⟨g,hs',h2⟩
   ·rw [h1]
    exact hk _ _ ⟨g,hs',h2⟩
 ·rename_i hw
  rw [if_neg (by rw [dU h hw]; exact oR)]
  exact hk _ _ ⟨g,hs,fR h hn lA e⟩
 ·cases e
theorem AV (ht:co.ok) (hn:c.n=n):∀ (l:List Oper) {S:St},evL co n ops l S=some S' -> WL c ops rest S' N -> WL c ops (l ++ rest) S N
 | [],S,e,h=>by cases e; exact h
 | o :: l,S,e,h=>fun a w hk=>by
  unfold evL at e
  split at e
  ·rename_i S1 h1
   exact HF ht hn h1 hk (AV ht hn l e h)
  ·cases e
theorem H9 (ht:co.ok) (hn:c.n=n) (k:Nat) (S':St) {L:List Oper} (e:evL co n ops (L.take k) S=some S') (h:WL c ops (L.drop k) S' N):WL c ops L S N:=by
 have:=AV (N:=N) ht hn (L.take k) e h
 rwa [List.take_append_drop] at this
theorem bH (h:∀ a w,Ok c S a w -> N a w):WL c ops [] S N:=h
end
def En (c:eT) (S:St) (N:Act -> World -> Prop):Prop:=∀ a w,Ok c S a w -> N a w
abbrev Po := Act -> World -> Prop
abbrev cwp (code:Code) (Q:Exit -> Act -> World -> Prop):Po:=fun a w=>Code.wp Tryz.prog code Q a w
def sJ : List (Nat × Po) -> Nat -> Po
 | [],_=>fun _ _=>False
 | (k,p) :: l,i=>match Nat.beq k i with
  | true=>p
  | false=>sJ l i
def PQ (c:eT) (N:Po) (E:List (Nat × Po)) (R:Po):Exit -> Act -> World -> Prop
 | .normal,a,w=>N a w
 | .exit i,a,w=>sJ E i a w
 | .ret,a,w=>R a w
 | .panic ch,a,w=>c.pan ch a w
 | _,_,_=>False
theorem Bn {c:eT} {K K':Po} {o:Oper} {a:Act} {w:World} {N:Po} (h:o.wp Tryz.prog a w N (gm c K)):o.wp Tryz.prog a w N (gm c K'):=by
 unfold Oper.wp at *
 generalize (execOp a.eval o).run Tryz.prog w=r at *
 cases r with
 | ok n w' =>
  cases n <;> simp only [Oper.upon] at h ⊢ <;> first | exact h | skip
  all_goals exact Calls.mono h fun e w'' he=>by cases e <;> first | exact he | exact (he:False).elim | (obtain ⟨_,_,hf⟩:=he; exact (hf:False).elim)
 | halt x w'=>cases x <;> simp only [Oper.upon] at h ⊢ <;> first | exact h | exact (h:False).elim
section
variable {c:eT} {S S':St} {N R:Po} {E:List (Nat × Po)}
theorem bi {x y:Code} (h:En c S (cwp x (PQ c (cwp y (PQ c N E R)) E R))):En c S (cwp (.seq x y) (PQ c N E R)):=fun a w hk=>by
 refine wp_seq (Code.wp_mono (fun e a w q=>?_) (h a w hk))
 cases e <;> exact q
theorem bS {σ:Type} (J:σ -> Prop) (T:σ -> St) {x y:Code} (h:En c S (cwp x (PQ c (fun a w=>∃ s,J s /\ Ok c (T s) a w) E R))) (h2:∀ s,J s -> En c (T s) (cwp y (PQ c N E R))):En c S (cwp (.seq x y) (PQ c N E R)):=fun a w hk=>by
 refine wp_seq (Code.wp_mono (fun e a w q=>?_) (h a w hk))
 cases e <;> try exact q
 obtain ⟨s,h3,h4⟩:=q
 exact h2 s h3 a w h4
theorem bn (h:En c S N):En c S (cwp .skip (PQ c N E R)):=fun a w hk=>wp_skip (h a w hk)
theorem cT (h:En c S R):En c S (cwp .ret (PQ c N E R)):=fun a w hk=>wp_ret (h a w hk)
theorem bD {i:Nat} {p:Po} (e:sJ E i=p) (h:En c S p):En c S (cwp (.exit i) (PQ c N E R)):=fun a w hk=>wp_exit (by show sJ E i a w; rw [e]; exact h a w hk)
theorem bj {i:Nat} {x:Code} (h:En c S (cwp x (PQ c N ((i,N) :: E) R))):En c S (cwp (.block i x) (PQ c N E R)):=fun a w hk=>by
 refine wp_block (Code.wp_mono (fun e a w q=>?_) (h a w hk))
 cases e <;> try exact q
 rename_i j
 have q':sJ ((i,N) :: E) j a w:=q
 show if j=i then N a w else sJ E j a w
 have e:sJ ((i,N) :: E) j=match Nat.beq i j with
  | true=>N
  | false=>sJ E j:=rfl
 rw [e] at q'
 cases hb:Nat.beq i j with
 | true =>
  rw [hb] at q'
  rw [if_pos (dS hb).symm]
  exact q'
 | false =>
  rw [hb] at q'
  rw [if_neg (fun h=>by subst h; simp at hb)]
  exact q'
theorem DJ {b:Bool} {o:Operand} {x y:Code} {Q:Exit -> Act -> World -> Prop} (hb:evK S.F o=some (.bool b)) (ht:b=true -> En c S (cwp x Q)) (hf:b=false -> En c S (cwp y Q)):En c S (cwp (.cond o x y) Q):=fun a w hk=>by
 obtain ⟨g,hs,h⟩:=hk
 refine wp_cond_split (t:=b) (eQ h hb) (fun e=>ht e a w ⟨g,hs,h⟩) (fun e=>hf e a w ⟨g,hs,h⟩)
theorem bI {id:Nat} {l:List Oper} (h:WL c l.toArray l S N):En c S (cwp (.region id l.toArray false) (PQ c N E R)):=fun a w hk=>by
 refine Code.wp_mono (fun e a w q=>?_) (wp_region_lit (h a w hk))
 cases e <;> first | exact q | exact (q:False).elim
theorem kW {σ:Type} (I:σ -> Prop) (μ:σ -> Nat) (T:σ -> St) (s0:σ) {x:Code} (h0:I s0) (hS:∀ a w,Ok c S a w -> Ok c (T s0) a w)
  (h:∀ s,I s -> En c (T s) (cwp x (PQ c (fun a w=>∃ s',(I s' /\ μ s' < μ s) /\ Ok c (T s') a w) E R))):En c S (cwp (.loop x) (PQ c N E R)):=fun a w hk=>by
 classical
 let J:Act -> World -> Nat -> Prop:=fun a w k=>∃ s,I s /\ μ s=k /\ Ok c (T s) a w
 have hmin:∀ a w,(∃ k,J a w k) -> ∃ k,J a w k /\ ∀ j,J a w j -> k <= j:=fun a w ⟨k,hk⟩=>by
  induction k using Nat.strongRecOn with
  | _ k ih =>
   by_cases hh:∃ j,J a w j /\ j < k
   ·obtain ⟨j,h1,h2⟩:=hh
    exact ih j h2 h1
   ·exact ⟨k,hk,fun j hj=>Nat.le_of_not_lt fun hlt=>hh ⟨j,hj,hlt⟩⟩
 refine wp_loop (fun a w=>∃ k,J a w k) (fun a w=>if hh:∃ k,J a w k then (hmin a w hh).choose else 0) ⟨_,s0,h0,rfl,hS a w hk⟩ fun a w hI=>?_
 obtain ⟨hj,hle⟩:=(hmin a w hI).choose_spec
 obtain ⟨s,h1,h2,h3⟩:=hj
 refine Code.wp_mono (fun e a' w' q=>?_) (h s h1 a w h3)
 cases e <;> try exact q
 obtain ⟨s',⟨h4,h5⟩,h6⟩:=q
 have hex:∃ k,J a' w' k:=⟨_,s',h4,rfl,h6⟩
 refine ⟨hex,?_⟩
 rw [dif_pos hI,dif_pos hex]
 have h7:=(hmin a' w' hex).choose_spec.2 _ ⟨s',h4,rfl,h6⟩
 omega
def pO (M:List br) (M':List br):Prop:=∀ (i:Nat) (it:br),M'[i]? = some it -> it=.gone \/ M[i]? = some it
def gW : List br -> List br -> List (Option br) × List (Option br)
 | [],_=>([],[])
 | .gone :: l,M=>let r:=gW l (M.drop 1); (none :: r.1,none :: r.2)
 | it :: l,M=>let r:=gW l (M.drop 1); (some it :: r.1,M[0]? :: r.2)
theorem nG : ∀ {M' M:List br},(gW M' M).1=(gW M' M).2 -> pO M M'
 | [],_,_,i,it,h=>by simp at h
 | x :: l,M,e,0,it,h=>by
  simp at h
  subst h
  by_cases hx:x=.gone
  ·exact .inl hx
  ·right
   have:(gW (x :: l) M)=(some x :: (gW l (M.drop 1)).1,M[0]? :: (gW l (M.drop 1)).2):=by
    cases x <;> first | rfl | exact absurd rfl hx
   rw [this] at e
   simp only [List.cons.injEq] at e
   exact e.1.symm
 | x :: l,M,e,i + 1,it,h=>by
  have hl:(gW l (M.drop 1)).1=(gW l (M.drop 1)).2:=by
   cases x <;> (simp only [gW,List.cons.injEq] at e; exact e.2)
  rcases nG hl i it (by simpa using h) with h1 | h1
  ·exact .inl h1
  ·exact .inr (by simpa [mU] using h1)
theorem Ok.sub (hF:(S'.F.map fun e=>look e.1 S.F)=S'.F.map fun e=>some e.2) (hM:(gW S'.M S.M).1=(gW S'.M S.M).2):∀ a w,Ok c S a w -> Ok c S' a w:=fun a w ⟨g,hs,h⟩=>by
 have hM:=nG hM
 have hm:∀ (i:Nat) (it:br),S'.M[i]? = some it -> it ≠ .gone -> S.M[i]? = some it:=fun i it hi hn=>(hM i it hi).resolve_left hn
 refine ⟨g,hs,h.size,h.defers,h.base,fun t x hx=>?_,fun i it hi=>?_,fun i j it jt hij hi hj hfi hnj=>h.sep i j it jt hij (hm i it hi (dy hfi)) (hm j jt hj hnj) hfi hnj,fun i it hi hni=>h.mine i it (hm i it hi hni) hni⟩
 ·obtain ⟨j,hj⟩:=iB hx
  have:=cZ (·[j]?) hF
  simp [hj] at this
  exact h.slots t x (dZ this)
 ·rcases hM i it hi with rfl | h1
  ·trivial
  ·exact h.items i it h1
end
theorem At.mono {g g':Gh} {hs:Nat -> Value} (hg:Gh.le g g') {a:At} {u:Value} (h:a.ok g hs u):a.ok g' hs u:=by
 refine ⟨?_,by have:=h.2; cases a <;> exact this⟩
 have h1:=h.1
 cases a <;> simp only [At.raw] at h1 ⊢
 case rd r=>exact r.mono _ _ _ hg h1
 case sl r n=>exact ⟨r.mono _ _ _ hg h1.1,h1.2⟩
 case pe r s =>
  obtain ⟨b,o,x,h2,h3,h4,h5⟩:=h1
  exact ⟨b,o,x,h2,r.mono _ _ _ hg h3,h4,fun j c hj=>vt hg (h5 j c hj)⟩
 all_goals exact h1
theorem np {g g':Gh} {hs:Nat -> Value} (hg:Gh.le g g'):∀ {l:List At} {us:List Value},oks g hs l us -> oks g' hs l us
 | [],[],_=>trivial
 | [],_ :: _,h=>h.elim
 | _ :: _,[],h=>h.elim
 | _ :: _,_ :: _,h=>⟨At.mono hg h.1,h.2.1,np hg h.2.2⟩
theorem SV.mono {g g':Gh} {hs:Nat -> Value} (hg:Gh.le g g') {a:SV} {u:Value} (h:a.ok g hs u):a.ok g' hs u:=by
 cases a with
 | one a=>exact At.mono hg h
 | agg l =>
  obtain ⟨cs,h1,h2⟩:=h
  exact ⟨cs,h1,np hg h2⟩
theorem zX {g g':Gh} {hs:Nat -> Value} (hg:Gh.le g g'):∀ {l:List SV} {us:List Value},fy g hs l us -> fy g' hs l us
 | [],[],_=>trivial
 | [],_ :: _,h=>h.elim
 | _ :: _,[],h=>h.elim
 | _ :: _,_ :: _,h=>⟨SV.mono hg h.1,zX hg h.2⟩
theorem SC.mono {g g':Gh} {hs:Nat -> Value} (hg:Gh.le g g') {a:SC} {u:Value} (h:a.ok g hs u):a.ok g' hs u:=by
 cases a with
 | sv s=>exact SV.mono hg h
 | tup l =>
  obtain ⟨cs,h1,h2⟩:=h
  exact ⟨cs,h1,zX hg h2⟩
def At.ren (f:Nat -> Nat):At -> At
 | .ptr i off=>.ptr (f i) off
 | .own i=>.own (f i)
 | .oe i k s=>.oe (f i) k s
 | .fn g l=>.fn g (l.map f)
 | .bsl i n=>.bsl (f i) n
 | .pptr i off b=>.pptr (f i) off b
 | .pown i x=>.pown (f i) x
 | .opt i=>.opt (f i)
 | .pfn g l=>.pfn g (l.map fun p=>(f p.1,p.2))
 | .gs i k=>.gs (f i) k
 | .ge i k q s=>.ge (f i) k q s
 | .vw i lo m s=>.vw (f i) lo m s
 | a=>a
theorem At.ok_ren {g:Gh} {hs:Nat -> Value} {f:Nat -> Nat} {a:At} {u:Value} (h:(a.ren f).ok g hs u):a.ok g (fun i=>hs (f i)) u:=by
 refine ⟨?_,by have:=h.2; cases a <;> exact this⟩
 have h1:=h.1
 cases a <;> simp only [At.raw,At.ren] at h1 ⊢
 case fn _ l=>rw [h1,kk]; rfl
 case pfn _ l =>
  refine ⟨fun p hp=>h1.1 _ (List.mem_map_of_mem (f:=fun p:Nat × Nat=>(f p.1,p.2)) hp),?_⟩
  rw [h1.2]
  simp only [kk]
  rfl
 all_goals exact h1
def SV.ren (f:Nat -> Nat):SV -> SV
 | .one a=>.one (a.ren f)
 | .agg l=>.agg (l.map (At.ren f))
def SC.ren (f:Nat -> Nat):SC -> SC
 | .sv s=>.sv (s.ren f)
 | .tup l=>.tup (l.map (SV.ren f))
theorem tE {g:Gh} {hs:Nat -> Value} {f:Nat -> Nat}:∀ {l:List At} {us:List Value},oks g hs (l.map (At.ren f)) us -> oks g (fun i=>hs (f i)) l us
 | [],[],_=>trivial
 | [],_ :: _,h=>h.elim
 | _ :: _,[],h=>h.elim
 | _ :: _,_ :: _,h=>⟨At.ok_ren h.1,h.2.1,tE h.2.2⟩
theorem SV.ok_ren {g:Gh} {hs:Nat -> Value} {f:Nat -> Nat} {a:SV} {u:Value} (h:(a.ren f).ok g hs u):a.ok g (fun i=>hs (f i)) u:=by
 cases a with
 | one a=>exact At.ok_ren h
 | agg l =>
  obtain ⟨cs,h1,h2⟩:=h
  exact ⟨cs,h1,tE h2⟩
theorem Cz {g:Gh} {hs:Nat -> Value} {f:Nat -> Nat}:∀ {l:List SV} {us:List Value},fy g hs (l.map (SV.ren f)) us -> fy g (fun i=>hs (f i)) l us
 | [],[],_=>trivial
 | [],_ :: _,h=>h.elim
 | _ :: _,[],h=>h.elim
 | _ :: _,_ :: _,h=>⟨SV.ok_ren h.1,Cz h.2⟩
theorem SC.ok_ren {g:Gh} {hs:Nat -> Value} {f:Nat -> Nat} {a:SC} {u:Value} (h:(a.ren f).ok g hs u):a.ok g (fun i=>hs (f i)) u:=by
 cases a with
 | sv s=>exact SV.ok_ren h
 | tup l =>
  obtain ⟨cs,h1,h2⟩:=h
  exact ⟨cs,h1,Cz h2⟩
def br.ren (f:Nat -> Nat):br -> br
 | .box cells ty fz=>.box (cells.map (At.ren f)) ty fz
 | it=>it
def E8 (g:Gh) (hs:Nat -> Value) (h:Value):br -> Prop
 | .box cells ty true=>∃ b cs,h=.pointer (some ⟨b,0,none⟩) /\ oks g hs cells cs /\ g b=some (.cells cs.toArray ty (0,0))
 | _=>False
def dN (g:Gh) (hs:Nat -> Value):List SC -> List Value -> Prop
 | [],[]=>True
 | a :: l,u :: us=>a.ok g hs u /\ dN g hs l us
 | _,_=>False
def nK (n:Nat) (w:World) (g:Gh):eT:=⟨n,w,g,fun _=>False,[],fun _ _ _=>False⟩
def gS : Nat -> Value:=fun _=>undef
def LT {β:Type} (w:World) (g:Gh) (post:β -> Prop) (out:β -> SC) (e:Ending) (w':World):Prop:=∃ v g' r,e=.returned v /\ post r /\ (out r).ok g' gS v /\ j7 (nK 0 w g) w' g'
def Ct {β:Type} (f:Nat) (ins:List SC) (M:List br) (post:β -> Prop) (out:β -> SC):Prop:=∀ (w:World) (g:Gh) (hs:Nat -> Value) (args:List Value),pu g w -> dN g hs ins args -> (∀ (i:Nat) (it:br),M[i]? = some it -> E8 g hs (hs i) it) ->
 Calls Tryz.prog f args.toArray w (LT w g post out)
def vE (rs:Array ResultVar) (tmps:Array Value):Sem Value:=do
 let vs <- rs.mapM fun
  | .tmp t=>pure (tmps.getD t undef)
  | .cell a t=>do loadVar t (<- asAddr (tmps.getD a undef))
 pure (if h:vs.size=1 then vs[0] else .tuple vs)
def FN {β:Type} (c:eT) (rs:Array ResultVar) (post:β -> Prop) (out:β -> SC):Po:=fun a w=>a.defers=c.dfr /\ ∃ v g' r,(vE rs a.tmps).run Tryz.prog w=.ok v w /\ post r /\ (out r).ok g' gS v /\ j7 c w g'
def p6 : Nat -> List SC -> List (Nat × SC)
 | _,[]=>[]
 | k,x :: l=>(k,x) :: p6 (k + 1) l
theorem f6 {g:Gh} {hs:Nat -> Value}:∀ {l:List SC} {us:List Value},dN g hs l us -> l.length=us.length
 | [],[],_=>rfl
 | [],_ :: _,h=>h.elim
 | _ :: _,[],h=>h.elim
 | _ :: l,_ :: us,h=>by simp [f6 h.2]
theorem lR {g:Gh} {hs:Nat -> Value}:∀ {l:List SC} {us:List Value} {k t:Nat} {x:SC},dN g hs l us -> (t,x) ∈ p6 k l -> ∃ u,us[t - k]? = some u /\ k <= t /\ x.ok g hs u
 | [],_,_,_,_,_,h=>by simp [p6] at h
 | _ :: _,[],_,_,_,h,_=>h.elim
 | y :: l,u :: us,k,t,x,h,hm=>by
  simp only [p6,eh] at hm
  rcases hm with hm | hm
  ·cases hm
   exact ⟨u,by simp,bP _,h.1⟩
  ·obtain ⟨v,h1,h2,h3⟩:=lR (k:=k + 1) h.2 hm
   refine ⟨v,?_,by omega,h3⟩
   rw [show t - k=(t - (k + 1)) + 1 by omega]
   simpa using h1
theorem Ct.body {β:Type} {f:Nat} {fn:Func} {code:Code} {n:Nat} {rs:Array ResultVar} {ins:List SC} {M:List br} {post:β -> Prop} {out:β -> SC} (hf:Tryz.prog.funcs[f]? = some fn) (hb:fn.body=some code) (hn:fn.ntmps=n) (hr:fn.results=rs)
  (hl:Nat.ble ins.length n=true) (h:∀ c:eT,c.n=n -> En c ⟨p6 0 ins,M⟩ (cwp code (PQ c (FN c rs post out) [] (FN c rs post out)))):Ct f ins M post out:=fun w g hs args hp ha hm=>by
 have hl:=dM hl
 have hla:=f6 ha
 refine calls_of_wp hf hb (Code.wp_mono (fun e a w' q=>?_) (h (nK n w g) rfl { tmps:=args.toArray ++ Array.replicate (fn.ntmps - args.toArray.size) undef,defers:=[] } w ⟨g,hs,?_⟩))
 ·have key:FN (nK n w g) rs post out a w' -> a.defers=[] /\ ∃ v,(results fn a.tmps).run Tryz.prog w'=.ok v w' /\ LT w g post out (.returned v) w':=fun ⟨h1,v,g',r,h2,h3,h4,h5⟩=>by
   refine ⟨h1,v,?_,v,g',r,rfl,h3,h4,h5.os,h5.tape,h5.output,h5.grows,h5.frame,h5.ghle,h5.ghnew,h5.pers⟩
   subst hr
   exact h2
  cases e <;> first | exact key q | exact (q:False).elim | exact (q.2:False).elim
 ·refine ⟨?_,rfl,⟨rfl,rfl,rfl,bP _,fun _ _ _=>rfl,Gh.le.refl g,fun b o e=>.inl e,hp⟩,fun t x hx=>?_,fun i it hi=>?_,?_,?_⟩
  ·simp [nK,hn]
   omega
  ·obtain ⟨u,h1,_,h3⟩:=lR ha hx
   simp only [Nat.sub_zero] at h1
   have hlt:=(cg.1 h1).1
   have:(args.toArray ++ Array.replicate (fn.ntmps - args.toArray.size) undef).getD t undef=u:=by
    rw [gz,tW (by simpa using hlt)]
    simp [h1]
   rw [this]
   exact h3
  ·have:=hm i it hi
   cases it <;> try exact this.elim
   rename_i cells ty fz
   cases fz
   ·exact this.elim
   ·obtain ⟨b,cs,h1,h2,h3⟩:=this
    exact ⟨b,cs,h1,h2,hp _ _ h3,fun _=>h3⟩
  ·intro i j it jt _ hi _ hfi
   have:=hm i it hi
   cases it <;> try exact this.elim
   rename_i cells ty fz
   cases fz
   ·exact this.elim
   ·cases hfi
  ·intro i it hi hnn b hb
   clear hnn
   have:=hm i it hi
   cases it <;> try exact this.elim
   rename_i cells ty fz
   cases fz
   ·exact this.elim
   ·obtain ⟨b',cs,h1,h2,h3⟩:=this
    rw [h1] at hb
    cases hb
    exact ⟨hp.lt h3,fun h=>by cases h⟩
def J6 (co:gY) (S:St):ResultVar -> Option SV
 | .tmp t=>match look t S.F with
  | some (.sv s)=>some s
  | _=>none
 | .cell a t=>match rZ co S t (.tmp a) with
  | some (.sv s)=>some s
  | _=>none
def J4 (co:gY) (S:St):List ResultVar -> Option (List SV)
 | []=>some []
 | r :: l=>match J6 co S r with
  | some s=>match J4 co S l with
   | some ss=>some (s :: ss)
   | none=>none
  | none=>none
def evR (co:gY) (S:St) (rs:Array ResultVar):Option SC:=match J4 co S rs.toList with
 | some [s]=>some (.sv s)
 | some l=>some (.tup l)
 | none=>none
def uf (tmps:Array Value):ResultVar -> Sem Value
 | .tmp t=>pure (tmps.getD t undef)
 | .cell a t=>do loadVar t (<- asAddr (tmps.getD a undef))
section
variable {c:eT} {S S':St} {a:Act} {w:World} {g:Gh} {hs:Nat -> Value} {co:gY} {n:Nat}
theorem J5 (ht:co.ok) (h:dJ c S a w g hs) {r:ResultVar} {s:SV} (e:J6 co S r=some s):∃ v,(uf a.tmps r).run Tryz.prog w=.ok v w /\ s.ok g hs v:=by
 cases r with
 | tmp t =>
  simp only [J6] at e
  split at e
  case h_2=>cases e
  rename_i x hx
  cases e
  exact ⟨_,by simp [uf],h.slots t _ (dZ hx)⟩
 | cell b t =>
  simp only [J6] at e
  split at e
  case h_2=>cases e
  rename_i x hx
  cases e
  unfold rZ at hx
  split at hx
  case h_2=>cases hx
  rename_i i off hp
  split at hx
  case h_2=>cases hx
  rename_i cells ty fz hm
  split at hx
  case h_2=>cases hx
  rename_i ti hti
  split at hx
  case h_2=>cases hx
  rename_i r hr
  cases hx
  obtain ⟨⟨bb,hb,hv⟩,_⟩:=bV h hp
  obtain ⟨b',cs,h1,h2,h3,h4⟩:=h.items i _ hm
  rw [hb] at h1
  simp at h1
  subst h1
  obtain ⟨v,h5,h6⟩:=mJ (ht t ti hti) h3 h2 hr
  refine ⟨v,?_,h6⟩
  have hv':a.tmps.getD b undef=.pointer (some ⟨bb,off,none⟩):=hv
  simp [uf,hv',asAddr,h5]
theorem yL (ht:co.ok) (h:dJ c S a w g hs):∀ {l:List ResultVar} {ss:List SV},J4 co S l=some ss -> ∃ vs,(l.mapM (uf a.tmps)).run Tryz.prog w=.ok vs w /\ fy g hs ss vs
 | [],ss,e=>by cases e; exact ⟨[],by simp,trivial⟩
 | r :: l,ss,e=>by
  unfold J4 at e
  split at e
  case h_2=>cases e
  rename_i s hs1
  split at e
  case h_2=>cases e
  rename_i ss' hss
  cases e
  obtain ⟨v,h1,h2⟩:=J5 ht h hs1
  obtain ⟨vs,h3,h4⟩:=yL ht h hss
  exact ⟨v :: vs,by simp [List.mapM_cons,bW,h1,h3],h2,h4⟩
theorem yM (ht:co.ok) (h:dJ c S a w g hs) {rs:Array ResultVar} {x:SC} (e:evR co S rs=some x):∃ v,(vE rs a.tmps).run Tryz.prog w=.ok v w /\ x.ok g hs v:=by
 unfold evR at e
 have hrun:∀ vs:List Value,(rs.toList.mapM (uf a.tmps)).run Tryz.prog w=.ok vs w -> (vE rs a.tmps).run Tryz.prog w=.ok (if h:vs.toArray.size=1 then vs.toArray[0] else .tuple vs.toArray) w:=fun vs hvs=>by
  unfold vE
  rw [bW]
  have:(rs.mapM (uf a.tmps)).run Tryz.prog w=.ok vs.toArray w:=by
   rw [Array.mapM_eq_mapM_toList,map_eq_pure_bind,bW,hvs]
   simp
  have e2:(fun (x:ResultVar)=>(match x with
   | .tmp t=>pure (a.tmps.getD t undef)
   | .cell a_1 t=>do loadVar t (<- asAddr (a.tmps.getD a_1 undef)):Sem Value))=uf a.tmps:=by
   funext x
   cases x <;> rfl
  rw [e2,this]
  simp
 split at e
 ·rename_i s hl
  cases e
  obtain ⟨vs,h1,h2⟩:=yL ht h hl
  match vs,h2 with
  | [v],h2=>exact ⟨v,by have:=hrun _ h1; simpa using this,h2.1⟩
 ·rename_i l hne hl
  cases e
  obtain ⟨vs,h1,h2⟩:=yL ht h hl
  have hlen:∀ {l:List SV} {us:List Value},fy g hs l us -> l.length=us.length:=by
   intro l
   induction l with
   | nil=>intro us h; cases us with
    | nil=>rfl
    | cons _ _=>exact h.elim
   | cons x l ih=>intro us h; cases us with
    | nil=>exact h.elim
    | cons u us=>simp [ih h.2]
  have h3:=hlen h2
  have h4:vs.length ≠ 1:=fun e=>by
   rw [e] at h3
   match l,h3 with
   | [s],_=>exact hne s rfl
  exact ⟨.tuple vs.toArray,by have:=hrun _ h1; rw [this]; simp [h4],vs,rfl,h2⟩
 ·cases e
theorem zD {x:SC} (hc:x.refs=[]) {v:Value} (h:x.ok g hs v):x.ok g gS v:=SC.ok_hs (fun i hi=>by rw [hc] at hi; cases hi) h
theorem lw {x:SC} (hc:x.refs=[]) {v:Value} (h:x.ok g gS v):x.ok g hs v:=SC.ok_hs (fun i hi=>by rw [hc] at hi; cases hi) h
theorem eW {β:Type} {post:β -> Prop} {out:β -> SC} {rs:Array ResultVar} (ht:co.ok) (r:β) (hp:post r) (e:evR co S rs=some (out r)) (hc:(out r).refs=[]):En c S (FN c rs post out):=fun a w ⟨g,hs,h⟩=>by
 obtain ⟨v,h1,h2⟩:=yM ht h e
 exact ⟨h.defers,v,g,r,h1,hp,zD hc h2,h.base⟩
def rY (F:List (Nat × SC)):List Operand -> Option (List SC)
 | []=>some []
 | o :: l=>match eL F o with
  | some x=>match rY F l with
   | some xs=>some (x :: xs)
   | none=>none
  | none=>none
theorem mE (h:dJ c S a w g hs):∀ {l:List Operand} {xs:List SC},rY S.F l=some xs -> dN g hs xs (l.map a.eval)
 | [],xs,e=>by cases e; trivial
 | o :: l,xs,e=>by
  unfold rY at e
  split at e
  case h_2=>cases e
  rename_i x hx
  split at e
  case h_2=>cases e
  rename_i xs' hxs
  cases e
  exact ⟨bV h hx,mE h hxs⟩
theorem f7 {l l':List SC} {us us':List Value}:dN g hs l us -> dN g hs l' us' -> dN g hs (l ++ l') (us ++ us'):=by
 induction l generalizing us with
 | nil=>intro h h'; cases us with
  | nil=>exact h'
  | cons _ _=>exact h.elim
 | cons x l ih=>intro h h'; cases us with
  | nil=>exact h.elim
  | cons u us=>exact ⟨h.1,ih h.2 h'⟩
theorem ig {f:Nat -> Nat}:∀ {l:List SC} {us:List Value},dN g hs (l.map (SC.ren f)) us -> dN g (fun i=>hs (f i)) l us
 | [],[],_=>trivial
 | [],_ :: _,h=>h.elim
 | _ :: _,[],h=>h.elim
 | _ :: _,_ :: _,h=>⟨SC.ok_ren h.1,ig h.2⟩
def fzE (M:List br) (f:Nat -> Nat):Nat -> List br -> List (Option br)
 | _,[]=>[]
 | k,_ :: l=>M[f k]? :: fzE M f (k + 1) l
def fzB : br -> Bool
 | .box _ _ fz=>fz
 | _=>false
theorem rX {M:List br} {f:Nat -> Nat}:∀ {M':List br} {k:Nat},fzE M f k M'=(M'.map fun it=>some (it.ren f)) -> ∀ (i:Nat) (it:br),M'[i]? = some it -> M[f (k + i)]? = some (it.ren f)
 | [],_,_,i,it,h=>by simp at h
 | x :: l,k,e,0,it,h=>by
  simp at h
  subst h
  simp only [fzE,gu,List.cons.injEq] at e
  exact e.1
 | x :: l,k,e,i + 1,it,h=>by
  simp only [fzE,gu,List.cons.injEq] at e
  have:=rX e.2 i it (by simpa using h)
  rw [show k + (i + 1)=k + 1 + i by omega]
  exact this
theorem AJ {it:br} {f:Nat -> Nat} {i:Nat} (hi:S.M[f i]? = some (it.ren f)) (hz:fzB it=true) (h:dJ c S a w g hs):E8 g (fun i=>hs (f i)) (hs (f i)) it:=by
 cases it with
 | box cells ty fz =>
  have hz:fz=true:=hz
  subst hz
  obtain ⟨b,cs,h1,h2,h3,h4⟩:=h.items _ _ hi
  exact ⟨b,cs,h1,tE h2,h4 rfl⟩
 | _=>cases hz
def vU (S:St) (i:Nat):Bool:=match S.M[i]? with
 | some (.box _ _ _)=>true
 | _=>false
end
structure Ty (α:Type) where
 s:Nat
 sv:α -> SV
def eu (s:SV):Rd:=⟨fun g v=>s.ok g gS v,fun _ _ _ h=>SV.mono h⟩
def k8 {α:Type} (T:Ty α) (l:List α) (g:Gh) (v:Value):Prop:=
 ∃ ao n cap,v=.slice ao n cap /\ n=l.length /\ n <= cap /\ cap <= maxLen /\ (ao=none -> cap=0) /\
  ∀ q a,l[q]? = some a -> ∃ b o u,ao=some ⟨b,o,none⟩ /\ (T.sv a).ok g gS u /\ u.cells.size=T.s /\ ∀ j c,u.cells[j]? = some c -> g.cell ⟨b,o + q * T.s + j,none⟩=some c
def slR {α:Type} (T:Ty α) (l:List α):Rd:=⟨k8 T l,fun g g' v h ⟨ao,n,cap,h1,h2,h3,h4,h5,h6⟩=>⟨ao,n,cap,h1,h2,h3,h4,h5,fun q a hq=>by
 obtain ⟨b,o,u,k1,k2,k3,k4⟩:=h6 q a hq
 exact ⟨b,o,u,k1,SV.mono h k2,k3,fun j c hj=>vt h (k4 j c hj)⟩⟩⟩
abbrev LS {α:Type} (T:Ty α) (l:List α):At:=.sl (slR T l) l.length
def aZ : Ty Int:=⟨1,fun x=>.one (I x)⟩
def cJ : Ty Bool:=⟨1,fun x=>.one (B x)⟩
def cB {α:Type} (T:Ty α):Ty (List α):=⟨1,fun l=>.one (LS T l)⟩
def cq {α:Type} (l:List α) (i:Int):Option α:=if 0 <= i then l[i.toNat]? else none
theorem bs {α:Type} {l:List α} {i:Int} {a:α} (h:cq l i=some a):0 <= i /\ i < l.length /\ l[i.toNat]? = some a:=by
 unfold cq at h
 split at h
 ·rename_i h0
  have:=(cg.1 h).1
  exact ⟨h0,by omega,h⟩
 ·cases h
def Val (c:eT) (S:St) (o:Oper) (x:SC):Prop:=∀ a w g hs,dJ c S a w g hs -> ∃ v,(execOp a.eval o).run Tryz.prog w=.ok (.value v) w /\ x.ok g hs v
section
variable {c:eT} {S S':St} {a:Act} {w:World} {g:Gh} {hs:Nat -> Value} {co:gY} {n:Nat} {o:Oper} {ops:Array Oper} {rest:List Oper} {N:Po}
theorem H2 {x:SC} (hn:c.n=n) (hw:dX ops S.F o=some true) (hv:Val c S o x) (e:iA n o.dst x S=some S') (h:WL c ops rest S' N):WL c ops (o :: rest) S N:=fun a w ⟨g,hs,hk⟩=>by
 unfold wpList
 rw [if_pos (dU hk hw)]
 refine .inl ?_
 unfold Oper.wp
 obtain ⟨v,h1,h2⟩:=hv a w g hs hk
 rw [h1]
 exact h _ _ ⟨g,hs,fR hk hn h2 e⟩
theorem gF (b o k:Nat):(⟨b,o,none⟩:Addr).add k=⟨b,o + k,none⟩:=Addr.add_lit _ _ _
theorem v4 {α:Type} {T:Ty α} {l:List α} {i:Int} {y:α} {t el:Nat} {ti te:TI} {x ix:Operand} {k:IntKind} {m:Nat} (ht:co.ok) (ho:o.op=.indexAddr t x ix) (h1:co t=some ti) (h2:ti.sl=some el) (h3:co el=some te) (h4:te.size=T.s)
  (hx:eL S.F x=some (.sv (.one (.sl (slR T l) m)))) (hi:evK S.F ix=some (.int k i)) (hy:cq l i=some y):Val c S o (.sv (.one (.pe (eu (T.sv y)) T.s))):=fun a w g hs h=>by
 obtain ⟨h5,h6,h7⟩:=bs hy
 have hu:=fY ((ht t ti h1).sl.trans h2)
 obtain ⟨⟨⟨ao,n',cap,e1,e2,e3,e4,e5,e6⟩,_⟩,_⟩:=bV h hx
 obtain ⟨b,off,u,rfl,k2,k3,k4⟩:=e6 _ _ h7
 refine ⟨.pointer (some ⟨b,off + i.toNat * T.s,none⟩),?_,⟨b,_,u,rfl,k2,k3,k4⟩,trivial⟩
 have:(execOp a.eval o)=(do pure (.value (<- Instr.indexAt t (a.eval x) (a.eval ix))):Sem Next):=by unfold execOp; rw [ho]
 rw [this]
 refine cX ?_
 have hlt:0 <= i /\ i < (n':Int):=⟨h5,by rw [e2]; exact h6⟩
 simp only [Instr.indexAt,eQ h hi,asIntOf,e1,bW,db,ce,run_underlying hu,if_pos hlt,(ht el te h3).run_size,h4,gF]
def jK (ti:TI):SV -> Bool
 | .agg _=>ti.agg
 | .one .junk=>false
 | .one _=>!ti.agg
theorem zQ {s:SV} {sz t:Nat} {ti:TI} {x:Operand} (ht:co.ok) (ho:o.op=.load t x) (h1:co t=some ti) (h2:ti.size=sz) (h3:jK ti s=true) (hx:eL S.F x=some (.sv (.one (.pe (eu s) sz)))) (hc:s.refs=[]):Val c S o (.sv s):=fun a w g hs h=>by
 obtain ⟨⟨b,off,u,e1,e2,e3,e4⟩,_⟩:=bV h hx
 have htk:=ht t ti h1
 have:(execOp a.eval o)=(do pure (.value (<- Instr.loadAt t (a.eval x))):Sem Next):=by unfold execOp; rw [ho]
 rw [this]
 have e2':s.ok g hs u:=SV.ok_hs (fun i hi=>by rw [hc] at hi; cases hi) e2
 refine ⟨u,cX ?_,e2'⟩
 have hcell:∀ j v,u.cells.toList[j]? = some v -> w.cell? ((⟨b,off,none⟩:Addr).add j)=some v:=fun j v hj=>by
  rw [gF]
  exact h.base.pers.cell (e4 j v (by simpa using hj))
 simp only [Instr.loadAt,e1,Instr.sureAddr,loadVar,bW,db,ce,htk.run_isAgg]
 cases s with
 | agg l =>
  simp only [jK] at h3
  rw [h3]
  obtain ⟨cs,rfl,_⟩:=e2
  have hl:=run_loadCells_list (P:=Tryz.prog) w ⟨b,off,none⟩ cs (by simpa [Value.cells] using hcell)
  have e5:cs.length=ti.size:=by rw [h2,<- e3]; simp [Value.cells]
  rw [e5] at hl
  simp [htk.run_size,hl]
 | one x =>
  have h3':ti.agg=false /\ dR u:=by
   have h6:=e2.2
   cases x <;> first | exact ⟨by simpa [jK] using h3,h6⟩ | (simp [jK] at h3)
  have hcv:u.cells = #[u]:=dR.cells h3'.2
  rw [h3'.1]
  have:=hcell 0 u (by rw [hcv]; rfl)
  rw [gF,eG] at this
  simp [load,Sem.run,this]
theorem v5 {l:List At} {sz t f fo fs:Nat} {ag:Bool} {ti:TI} {x:Operand} {r:SV} (ht:co.ok) (ho:o.op=.fieldAddr t x f) (h1:co t=some ti) (h2:ti.st=true) (h3:ti.offs[f]? = some (fo,fs + 1,ag)) (h4:iG l fo (fs + 1) ag=some r)
  (hx:eL S.F x=some (.sv (.one (.pe (eu (.agg l)) sz)))) (h6:(cF r).length=fs + 1):Val c S o (.sv (.one (.pe (eu r) (fs + 1)))):=fun a w g hs h=>by
 obtain ⟨⟨b,off,u,e1,⟨cs,rfl,e2⟩,e3,e4⟩,_⟩:=bV h hx
 obtain ⟨fss,fx,k1,k2,k3,k4,k5⟩:=(ht t ti h1).field h2 h3
 have:(execOp a.eval o)=(do pure (.value (<- Instr.fieldAt t (a.eval x) f)):Sem Next):=by unfold execOp; rw [ho]
 rw [this]
 have key:∃ v:Value,r.ok g gS v /\ v.cells.size=fs + 1 /\ ∀ j c,v.cells[j]? = some c -> cs[fo + j]? = some c:=by
  cases ag with
  | true =>
   simp only [iG] at h4
   split at h4
   ·rename_i hb
    cases h4
    have ho:=iH (fs + 1) (iI fo e2)
    have hl:=dF ho
    refine ⟨.agg ((cs.drop fo).take (fs + 1)).toArray,⟨_,rfl,ho⟩,by simp only [Value.cells,f9]; rw [<- hl]; exact h6,fun j c hj=>?_⟩
    simp only [Value.cells,List.getElem?_toArray,gP] at hj
    split at hj
    ·rwa [iC] at hj
    ·cases hj
   ·cases h4
  | false =>
   simp only [iG] at h4
   split at h4
   ·rename_i y hy
    cases h4
    obtain ⟨v,hv,h7,h8⟩:=kM e2 hy
    have h9:fs + 1=1:=by simpa [cF] using h6.symm
    refine ⟨v,h7,by rw [dR.cells h8,h9]; rfl,fun j c hj=>?_⟩
    rw [dR.cells h8] at hj
    cases j with
    | zero=>simp at hj; subst hj; exact hv
    | succ j=>simp at hj
   ·cases h4
 obtain ⟨v,v1,v2,v3⟩:=key
 refine ⟨.pointer (some ⟨b,off + fo,none⟩),cX ?_,⟨b,off + fo,v,rfl,v1,v2,fun j c hj=>?_⟩,trivial⟩
 ·simp only [Instr.fieldAt,bW,run_underlying k1,ce,k2,e1,Instr.sureAddr,db,fieldPlace,jr k4]
  simp [k3,Addr.add_lit]
 ·rw [ft]
  exact e4 (fo + j) c (by simpa [Value.cells] using v3 j c hj)
end
def jf (S' S1:St):List (Option SC) × List (Option br):=(S'.F.map fun e=>look e.1 S1.F,(gW S'.M S1.M).2)
def je (S':St):List (Option SC) × List (Option br):=(S'.F.map fun e=>some e.2,(gW S'.M S'.M).1)
theorem r9 : ∀ (M' A C:List br),(gW M' A).1=(gW M' C).1
 | [],_,_=>rfl
 | x :: l,A,C=>by
  have ih:=r9 l (A.drop 1) (C.drop 1)
  cases x <;> simp only [gW,ih]
section
variable {c:eT} {S S1:St} {a:Act} {w:World} {g:Gh} {hs:Nat -> Value} {co:gY} {n:Nat} {o:Oper} {ops:Array Oper} {rest L:List Oper} {N:Po}
theorem sub_ok {S':St} (e:jf S' S1=je S'):∀ a w,Ok c S1 a w -> Ok c S' a w:=by
 have e1:=cZ Prod.fst e
 have e2:=cZ Prod.snd e
 refine Ok.sub e1 ?_
 rw [r9 S'.M S1.M S'.M]
 exact e2.symm
theorem mI (S':St) (e:jf S' S=je S') (h:En c S' N):En c S N:=fun a w hk=>h a w (sub_ok e a w hk)
theorem KU {σ:Type} {I:σ -> Prop} {T:σ -> St} (s:σ) (h:I s) (e:jf (T s) S=je (T s)):En c S (fun a w=>∃ s,I s /\ Ok c (T s) a w):=fun a w hk=>⟨s,h,sub_ok e a w hk⟩
theorem map_some {α β:Type} {x:Option α} {f:α -> β} {y:β} (e:x.map f=some y):∃ z,x=some z /\ f z=y:=by
 cases x with
 | none=>cases e
 | some z=>exact ⟨z,rfl,Option.some.inj e⟩
theorem H5 (ht:co.ok) (hn:c.n=n) (k:Nat) (S':St) (e:(evL co n ops (L.take k) S).map (jf S')=some (je S')) (h:WL c ops (L.drop k) S' N):WL c ops L S N:=by
 obtain ⟨S2,e1,e2⟩:=map_some e
 exact H9 ht hn k S2 e1 (fun a w hk=>h a w (sub_ok e2 a w hk))
theorem H3 (S':St) (e:jf S' S=je S') (h:WL c ops L S' N):WL c ops L S N:=fun a w hk=>h a w (sub_ok e a w hk)
theorem CG (t:Nat) {b b':Bool} (hl:look t S.F=some (.sv (.one (.v (.bool b))))) (e:b=b'):dJ c S a w g hs -> dJ c ⟨(t, .sv (.one (.v (.bool b')))) :: S.F,S.M⟩ a w g hs:=fun h=>by
 subst e
 refine ⟨h.size,h.defers,h.base,fun t' x hx=>?_,h.items,h.sep,h.mine⟩
 rcases eh.1 hx with hx | hx
 ·cases hx
  exact h.slots t _ (dZ hl)
 ·exact h.slots t' x hx
theorem Kq (t:Nat) {b b':Bool} (e:b=b') (hl:look t S.F=some (.sv (.one (.v (.bool b))))) (h:WL c ops L ⟨(t, .sv (.one (.v (.bool b')))) :: S.F,S.M⟩ N):WL c ops L S N:=fun a w ⟨g,hs,hk⟩=>h a w ⟨g,hs,CG t hl e hk⟩
theorem cz {p:Prop} (b:Bool) (h1:b=true -> p) (h2:b=false -> p):p:=by
 cases b
 ·exact h2 rfl
 ·exact h1 rfl
def SL (c:eT) (ops:Array Oper) (L:List Oper) (S:St) (K:St -> Prop):Prop:=∀ a w g hs,dJ c S a w g hs -> ∃ S' aE,K S' /\ dJ c S' aE w g hs /\ ∀ N:Po,N aE w -> wpList Tryz.prog ops (RM.Only N) L a w
variable {K:St -> Prop}
theorem lu (h:K S):SL c ops [] S K:=fun a w _ _ hk=>⟨S,a,h,hk,fun _ hN=>hN⟩
theorem dr {x:SC} (hn:c.n=n) (hw:dX ops S.F o=some true) (hv:Val c S o x) (e:iA n o.dst x S=some S1) (h:SL c ops rest S1 K):SL c ops (o :: rest) S K:=fun a w g hs hk=>by
 obtain ⟨v,h1,h2⟩:=hv a w g hs hk
 obtain ⟨S',aE,h3,h4,h5⟩:=h _ w g hs (fR hk hn h2 e)
 refine ⟨S',aE,h3,h4,fun N hN=>?_⟩
 unfold wpList
 rw [if_pos (dU hk hw)]
 refine .inl ?_
 unfold Oper.wp
 rw [h1]
 exact h5 N hN
def es1 (co:gY) (n:Nat) (ops:Array Oper) (S:St) (o:Oper):Option St:=match dX ops S.F o with
 | some true=>match evV co S o with
  | some x=>iA n o.dst x S
  | none=>none
 | some false=>iA n o.dst (.tup []) S
 | none=>none
def esL (co:gY) (n:Nat) (ops:Array Oper):List Oper -> St -> Option St
 | [],S=>some S
 | o :: l,S=>match es1 co n ops S o with
  | some S'=>esL co n ops l S'
  | none=>none
theorem LR (ht:co.ok) (hn:c.n=n) (e:es1 co n ops S o=some S1) (h:SL c ops rest S1 K):SL c ops (o :: rest) S K:=by
 unfold es1 at e
 split at e
 ·rename_i hw
  split at e
  ·rename_i x hx
   exact dr hn hw (fun a w g hs hk=>uZ ht hk hx) e h
  ·cases e
 ·rename_i hw
  intro a w g hs hk
  obtain ⟨S',aE,h3,h4,h5⟩:=h _ w g hs (fR hk hn lA e)
  refine ⟨S',aE,h3,h4,fun N hN=>?_⟩
  unfold wpList
  rw [if_neg (by rw [dU hk hw]; exact oR)]
  exact h5 N hN
 ·cases e
theorem A9 (ht:co.ok) (hn:c.n=n):∀ (l:List Oper) {S:St},esL co n ops l S=some S1 -> SL c ops rest S1 K -> SL c ops (l ++ rest) S K
 | [],S,e,h=>by cases e; exact h
 | o :: l,S,e,h=>by
  unfold esL at e
  split at e
  ·rename_i S2 h2
   exact LR ht hn h2 (A9 ht hn l e h)
  ·cases e
theorem FM {S':St} (hsub:∀ a w g hs,dJ c S a w g hs -> dJ c S' a w g hs) (h:SL c ops L S' K):SL c ops L S K:=fun a w g hs hk=>h a w g hs (hsub a w g hs hk)
theorem xK {S':St} (e:jf S' S1=je S'):∀ a w g hs,dJ c S1 a w g hs -> dJ c S' a w g hs:=by
 intro a w g hs h
 have hF:=cZ Prod.fst e
 have hM0:=cZ Prod.snd e
 have hM:=nG (M:=S1.M) (M':=S'.M) (by rw [r9 S'.M S1.M S'.M]; exact hM0.symm)
 have hm:∀ (i:Nat) (it:br),S'.M[i]? = some it -> it ≠ .gone -> S1.M[i]? = some it:=fun i it hi hn=>(hM i it hi).resolve_left hn
 refine ⟨h.size,h.defers,h.base,fun t x hx=>?_,fun i it hi=>?_,fun i j it jt hij hi hj hfi hnj=>h.sep i j it jt hij (hm i it hi (dy hfi)) (hm j jt hj hnj) hfi hnj,fun i it hi hni=>h.mine i it (hm i it hi hni) hni⟩
 ·obtain ⟨j,hj⟩:=iB hx
  have:=cZ (·[j]?) hF
  simp [jf,je,hj] at this
  exact h.slots t x (dZ this)
 ·rcases hM i it hi with rfl | h1
  ·trivial
  ·exact h.items i it h1
theorem eV (ht:co.ok) (hn:c.n=n) (k:Nat) (S':St) (e:(esL co n ops (L.take k) S).map (jf S')=some (je S')) (h:SL c ops (L.drop k) S' K):SL c ops L S K:=by
 obtain ⟨S2,e1,e2⟩:=map_some e
 have:=A9 (rest:=L.drop k) ht hn (L.take k) e1 (FM (xK e2) h)
 rwa [List.take_append_drop] at this
theorem DF (t:Nat) {b b':Bool} (e:b=b') (hl:look t S.F=some (.sv (.one (.v (.bool b))))) (h:SL c ops L ⟨(t, .sv (.one (.v (.bool b')))) :: S.F,S.M⟩ K):SL c ops L S K:=fun a w g hs hk=>h a w g hs (CG t hl e hk)
def we (S:St):Op -> Bool
 | .binOp _ _ x y _=>match evK S.F x with
  | some (.int _ _)=>match evK S.F y with
   | some (.int _ _)=>true
   | _=>false
  | _=>false
 | .load _ x=>match eL S.F x with
  | some (.sv (.one (.ptr i off)))=>match S.M[i]? with
   | some (.box cells _ _)=>Nat.blt off cells.length
   | _=>false
  | some (.sv (.one (.pe _ s)))=>Nat.blt 0 s
  | _=>false
 | .nilCheck x=>match eL S.F x with
  | some (.sv (.one (.ptr _ _)))=>true
  | some (.sv (.one (.pe _ _)))=>true
  | _=>false
 | .call c=>match c.callee with
  | .builtin .len=>match c.args.toList with
   | [x]=>match eL S.F x with
    | some (.sv (.one (.sl _ _)))=>true
    | some (.sv (.one (.own i)))=>match S.M[i]? with
     | some (.row _ _ _ _)=>true
     | _=>false
    | some (.sv (.one (.v (.slice _ _ _))))=>true
    | some (.sv (.one (.v (.string _))))=>true
    | _=>false
   | _=>false
  | _=>true
 | _=>true
def xO (ops:Array Oper) (S:St):List Oper -> Bool
 | []=>true
 | o :: l=>(match dX ops S.F o with
  | some false=>true
  | _=>we S o.op) && xO ops S l
theorem JQ {b off:Nat} {cells:List At} {cs:List Value} {ty:Nat} {fr:Nat × Nat} (h2:oks g hs cells cs) (h3:w.heap[b]? = some (.cells cs.toArray ty fr)) (hlt:off < cells.length):RM.lowV w.heap.size w (.pointer (some ⟨b,off,none⟩)):=by
 refine ⟨(sA.1 h3).1,?_⟩
 rw [vf h3]
 rw [dF h2] at hlt
 simp [hlt]
theorem Gy (h:dJ c S a w g hs) {op:Op} (e:we S op=true):RM.side w.heap.size w a.eval op:=by
 cases op <;> simp only [RM.side] <;> try trivial
 case binOp bop t x y yt =>
  simp only [we] at e
  split at e
  case h_2=>cases e
  rename_i hx
  split at e
  case h_2=>cases e
  rename_i hy
  rw [eQ h hx,eQ h hy]
  exact ⟨trivial,trivial⟩
 case load t x =>
  simp only [we] at e
  split at e
  ·rename_i i off hx
   split at e
   case h_2=>cases e
   rename_i cells ty fz hm
   have hlt:off < cells.length:=dM e
   obtain ⟨⟨b,hb,hv⟩,_⟩:=bV h hx
   obtain ⟨b',cs,h1,h2,h3,_⟩:=h.items i _ hm
   rw [hb] at h1
   simp at h1
   subst h1
   rw [hv]
   exact JQ h2 h3 hlt
  ·rename_i r s hx
   obtain ⟨⟨b,o,x,hv,_,h3,h4⟩,_⟩:=bV h hx
   have gS:0 < s:=dM e
   have hc:=h.base.pers.cell (h4 0 (x.cells[0]'(by omega)) (by simp))
   rw [hv]
   refine ⟨?_,by rw [eG] at hc; rw [hc]; rfl⟩
   have:=World.block_lt_of_cell? w _ hc
   exact this
  ·cases e
 case nilCheck x =>
  simp only [we] at e
  split at e
  ·rename_i i off hx
   obtain ⟨⟨b,hb,hv⟩,_⟩:=bV h hx
   rw [hv]; trivial
  ·rename_i r s hx
   obtain ⟨⟨b,o,x,hv,_,h3,h4⟩,_⟩:=bV h hx
   rw [hv]; trivial
  ·cases e
 case call cl =>
  obtain ⟨callee,args,argTypes⟩:=cl
  cases callee <;> try trivial
  rename_i b
  cases b <;> try trivial
  show ∀ x ∈ args.toList,RM.slV (a.eval x)
  simp only [we] at e
  split at e
  case h_2=>cases e
  rename_i x hx
  rw [hx]
  intro y hy
  simp at hy
  subst hy
  split at e
  ·rename_i r n hx
   obtain ⟨⟨_,ao,cap,hv⟩,_⟩:=bV h hx
   rw [hv]; trivial
  ·rename_i i hx
   split at e
   case h_2=>cases e
   rename_i ty s r n hm
   have hv:a.eval y=hs i:=(bV h hx).1
   obtain ⟨cs,⟨_,h1⟩,_⟩:=h.items i _ hm
   rcases h1 with ⟨h1,_⟩ | ⟨gb,of,cap,cur,h1,_⟩ <;> (rw [hv,h1]; trivial)
  ·rename_i ao n cap hx
   have hv:a.eval y=.slice ao n cap:=(bV h hx).1
   rw [hv]; trivial
  ·rename_i st hx
   have hv:a.eval y=.string st:=(bV h hx).1
   rw [hv]; trivial
  ·cases e
theorem wd (h:dJ c S a w g hs):∀ {l:List Oper},xO ops S l=true -> RM.sides w.heap.size w ops a l
 | [],_=>trivial
 | o :: l,e=>by
  simp only [xO,cC] at e
  refine ⟨fun _ hw=>?_,wd h e.2⟩
  have e1:=e.1
  split at e1
  ·rename_i hh
   rw [dU h hh] at hw
   cases hw
  ·exact Gy h e1
theorem o9 (w:World):w.grownBy w.drew none:=⟨rfl,rfl,rfl,bP _,fun _ _ _=>rfl⟩
theorem fU {id:Nat} {l:List Oper} {E:List (Nat × Po)} {R:Po} (hm:Tryz.prog.follows .mixedOrders=true)
  (hc:(Region.noSelect l.toArray && RM.covers Tryz.prog .any l.toArray (.soft (List.range l.length) .done) l.length (Array.replicate l.length false) none)=true)
  (h:SL c l.toArray l S (fun S'=>xO l.toArray S' l=true /\ En c S' N)):En c S (cwp (.region id l.toArray true) (PQ c N E R)):=fun a w ⟨g,hs,hk⟩=>by
 have hk':dJ c S a w.drew g hs:=hk.grown (o9 w)
 obtain ⟨S',aE,⟨h1,h2⟩,h3,h4⟩:=h a w.drew g hs hk'
 exact RM.wp_region_soft hm hc (fun K hK=>h4 K hK) (wd h3 h1) (h2 _ _ ⟨g,hs,h3⟩)
theorem eB (T:St) (h1:WL c ops L S (Ok c T)) (h2:En c T N):WL c ops L S N:=by
 have key:∀ (L:List Oper) a w,wpList Tryz.prog ops (gm c (Ok c T)) L a w -> wpList Tryz.prog ops (gm c N) L a w:=by
  intro L
  induction L with
  | nil=>intro a w h; exact h2 a w h
  | cons o l ih =>
   intro a w h
   unfold wpList at h ⊢
   split
   ·rename_i hw
    rw [if_pos hw] at h
    rcases h with h | ⟨_,_,_,hf⟩
    ·exact .inl (Bn (Oper.wp_mono (fun a' w' h'=>ih a' w' h') h))
    ·exact hf.elim
   ·rename_i hw
    rw [if_neg hw] at h
    exact ih _ _ h
 exact fun a w hk=>key L a w (h1 a w hk)
end
def cv (b:Bool) (p q:Prop):Prop:=(b=true -> p) /\ (b=false -> q)
abbrev wr (n:Int):Int:=IntKind.wrap .i64 n
theorem bL {n:Int} (h1:-9223372036854775808 <= n) (h2:n <= 9223372036854775807):wr n=n:=by
 unfold wr IntKind.wrap
 simp only [IntKind.signed,IntKind.bits,mT]
 split
 ·rename_i h
  simp at h ⊢
  omega
 ·rename_i h
  simp at h ⊢
  omega
def ky (k:IntKind):Ty Int:=⟨1,fun x=>.one (.v (.int k x))⟩
def Gu : List (Nat × TI) -> gY
 | [],_=>none
 | (k,i) :: l,t=>match Nat.beq k t with
  | true=>some i
  | false=>Gu l t
theorem Cx : ∀ {l:List (Nat × TI)},(∀ x ∈ l,TI.ok x.1 x.2) -> gY.ok (Gu l)
 | [],_=>fun t i h=>by cases h
 | (k,j) :: l,hl=>fun t i h=>by
  have hd:(Gu ((k,j) :: l) t)=match Nat.beq k t with
   | true=>some j
   | false=>Gu l t:=rfl
  rw [hd] at h
  cases hb:Nat.beq k t with
  | true =>
   rw [hb] at h
   cases h
   have:=dS hb
   subst this
   exact hl (k,j) (by simp)
  | false =>
   rw [hb] at h
   exact Cx (fun x hx=>hl x (d7 _ hx)) t i h
theorem Ct.fun {β:Type} {f:Nat} {ins:List SC} {M:List br} {r:β} {out:β -> SC} (h:Ct f ins M (fun x=>x=r) out):Ct f ins M (fun (_:Unit)=>True) (fun _=>out r):=fun w g hs args h1 h2 h3 =>
 (h w g hs args h1 h2 h3).mono fun e w' ⟨v,g',r',e1,e2,e3,e4⟩=>⟨v,g',(),e1,trivial,by subst e2; exact e3,e4⟩
structure Eff (hs:Nat -> Value) (K:List Nat) (w:World) (g:Gh) (w':World) (g':Gh):Prop where
 os:w'.os=w.os
 tape:w'.tape=w.tape
 output:w'.output=w.output
 size:w.heap.size <= w'.heap.size
 block:∀ b,b < w.heap.size -> (∀ k ∈ K,¬ fW (hs k) b) -> w'.heap[b]? = w.heap[b]?
 ghle:Gh.le g g'
 ghnew:∀ b o,g' b=some o -> g b=some o \/ w.heap.size <= b \/ ∃ k ∈ K,fW (hs k) b
 pers:pu g' w'
def z8 (M:List br) (p:Nat) (it:br):List br:=if p < M.length then M.set p it else M ++ List.replicate (p - M.length) .gone ++ [it]
def ny (M:List br):List Nat -> List br
 | []=>M
 | k :: K=>ny (M.set k .gone) K
def my (M:List br) (K:List Nat):Option (Nat × br) -> List br
 | none=>ny M K
 | some (p,it)=>z8 (ny M K) p it
def uI (hs:Nat -> Value) (p:Option (Nat × br)) (h':Value):Nat -> Value:=match p with
 | none=>hs
 | some (p,_)=>fun i=>if i=p then h' else hs i
def G5 (hs:Nat -> Value) (K:List Nat) (w:World) (w':World) (g':Gh) (h':Value):Option (Nat × br) -> Prop
 | none=>True
 | some (p,it)=>it.ok g' (fun i=>if i=p then h' else hs i) w' h' /\ ∀ b,fW h' b -> b < w'.heap.size /\ (it.fz=false -> g' b=none) /\ (w.heap.size <= b \/ ∃ k ∈ K,fW (hs k) b)
def MT (c:eT) (S:St) (o:Oper) (x:SC) (K:List Nat) (p:Option (Nat × br)):Prop:=
 ∀ a w g hs,dJ c S a w g hs -> ∀ N Z:Po,(∀ v w' g' h',Eff hs K w g w' g' -> x.ok g' (uI hs p h') v -> G5 hs K w w' g' h' p -> N (a.put o.dst v) w') -> o.wp Tryz.prog a w N (gm c Z)
theorem z7 {M:List br} {p:Nat} {it:br}:∀ (i:Nat) (jt:br),(z8 M p it)[i]? = some jt -> (i=p /\ jt=it) \/ (i ≠ p /\ (M[i]? = some jt \/ jt=.gone)):=fun i jt h=>by
 unfold z8 at h
 split at h
 ·rw [dT] at h
  by_cases e:p=i
  ·rw [if_pos e] at h
   subst e
   rename_i hp
   rw [if_pos hp] at h
   simp at h
   exact .inl ⟨rfl,h.symm⟩
  ·rw [if_neg e] at h
   exact .inr ⟨Ne.symm e, .inl h⟩
 ·rename_i hlt
  rw [ru,ru] at h
  simp only [di,jb] at h
  split at h
  ·rename_i h1
   split at h
   ·exact .inr ⟨by omega, .inl h⟩
   ·rw [mh] at h
    split at h
    ·simp at h; exact .inr ⟨by omega, .inr h.symm⟩
    ·cases h
  ·rename_i h1
   by_cases e:i=p
   ·subst e
    rw [show i - (M.length + (i - M.length))=0 by omega] at h
    simp at h
    exact .inl ⟨rfl,h.symm⟩
   ·rw [ko (by simp; omega)] at h
    cases h
theorem rV : ∀ {K:List Nat} {M:List br} (i:Nat) (jt:br),(ny M K)[i]? = some jt -> jt ≠ .gone -> i ∉ K /\ M[i]? = some jt
 | [],M,i,jt,h,_=>⟨by simp,h⟩
 | k :: K,M,i,jt,h,hn=>by
  obtain ⟨h1,h2⟩:=rV (K:=K) (M:=M.set k .gone) i jt h hn
  rw [dT] at h2
  by_cases e:k=i
  ·rw [if_pos e] at h2
   split at h2
   ·simp at h2; exact absurd h2.symm hn
   ·cases h2
  ·rw [if_neg e] at h2
   exact ⟨by simp; exact ⟨Ne.symm e,h1⟩,h2⟩
theorem br.mono {g g':Gh} {hs:Nat -> Value} {w:World} {x:Value} (hg:Gh.le g g') {it:br} (h:it.ok g hs w x):it.ok g' hs w x:=by
 cases it with
 | box cells ty fz =>
  obtain ⟨b,cs,h1,h2,h3,h4⟩:=h
  exact ⟨b,cs,h1,np hg h2,h3,fun h=>hg _ _ (h4 h)⟩
 | row ty s r n =>
  obtain ⟨cs,h1,h2⟩:=h
  exact ⟨cs,h1,r.mono _ _ _ hg h2⟩
 | map r =>
  obtain ⟨m,es,clock,h1,h2,h3⟩:=h
  exact ⟨m,es,clock,h1,h2,r.mono _ _ _ hg h3⟩
 | iter _ _=>exact h
 | siter _ _=>exact h
 | ext X=>exact X.mono _ _ _ _ hg h
 | grid tyo ty s rows link =>
  obtain ⟨us,ocs,h1,h2,h3,h3',h4,h4',hlk,h5⟩:=h
  exact ⟨us,ocs,h1,h2,h3,h3',fun p r n hp=>by
   obtain ⟨h0,cs,h6,h7⟩:=h4 p r n hp
   exact ⟨h0,cs,h6,r.mono _ _ _ hg h7⟩,h4',hlk,h5⟩
 | gone=>trivial
theorem br.same {g g':Gh} {hs:Nat -> Value} {w w':World} {x:Value} {it:br} (hg:Gh.le g g') (hb:∀ b,fW x b -> w'.heap[b]? = w.heap[b]?) (h:it.ok g hs w x):it.ok g' hs w' x:=by
 refine br.mono hg ?_
 cases it with
 | box cells ty fz =>
  obtain ⟨b,cs,rfl,h2,h3,h4⟩:=h
  exact ⟨b,cs,rfl,h2,(hb b rfl).trans h3,h4⟩
 | row ty s r n =>
  obtain ⟨cs,⟨h0,h1⟩,h2⟩:=h
  refine ⟨cs,⟨h0,?_⟩,h2⟩
  rcases h1 with h1 | ⟨gb,of,cap,cur,rfl,h4,h5⟩
  ·exact .inl h1
  ·exact .inr ⟨gb,of,cap,cur,rfl,(hb gb rfl).trans h4,h5⟩
 | map r =>
  obtain ⟨m,es,clock,rfl,h1,h3⟩:=h
  exact ⟨m,es,clock,rfl,(hb m rfl).trans h1,h3⟩
 | iter j r =>
  obtain ⟨rb,m,clock,seen,rfl,h2,h3,h4⟩:=h
  exact ⟨rb,m,clock,seen,rfl,h2,(hb rb rfl).trans h3,h4⟩
 | siter s pos =>
  obtain ⟨rb,rfl,h3⟩:=h
  exact ⟨rb,rfl,(hb rb rfl).trans h3⟩
 | grid tyo ty s rows link =>
  obtain ⟨us,ocs,h1,h2,h3,h3',h4,h4',hlk,h5⟩:=h
  exact ⟨us,ocs,h1,h2,kR h3 (fun b e=>hb b (fW.part h1 (by omega) e)),h3',fun p r n hp=>by
   obtain ⟨h0,cs,h6,h7⟩:=h4 p r n hp
   have:=(cg.1 hp).1
   exact ⟨h0,cs,kR h6 (fun b e=>hb b (fW.part h1 (by omega) e)),h7⟩,h4',hlk,h5⟩
 | ext X=>exact X.same g _ _ x hb h
 | gone=>trivial
section
variable {c:eT} {S S1:St} {a:Act} {w:World} {g:Gh} {hs:Nat -> Value} {co:gY} {n:Nat} {o:Oper} {ops:Array Oper} {rest:List Oper} {N:Po}
def oY (S:St):Option (Nat × br) -> Bool
 | none=>true
 | some (p,_)=>S.refsAll (fun i=>!(Nat.beq i p))
def fF (S:St) (K:List Nat):Bool:=K.all fun k=>match S.M[k]? with
 | some it=>!it.fz
 | none=>false
theorem dJ.eff (h:dJ c S a w g hs) {K:List Nat} {w':World} {g':Gh} {h':Value} {p:Option (Nat × br)} (he:Eff hs K w g w' g') (hp:G5 hs K w w' g' h' p) (hr:oY S p=true) (hu:fF S K=true):dJ c ⟨S.F,my S.M K p⟩ a w' g' (uI hs p h'):=by
 have hK:∀ k ∈ K,∃ kt,S.M[k]? = some kt /\ kt.fz=false:=fun k hk=>by
  have:=cI.1 hu k hk
  cases hm:S.M[k]? with
  | none=>rw [hm] at this; cases this
  | some kt=>rw [hm] at this; exact ⟨kt,rfl,by simpa using this⟩
 have hKm:∀ k ∈ K,∀ b,fW (hs k) b -> (c.may b \/ c.w0.heap.size <= b) /\ g b=none /\ b < w.heap.size:=fun k hk b hb=>by
  obtain ⟨kt,h1,h2⟩:=hK k hk
  obtain ⟨h3,h4⟩:=h.mine k kt h1 (dy h2) b hb
  exact ⟨(h4 h2).1,(h4 h2).2,h3⟩
 have hbase:j7 c w' g':=by
  refine ⟨he.os.trans h.base.os,he.tape.trans h.base.tape,he.output.trans h.base.output,dp h.base.grows he.size,fun b hb hm=>?_,h.base.ghle.trans he.ghle,fun b o e=>?_,he.pers⟩
  ·refine (he.block b (gv hb h.base.grows) fun k hk e=>?_).trans (h.base.frame b hb hm)
   rcases (hKm k hk b e).1 with h1 | h1
   ·exact hm h1
   ·omega
  ·rcases he.ghnew b o e with h1 | h1 | ⟨k,hk,h1⟩
   ·exact h.base.ghnew b o h1
   ·exact .inr (.inr (dp h.base.grows h1))
   ·rcases (hKm k hk b h1).1 with h2 | h2
    ·exact .inr (.inl h2)
    ·exact .inr (.inr h2)
 have hH:∀ i,(∀ q,p=some q -> i ≠ q.1) -> uI hs p h' i=hs i:=fun i hi=>by
  cases p with
  | none=>rfl
  | some q =>
   obtain ⟨q,it⟩:=q
   show (if i=q then h' else hs i)=hs i
   rw [if_neg (hi _ rfl)]
 have hold:∀ (i:Nat) (it:br),(my S.M K p)[i]? = some it -> it ≠ .gone -> (∃ q,p=some (i,q) /\ it=q) \/ ((∀ q,p=some q -> i ≠ q.1) /\ i ∉ K /\ S.M[i]? = some it):=fun i it hi hn=>by
  cases p with
  | none =>
   obtain ⟨h1,h2⟩:=rV i it hi hn
   exact .inr ⟨fun q e=>by (cases e),h1,h2⟩
  | some q =>
   obtain ⟨q,jt⟩:=q
   rcases z7 i it hi with ⟨rfl,rfl⟩ | ⟨h1,h2⟩
   ·exact .inl ⟨it,rfl,rfl⟩
   ·rcases h2 with h2 | h2
    ·obtain ⟨h3,h4⟩:=rV i it h2 hn
     exact .inr ⟨fun q e=>by (cases e; exact h1),h3,h4⟩
    ·exact absurd h2 hn
 have hapart:∀ (i:Nat) (it:br),S.M[i]? = some it -> it ≠ .gone -> i ∉ K -> ∀ b,fW (hs i) b -> b < w.heap.size /\ ∀ k ∈ K,¬ fW (hs k) b:=fun i it hi hn hik b hb=>by
  refine ⟨(h.mine i it hi hn b hb).1,fun k hk e=>?_⟩
  obtain ⟨kt,h1,h2⟩:=hK k hk
  exact h.sep k i kt it (fun e=>hik (e ▸ hk)) h1 hi h2 hn b e hb
 have hrefs:∀ q,p=some q -> S.refsAll (fun i=>!(Nat.beq i q.1))=true:=fun q e=>by
  subst e
  obtain ⟨q,it⟩:=q
  exact hr
 have hne:∀ q,p=some q -> ∀ i,(!(Nat.beq i q.1))=true -> i ≠ q.1:=fun q _ i hi e=>by
  subst e
  simp at hi
 refine ⟨h.size,h.defers,hbase,fun t x hx=>?_,fun i it hi=>?_,fun i j it jt hij hi hj hfi hnj b hb=>?_,fun i it hi hn b hb=>?_⟩
 ·refine SC.mono he.ghle (SC.ok_hs (fun i hi=>?_) (h.slots t x hx))
  refine hH i fun q e=>hne q e i ?_
  exact sk (hrefs q e) hx i hi
 ·by_cases hn:it=.gone
  ·subst hn; trivial
  ·rcases hold i it hi hn with ⟨q,rfl,rfl⟩ | ⟨h1,h2,h3⟩
   ·have:uI hs (some (i,it)) h' i=h':=by show (if i=i then h' else hs i)=h'; rw [if_pos rfl]
    rw [this]
    exact hp.1
   ·rw [hH i h1]
    refine br.ok_hs (fun j hj=>hH j fun q e=>hne q e j (sj (hrefs q e) h3 j hj)) ?_
    exact br.same he.ghle (fun b hb=>by
     obtain ⟨h4,h5⟩:=hapart i it h3 hn h2 b hb
     exact he.block b h4 h5) (h.items i it h3)
 ·have hni:=dy hfi
  rcases hold i it hi hni with ⟨q,rfl,rfl⟩ | ⟨h1,h2,h3⟩
  ·rcases hold j jt hj hnj with ⟨q2,e2,_⟩ | ⟨k1,k2,k3⟩
   ·cases e2
    exact absurd rfl hij
   ·rw [hH j k1]
    have e0:uI hs (some (i,it)) h' i=h':=by show (if i=i then h' else hs i)=h'; rw [if_pos rfl]
    rw [e0] at hb
    intro e
    obtain ⟨x1,x2⟩:=hapart j jt k3 hnj k2 b e
    obtain ⟨_,_,y | ⟨k,hk,y⟩⟩:=hp.2 b hb
    ·omega
    ·exact x2 k hk y
  ·rw [hH i h1] at hb
   rcases hold j jt hj hnj with ⟨q2,rfl,rfl⟩ | ⟨k1,k2,k3⟩
   ·have e0:uI hs (some (j,jt)) h' j=h':=by show (if j=j then h' else hs j)=h'; rw [if_pos rfl]
    rw [e0]
    intro e
    obtain ⟨x1,x2⟩:=hapart i it h3 hni h2 b hb
    obtain ⟨_,_,y | ⟨k,hk,y⟩⟩:=hp.2 b e
    ·omega
    ·exact x2 k hk y
   ·rw [hH j k1]
    exact h.sep i j it jt hij h3 k3 hfi hnj b hb
 ·rcases hold i it hi hn with ⟨q,rfl,rfl⟩ | ⟨h1,h2,h3⟩
  ·have e0:uI hs (some (i,it)) h' i=h':=by show (if i=i then h' else hs i)=h'; rw [if_pos rfl]
   rw [e0] at hb
   obtain ⟨x1,x2,x3⟩:=hp.2 b hb
   refine ⟨x1,fun hf=>⟨?_,x2 hf⟩⟩
   rcases x3 with y | ⟨k,hk,y⟩
   ·exact .inr (dp h.base.grows y)
   ·exact (hKm k hk b y).1
  ·rw [hH i h1] at hb
   obtain ⟨x1,x2⟩:=h.mine i it h3 hn b hb
   refine ⟨gv x1 he.size,fun hf=>⟨(x2 hf).1,?_⟩⟩
   cases hgb:g' b with
   | none=>rfl
   | some o =>
    exfalso
    obtain ⟨y1,y2⟩:=hapart i it h3 hn h2 b hb
    rcases he.ghnew b o hgb with z | z | ⟨k,hk,z⟩
    ·rw [(x2 hf).2] at z; cases z
    ·omega
    ·exact y2 k hk z
theorem jF {S2:St} {x:SC} {K:List Nat} {p:Option (Nat × br)} (hn:c.n=n) (hw:dX ops S.F o=some true) (hm:MT c S o x K p) (h2:jf S2 S=je S2) (hr:oY S2 p=true) (hu:fF S2 K=true) (e:iA n o.dst x ⟨S2.F,my S2.M K p⟩=some S1) (h:WL c ops rest S1 N):WL c ops (o :: rest) S N:=fun a w ⟨g,hs,hk⟩=>by
 unfold wpList
 rw [if_pos (dU hk hw)]
 refine .inl (hm a w g hs hk _ N fun v w' g' h' h1 h3 h4=>?_)
 exact h _ _ ⟨g',_,fR ((xK h2 a w g hs hk).eff h1 h4 hr hu) hn h3 e⟩
end
section
variable {c:eT} {S S1:St} {a:Act} {w:World} {g:Gh} {hs:Nat -> Value} {co:gY} {n:Nat} {o:Oper} {ops:Array Oper} {rest L:List Oper} {N:Po}
theorem jG {w':World} {g':Gh} (h:j7 (nK n w g) w' g'):Eff hs [] w g w' g':=
 ⟨h.os,h.tape,h.output,h.grows,fun b hb _=>h.frame b hb (fun h=>h),h.ghle,fun b o e=>by
  rcases h.ghnew b o e with h1 | h1 | h1
  ·exact .inl h1
  ·exact h1.elim
  ·exact .inr (.inl h1),h.pers⟩
theorem Dc {f:Nat} {ins:List SC} {M:List br} {x:SC} (ct:Ct f ins M (fun (_:Unit)=>True) (fun _=>x)) (en:∀ args w,(callFunc f args).run Tryz.prog w=.ok (.enter f args) w) {caps:List Nat} (rn:List Nat) {fo:Operand} {args:Array Operand} {ats:Array TypeId}
  (ho:o.op=.call ⟨.value fo,args,ats⟩) (hf:eL S.F fo=some (.sv (.one (.fn f caps)))) (ha:(match rY S.F args.toList with | some l=>some (l ++ caps.map fun i=>.sv (.one (.ptr i 0))) | none=>none)=some (ins.map (SC.ren fun i=>rn.getD i 0)))
  (hM:fzE S.M (fun i=>rn.getD i 0) 0 M=M.map fun it=>some (it.ren fun i=>rn.getD i 0)) (hz:M.all fzB=true) (hcl:x.refs=[]) (hcb:caps.all (vU S)=true):MT c S o x [] none:=fun a w g hs h N Z hN=>by
 unfold Oper.wp
 have hfv:a.eval fo=.func (.func f) #[] (caps.map hs).toArray:=(bV h hf).1
 split at ha
 case h_2=>cases ha
 rename_i l hl
 simp only [Option.some.injEq] at ha
 have h1:=mE h hl
 have hcp:∀ i ∈ caps,∃ b,hs i=.pointer (some ⟨b,0,none⟩):=fun i hi=>by
  have:=cI.1 hcb i hi
  unfold vU at this
  cases hm:S.M[i]? with
  | none=>rw [hm] at this; cases this
  | some it =>
   rw [hm] at this
   cases it <;> try (cases this; done)
   obtain ⟨b,cs,h1,_⟩:=h.items i _ hm
   exact ⟨b,h1⟩
 have h2:dN g hs (caps.map fun i=>SC.sv (.one (.ptr i 0))) (caps.map hs):=by
  clear ha hf hfv hcb
  induction caps with
  | nil=>trivial
  | cons i caps ih =>
   refine ⟨?_,ih (fun j hj=>hcp j (d7 _ hj))⟩
   obtain ⟨b,hb⟩:=hcp i (by simp)
   exact ⟨⟨b,hb,hb⟩,by rw [hb]; trivial⟩
 have h3:=f7 h1 h2
 rw [ha] at h3
 have h4:=ig h3
 have hrun:(execOp a.eval o).run Tryz.prog w=.ok (.enter f ((args.toList.map a.eval) ++ caps.map hs).toArray) w:=by
  unfold execOp
  simp only [ho,resolve,hfv,Deferred.ofValue,bW,db,ce,invoke]
  rw [show (#[] ++ Array.map a.eval args ++ (List.map hs caps).toArray:Array Value)=(args.toList.map a.eval ++ caps.map hs).toArray by simp]
  exact en _ _
 rw [hrun]
 refine (ct w g (fun i=>hs (rn.getD i 0)) _ h.base.pers h4 (fun i it hi=>?_)).mono ?_
 ·have h5:=rX hM i it hi
  rw [gt] at h5
  exact AJ h5 (cI.1 hz it (dC hi)) h
 ·rintro e w' ⟨v,g',r,rfl,h5,h6,h7⟩
  exact hN v w' g' undef (jG h7) (lw hcl h6) trivial
theorem dJ.freeze (h:dJ c S a w g hs) {i ty:Nat} {cells:List At} (hi:S.M[i]? = some (.box cells ty false)):∃ g',dJ c ⟨S.F,S.M.set i (.box cells ty true)⟩ a w g' hs:=by
 classical
 obtain ⟨b,cs,h1,h2,h3,_⟩:=h.items i _ hi
 have hb:fW (hs i) b:=by rw [h1]; rfl
 obtain ⟨m1,m2⟩:=h.mine i _ hi (by simp) b hb
 have m3:=m2 rfl
 let g':Gh:=fun x=>if x=b then some (.cells cs.toArray ty (0,0)) else g x
 have hle:Gh.le g g':=fun x o e=>by
  show (if x=b then _ else g x)=some o
  by_cases hx:x=b
  ·subst hx; rw [m3.2] at e; cases e
  ·rw [if_neg hx]; exact e
 have hg'b:g' b=some (.cells cs.toArray ty (0,0)):=if_pos rfl
 have hg'n:∀ x,x ≠ b -> g' x=g x:=fun x hx=>if_neg hx
 have hlt:i < S.M.length:=(cg.1 hi).1
 have hset:∀ (j:Nat) (jt:br),(S.M.set i (.box cells ty true))[j]? = some jt -> (j=i /\ jt=.box cells ty true) \/ (j ≠ i /\ S.M[j]? = some jt):=fun j jt hj=>by
  rw [dT] at hj
  by_cases e:i=j
  ·rw [if_pos e,if_pos hlt] at hj
   simp at hj
   exact .inl ⟨e.symm,hj.symm⟩
  ·rw [if_neg e] at hj; exact .inr ⟨Ne.symm e,hj⟩
 refine ⟨g',h.size,h.defers,⟨h.base.os,h.base.tape,h.base.output,h.base.grows,h.base.frame,h.base.ghle.trans hle,fun x o e=>?_,fun x o e=>?_⟩,fun t x hx=>SC.mono hle (h.slots t x hx),fun j jt hj=>?_,fun j k jt kt hjk hj hk hfj hnk x hx=>?_,fun j jt hj hnj x hx=>?_⟩
 ·by_cases hx:x=b
  ·subst hx
   exact .inr (m3.1)
  ·rw [hg'n x hx] at e
   exact h.base.ghnew x o e
 ·by_cases hx:x=b
  ·subst hx
   rw [hg'b] at e
   cases e
   exact h3
  ·rw [hg'n x hx] at e
   exact h.base.pers x o e
 ·rcases hset j jt hj with ⟨rfl,rfl⟩ | ⟨hne,hj⟩
  ·exact ⟨b,cs,h1,np hle h2,h3,fun _=>hg'b⟩
  ·exact br.mono hle (h.items j jt hj)
 ·rcases hset j jt hj with ⟨rfl,rfl⟩ | ⟨hne,hj'⟩
  ·cases hfj
  ·rcases hset k kt hk with ⟨rfl,rfl⟩ | ⟨hne2,hk'⟩
   ·exact h.sep j k jt _ hjk hj' hi hfj (by simp) x hx
   ·exact h.sep j k jt kt hjk hj' hk' hfj hnk x hx
 ·rcases hset j jt hj with ⟨rfl,rfl⟩ | ⟨hne,hj⟩
  ·exact ⟨(h.mine j _ hi (by simp) x hx).1,fun h=>by cases h⟩
  ·obtain ⟨y1,y2⟩:=h.mine j jt hj hnj x hx
   refine ⟨y1,fun hf=>⟨(y2 hf).1,?_⟩⟩
   have hxb:x ≠ b:=fun e=>by
    subst e
    exact h.sep j i jt _ hne hj hi hf (by simp) x hx hb
   rw [hg'n x hxb]
   exact (y2 hf).2
def KN (M:List br) (i:Nat):Option (List br):=match M[i]? with
 | some (.box cells ty false)=>some (M.set i (.box cells ty true))
 | _=>none
def rW (M:List br):List Nat -> Option (List br)
 | []=>some M
 | i :: l=>match KN M i with
  | some M'=>rW M' l
  | none=>none
theorem tI : ∀ {l:List Nat} {M M':List br} {F:List (Nat × SC)} {g:Gh},rW M l=some M' -> dJ c ⟨F,M⟩ a w g hs -> ∃ g',dJ c ⟨F,M'⟩ a w g' hs
 | [],M,M',F,g,e,h=>by cases e; exact ⟨g,h⟩
 | i :: l,M,M',F,g,e,h=>by
  unfold rW at e
  split at e
  case h_2=>cases e
  rename_i M1 h1
  unfold KN at h1
  split at h1
  case h_2=>cases h1
  rename_i cells ty hm
  cases h1
  obtain ⟨g1,h2⟩:=h.freeze (i:=i) hm
  exact tI e h2
theorem iu (l:List Nat) {M':List br} (e:rW S.M l=some M') (h:WL c ops L ⟨S.F,M'⟩ N):WL c ops L S N:=fun a w ⟨g,hs,hk⟩=>by
 obtain ⟨g',hk'⟩:=tI (F:=S.F) e hk
 exact h a w ⟨g',hs,hk'⟩
theorem gX (t:Nat) {x:SC} (x':SC) (hl:look t S.F=some x) (hx:∀ a w g hs,dJ c S a w g hs -> ∀ u,x.ok g hs u -> x'.ok g hs u) (h:WL c ops L ⟨(t,x') :: S.F,S.M⟩ N):WL c ops L S N:=fun a w ⟨g,hs,hk⟩=>by
 refine h a w ⟨g,hs,hk.size,hk.defers,hk.base,fun t' y hy=>?_,hk.items,hk.sep,hk.mine⟩
 rcases eh.1 hy with hy | hy
 ·cases hy
  exact hx a w g hs hk _ (hk.slots t x (dZ hl))
 ·exact hk.slots t' y hy
def fvR {α β:Type} (ins:α -> List SC) (out:β -> SC) (dom:α -> Prop) (φ:α -> β):Rd:=
  ⟨fun g v=>∃ f caps,v=.func (.func f) #[] caps /\ (∀ args w,(callFunc f args).run Tryz.prog w=.ok (.enter f args) w) /\
    ∀ x,dom x -> ∀ w g' args,Gh.le g g' -> pu g' w -> dN g' gS (ins x) args -> Calls Tryz.prog f (args ++ caps.toList).toArray w (LT w g' (fun (_:Unit)=>True) (fun _=>out (φ x))),
   fun g g' v h ⟨f,caps,h1,h2,h3⟩=>⟨f,caps,h1,h2,fun x hx w g2 args hle=>h3 x hx w g2 args (h.trans hle)⟩⟩
def B2 (k:Nat):List SC:=(List.range k).map fun i=>.sv (.one (.ptr i 0))
theorem oD {l:List SC} (hc:l.all (fun x=>x.refs.isEmpty)=true) {us:List Value} {hs hs':Nat -> Value} (h:dN g hs l us):dN g hs' l us:=by
 induction l generalizing us with
 | nil=>cases us with
  | nil=>trivial
  | cons _ _=>exact h.elim
 | cons x l ih=>cases us with
  | nil=>exact h.elim
  | cons u us =>
   simp only [oQ,cC,List.isEmpty_iff] at hc
   exact ⟨SC.ok_hs (fun i hi=>by rw [hc.1] at hi; cases hi) h.1,ih hc.2 h.2⟩
theorem gV {α β:Type} {ins:α -> List SC} {out:β -> SC} {dom:α -> Prop} {φ:α -> β} {f:Nat} {M:List br} {caps:List Nat} (ct:∀ x,dom x -> Ct f (ins x ++ B2 M.length) M (fun (_:Unit)=>True) (fun _=>out (φ x)))
  (en:∀ args w,(callFunc f args).run Tryz.prog w=.ok (.enter f args) w) (hl:caps.length=M.length) (hM:fzE S.M (fun i=>caps.getD i 0) 0 M=M.map fun it=>some (it.ren fun i=>caps.getD i 0)) (hz:M.all fzB=true) (hc:∀ x,(ins x).all (fun x=>x.refs.isEmpty)=true) :
  ∀ a w g hs,dJ c S a w g hs -> ∀ u,SC.ok g hs (.sv (.one (.fn f caps))) u -> SC.ok g hs (.sv (.one (.rd (fvR ins out dom φ)))) u:=fun a w g hs h u hu=>by
 refine ⟨⟨f,(caps.map hs).toArray,hu.1,en,fun x hx w' g' args hle hp ha=>?_⟩,hu.2⟩
 have hz':∀ (i:Nat) (it:br),M[i]? = some it -> E8 g' (fun i=>hs (caps.getD i 0)) (hs (caps.getD i 0)) it:=fun i it hi=>by
  have h5:=rX hM i it hi
  rw [gt] at h5
  have h6:=AJ (f:=fun i=>caps.getD i 0) (i:=i) h5 (cI.1 hz it (dC hi)) h
  cases it with
  | box cells ty fz =>
   cases fz
   ·exact h6.elim
   ·obtain ⟨b,cs,k1,k2,k3⟩:=h6
    exact ⟨b,cs,k1,np hle k2,hle _ _ k3⟩
  | _=>exact h6.elim
 have hcaps:dN g' (fun i=>hs (caps.getD i 0)) (B2 M.length) (caps.map hs):=by
  have key:∀ (k:Nat) (l:List Nat),(∀ j,j < l.length -> l[j]? = caps[k + j]?) -> k + l.length <= M.length -> dN g' (fun i=>hs (caps.getD i 0)) ((List.range' k l.length).map fun i=>.sv (.one (.ptr i 0))) (l.map hs):=by
   intro k l
   induction l generalizing k with
   | nil=>intro _ _; trivial
   | cons y l ih =>
    intro hj hk
    simp only [dq] at hk hj
    have h0:=hj 0 (by omega)
    simp at h0
    have hy:caps.getD k 0=y:=by simp [List.getD,<- h0]
    obtain ⟨it,hit⟩:∃ it,M[k]? = some it:=⟨M[k]'(by omega),by simp⟩
    have h7:=hz' k it hit
    refine ⟨?_,ih (k + 1) (fun j hj2=>?_) (by omega)⟩
    ·cases it with
     | box cells ty fz =>
      cases fz
      ·exact h7.elim
      ·obtain ⟨b,cs,k1,k2,k3⟩:=h7
       rw [hy] at k1
       refine ⟨⟨b,?_,k1⟩,by rw [k1]; trivial⟩
       show hs (caps.getD k 0)=_
       rw [hy]
       exact k1
     | _=>exact h7.elim
    ·have:=hj (j + 1) (by omega)
     rw [show k + 1 + j=k + (j + 1) by omega]
     simpa using this
  have:=key 0 caps (fun j _=>by simp) (by omega)
  rw [hl] at this
  unfold B2
  rw [List.range_eq_range']
  exact this
 have h8:=ct x hx w' g' (fun i=>hs (caps.getD i 0)) (args ++ caps.map hs) hp (f7 (oD (hc x) ha) hcaps) hz'
 simpa using h8
theorem fG {α β:Type} {ins:α -> List SC} {out:β -> SC} {dom:α -> Prop} {φ:α -> β} (x:α) (hd:dom x) {fo:Operand} {args:Array Operand} {ats:Array TypeId}
  (ho:o.op=.call ⟨.value fo,args,ats⟩) (hf:eL S.F fo=some (.sv (.one (.rd (fvR ins out dom φ))))) (ha:rY S.F args.toList=some (ins x)) (hc:(ins x).all (fun x=>x.refs.isEmpty)=true) (hcl:(out (φ x)).refs=[]):MT c S o (out (φ x)) [] none:=fun a w g hs h N Z hN=>by
 unfold Oper.wp
 obtain ⟨⟨f,caps,h1,en,h2⟩,_⟩:=bV h hf
 have h3:=mE h ha
 have hrun:(execOp a.eval o).run Tryz.prog w=.ok (.enter f ((args.toList.map a.eval) ++ caps.toList).toArray) w:=by
  unfold execOp
  simp only [ho,resolve,h1,Deferred.ofValue,bW,db,ce,invoke]
  rw [show (#[] ++ Array.map a.eval args ++ caps:Array Value)=(args.toList.map a.eval ++ caps.toList).toArray by simp]
  exact en _ _
 rw [hrun]
 refine (h2 x hd w g _ (Gh.le.refl g) h.base.pers (oD hc h3)).mono ?_
 rintro e w' ⟨v,g',r,rfl,h5,h6,h7⟩
 exact hN v w' g' undef (jG h7) (lw hcl h6) trivial
end
end
end Go.Proofs.YtmdbjpljlniloaaGreat
namespace Go.Proofs.YtmdbjpljlniloaaGreat
open Go.RowKit
set_option maxRecDepth 100000
noncomputable section
theorem JT {α:Type} {P:Nat -> α -> Prop} (n:Nat):(∀ i,i < n -> ∃ a,P i a) -> ∃ l:List α,l.length=n /\ ∀ i a,l[i]? = some a -> P i a:=by
 induction n with
 | zero=>exact fun _=>⟨[],rfl,fun i a h=>by simp at h⟩
 | succ n ih =>
  intro h
  obtain ⟨l,hl,hp⟩:=ih fun i hi=>h i (by omega)
  obtain ⟨a,ha⟩:=h n (by omega)
  refine ⟨l ++ [a],by simp [hl],fun i b hb=>?_⟩
  by_cases hi:i < n
  ·exact hp i b (by rwa [mV (by omega)] at hb)
  ·rw [oC (by omega)] at hb
   have:i - l.length=0:=by
    have:=(cg.1 hb).1
    simp at this
    omega
   rw [this] at hb
   simp at hb
   subst hb
   rwa [show i=n from by omega]
theorem pU {us:List Value} {s:Nat} (hs:∀ u ∈ us,u.cells.size=s):(us.flatMap (·.cells.toList)).length=us.length * s:=by
 induction us with
 | nil=>simp
 | cons u us ih =>
  rw [jP,di,ih (fun x hx=>hs x (by simp [hx])),dq,mS]
  have:=hs u (by simp)
  simp [this]
  omega
end
end Go.Proofs.YtmdbjpljlniloaaGreat
namespace Go.Proofs.YtmdbjpljlniloaaGreat
open Go.RowKit Go.MapKept
set_option maxRecDepth 100000
noncomputable section
def cG {α:Type} (T:Ty α) (l:List α) (g:Gh) (cs:List Value):Prop:=∃ us:List Value,cs=us.flatMap (·.cells.toList) /\ us.length=l.length /\ ∀ (q:Nat) (u:Value) (a:α),us[q]? = some u -> l[q]? = some a -> (T.sv a).ok g gS u /\ u.cells.size=T.s
def ug {α:Type} (T:Ty α) (l:List α):Rl (List Value):=⟨cG T l,fun g g' cs h ⟨us,h1,h2,h3⟩=>⟨us,h1,h2,fun q u a hu ha=>⟨SV.mono h (h3 q u a hu ha).1,(h3 q u a hu ha).2⟩⟩⟩
theorem js {α:Type} {T:Ty α} {l:List α} {g:Gh} {us:List Value} (h2:us.length=l.length) (h3:∀ (q:Nat) (u:Value) (a:α),us[q]? = some u -> l[q]? = some a -> (T.sv a).ok g gS u /\ u.cells.size=T.s):∀ u ∈ us,u.cells.size=T.s:=fun u hu=>by
 obtain ⟨q,hq⟩:=jI.1 hu
 have hlt:=(cg.1 hq).1
 exact (h3 q u (l[q]'(by omega)) hq (by simp)).2
theorem cG.length {α:Type} {T:Ty α} {l:List α} {g:Gh} {cs:List Value} (h:cG T l g cs):cs.length=l.length * T.s:=by
 obtain ⟨us,rfl,h2,h3⟩:=h
 rw [pU (js h2 h3),h2]
theorem cG.append {α:Type} {T:Ty α} {l l':List α} {g:Gh} {cs cs':List Value} (h:cG T l g cs) (h':cG T l' g cs'):cG T (l ++ l') g (cs ++ cs'):=by
 obtain ⟨us,rfl,h2,h3⟩:=h
 obtain ⟨us',rfl,h2',h3'⟩:=h'
 refine ⟨us ++ us',by simp,by simp [h2,h2'],fun q u a hu ha=>?_⟩
 by_cases hq:q < us.length
 ·rw [mV hq] at hu
  rw [mV (by omega)] at ha
  exact h3 q u a hu ha
 ·rw [oC (by omega)] at hu
  rw [oC (by omega),<- h2] at ha
  exact h3' _ u a hu ha
theorem cG.nil {α:Type} {T:Ty α} {g:Gh}:cG T [] g []:=⟨[],rfl,rfl,fun q u a hu=>by simp at hu⟩
def Ty.solid {α:Type} (T:Ty α):Prop:=∀ a,T.sv a ≠ .one .junk
theorem cG.cells {α:Type} {T:Ty α} {l:List α} {g:Gh} {cs:List Value} (hT:T.solid) (h:cG T l g cs):∀ c ∈ cs,dR c:=by
 obtain ⟨us,rfl,h2,h3⟩:=h
 intro c hc
 obtain ⟨u,hu,hc⟩:=ib.1 hc
 obtain ⟨q,hq⟩:=jI.1 hu
 have hlt:=(cg.1 hq).1
 have:=jw (hT _) (h3 q u (l[q]'(by omega)) hq (by simp)).1
 exact kd this c hc
theorem dR.one {v:Value} (h:dR v):v.oneCell'=true:=by cases v <;> first | rfl | exact h.elim
theorem La {α:Type} {T:Ty α} {l:List α} {g:Gh} {w:World} {v:Value} (hT:T.solid) (hs:0 < T.s) (hp:pu g w) (h:k8 T l g v):∃ cs,Ca w T.s v l.length cs /\ cG T l g cs:=by
 obtain ⟨ao,n,cap,rfl,rfl,h1,h2,h3,hr⟩:=h
 obtain ⟨us,hl,hpp⟩:=JT (P:=fun q u=>∀ a,l[q]? = some a -> ∃ b o,ao=some ⟨b,o,none⟩ /\ (T.sv a).ok g gS u /\ u.cells.size=T.s /\ ∀ j c,u.cells[j]? = some c -> g.cell ⟨b,o + q * T.s + j,none⟩=some c) l.length (fun q hq=>by
  obtain ⟨b,o,u,x1,x2,x3,x4⟩:=hr q l[q] (by simp [hq])
  refine ⟨u,fun a ha=>?_⟩
  simp [hq] at ha
  subst ha
  exact ⟨b,o,x1,x2,x3,x4⟩)
 have hat:∀ q u,us[q]? = some u -> ∃ a,l[q]? = some a:=fun q u hu=>by
  have:=(cg.1 hu).1
  have hq:q < l.length:=by omega
  exact ⟨_,cO hq⟩
 have hrow:cG T l g (us.flatMap (·.cells.toList)):=⟨us,rfl,hl,fun q u a hu ha=>by
  obtain ⟨_,_,_,x,y,_⟩:=hpp q u hu a ha
  exact ⟨x,y⟩⟩
 have hsz:∀ u ∈ us,u.cells.size=T.s:=fun u hu=>by
  obtain ⟨q,hq⟩:=jI.1 hu
  obtain ⟨a,ha⟩:=hat q u hq
  obtain ⟨_,_,_,_,x,_⟩:=hpp q u hq a ha
  exact x
 refine ⟨us.flatMap (·.cells.toList),⟨ao,cap,rfl,fun e=>⟨h3 e,by have:=h3 e; omega⟩,by rw [pU hsz,hl],fun j c hj=>?_,fun c hc=>(hrow.cells hT c hc).one⟩,hrow⟩
 have hjl:=(cg.1 hj).1
 rw [pU hsz,hl] at hjl
 have hq:j / T.s < l.length:=by
  rw [Nat.div_lt_iff_lt_mul hs]
  exact hjl
 have hmod:j % T.s < T.s:=km _ hs
 obtain ⟨u,hu⟩:∃ u,us[j / T.s]? = some u:=⟨_,cO (by rw [hl]; exact hq)⟩
 have hus:=hsz u (dC hu)
 have hj2:=yI (q:=j / T.s) (j:=j % T.s) (c:=u.cells[j % T.s]'(by omega)) hsz hu (by simp [hus,hmod])
 rw [show j / T.s * T.s + j % T.s=j from by rw [Nat.mul_comm]; exact mR j T.s] at hj2
 rw [hj2] at hj
 simp at hj
 obtain ⟨a,ha⟩:=hat _ _ hu
 obtain ⟨b,o,x1,_,_,x4⟩:=hpp _ u hu a ha
 refine ⟨b,o,x1,?_⟩
 have:=x4 (j % T.s) c (by rw [<- hj]; simp [hus,hmod])
 rw [ft,show j / T.s * T.s + j % T.s=j from by rw [Nat.mul_comm]; exact mR j T.s] at this
 exact hp.cell this
def cellsOf {α:Type} (T:Ty α) (es:List α):List At:=es.flatMap fun a=>cF (T.sv a)
theorem zY {g:Gh} {s:SV} {cs:List Value} (h:oks g gS (cF s) cs):∃ u:Value,u.cells.toList=cs /\ s.ok g gS u:=by
 cases s with
 | one a =>
  match cs,h with
  | [u],h=>exact ⟨u,by rw [dR.cells h.2.1],h.1⟩
 | agg l=>exact ⟨.agg cs.toArray,by simp [Value.cells],cs,rfl,h⟩
theorem nf {α:Type} {T:Ty α} {g:Gh} {hs:Nat -> Value} (hT:T.solid) (hz:∀ a,(cF (T.sv a)).length=T.s) (hc:∀ a,(T.sv a).refs=[]):∀ {es:List α} {cs:List Value},oks g hs (cellsOf T es) cs -> cG T es g cs
 | [],cs,h=>by
  cases cs with
  | nil=>exact cG.nil
  | cons _ _=>exact h.elim
 | e :: es,cs,h=>by
  have h1:=iH (cF (T.sv e)).length h
  have h2:=iI (cF (T.sv e)).length h
  have e0:cellsOf T (e :: es)=cF (T.sv e) ++ cellsOf T es:=by simp [cellsOf]
  rw [e0,List.take_left] at h1
  rw [e0,List.drop_left] at h2
  have ih:=nf hT hz hc h2
  have hclosed:oks g gS (cF (T.sv e)) (cs.take (cF (T.sv e)).length):=rQ (fun i hi=>by
   have h3:=hc e
   cases hsv:T.sv e with
   | one a=>rw [hsv] at hi h3; simp [cF] at hi; simp only [SV.refs] at h3; rw [h3] at hi; cases hi
   | agg l=>rw [hsv] at hi h3; simp only [cF] at hi; simp only [SV.refs] at h3; rw [h3] at hi; cases hi) h1
  obtain ⟨u,hu,hok⟩:=zY hclosed
  have hlen:=dF hclosed
  have hone:cG T [e] g (cs.take (cF (T.sv e)).length):=⟨[u],by simp [hu],rfl,fun q u' a' hu' ha=>by
   cases q with
   | zero =>
    simp at hu' ha
    subst hu' ha
    refine ⟨hok,?_⟩
    rw [<- fq,hu,<- hlen]
    exact hz _
   | succ q=>simp at hu'⟩
  have:=hone.append ih
  simpa using this
abbrev bf {α:Type} (ty:Nat) (T:Ty α) (l:List α):br:=.row ty T.s (ug T l) l.length
theorem TI.ok.parts {t:Nat} {i:TI} (h:TI.ok t i):∃ x z,Tryz.prog.info? t=some x /\ x.zero=some z /\ x.size=i.size /\ x.bytes=i.bytes /\ z.cells.toList=i.zero:=by
 have h1:=h.info
 cases hx:Tryz.prog.info? t with
 | none=>rw [hx] at h1; simp at h1
 | some x =>
  rw [hx] at h1
  simp at h1
  obtain ⟨e1,⟨z,hz,hz2⟩,e3⟩:=h1
  exact ⟨x,z,rfl,hz,e1,e3,hz2⟩
theorem jo {v:Value} {b:Nat} (h:∃ ao n cap,v=.slice ao n cap):fW v b ↔ v.ownBlock=some b:=by
 obtain ⟨ao,n,cap,rfl⟩:=h
 cases ao <;> exact Iff.rfl
theorem ju {w:World} {e:TypeId} {s:Nat} {v:Value} {n:Nat} {xs:List Value} (h:w.ownsAt e s v n xs):∃ ao m cap,v=.slice ao m cap:=by
 rcases h.2 with ⟨rfl,_⟩ | ⟨g,o,cap,cur,rfl,_⟩ <;> exact ⟨_,_,_,rfl⟩
theorem nF {α:Type} (A u:List α) {o K:Nat} (h:o + K <= A.length):(A.take (o + K) ++ u ++ A.drop (o + K + u.length)).drop o=(A.drop o).take K ++ u ++ (A.drop o).drop (K + u.length):=by
 rw [fE,List.drop_append_of_le_length (by simp; omega),List.drop_take,List.drop_drop,show o + K - o=K by omega,fE,ft]
theorem wo {α:Type} (B u C:List α) {K m:Nat} (hB:B.length=K) (hu:u.length=m):(B ++ u ++ C).take (K + m)=B ++ u:=by
 rw [List.take_append_of_le_length (by simp; omega),f8 (by simp; omega)]
theorem ue {w:World} (t ty e:TypeId) (i:TypeInfo) (z:Value) (size bytes:Nat) (ht:Tryz.prog.underlying t=some (.slice e)) (hi:Tryz.prog.info? e=some i) (hz:i.zero=some z)
  (hsize:i.size=size) (hby:i.bytes=bytes) (hzs:z.cells.size=size) (hsz:0 < size)
  (v:Value) (n:Nat) (xs:List Value) (hown:w.ownsAt e size v n xs)
  (a:Addr) (m c:Nat) (news:List Value) (hl:news.length=m * size) (hnews:∀ j u,news[j]? = some u -> w.cell? (a.add j)=some u) (h1:∀ u ∈ news,u.oneCell'=true)
  (h63:n + m <= maxLen) (hbytes:(n + m) * bytes <= 140737488355328) :
  ∃ v' w',(Builtin.append_ #[t,t] ty #[v, .slice (some a) m c]).run Tryz.prog w=.ok v' w' /\ w'.ownsAt e size v' (n + m) (xs ++ news) /\ w.grownBy w' v.ownBlock /\ (v'.ownBlock=v.ownBlock \/ v'.ownBlock=some w.heap.size):=by
 obtain ⟨hx,h2⟩:=hown
 rcases h2 with ⟨rfl,rfl⟩ | ⟨g,o,cap,cur,rfl,hg,hnc,hcm,hcs,htake⟩
 ·have hx0:xs=[]:=tV (by simpa using hx)
  subst hx0
  obtain ⟨v',w',r1,r2,r3,_,r5⟩:=run_append_own_at w 0 t ty e i z size bytes ht hi hz hsize hby hzs hsz (.slice none 0 0) 0 [] (World.ownsRow_nil w 0 e size) a m c news hl hnews h1 h63 hbytes (cy _)
  exact ⟨v',w',r1,r2.at,r3,r5⟩
 ·subst hsize hby
  have hlen:(xs ++ news).length=(n + m) * i.size:=by rw [di,hx,hl,fk]
  have hnx:n * i.size <= cap * i.size:=dL _ hnc
  by_cases hroom:n + m <= cap
  ·have hfit:o + n * i.size + news.length <= cur.size:=by
    have:(n + m) * i.size <= cap * i.size:=dL _ hroom
    rw [fk] at this
    omega
   have hf:=run_firstCells_some (P:=Tryz.prog) w i.size m a m c news hl hnews
   have hst:=run_storeCells_at Tryz.prog g (o + n * i.size) e news 0 cur w hg (by simpa using hfit) h1
   simp only [eG] at hst
   have hr:(Builtin.append_ #[t,t] ty #[.slice (some ⟨g,o,none⟩) n cap, .slice (some a) m c]).run Tryz.prog w=.ok (.slice (some ⟨g,o,none⟩) (n + m) cap) (w.setRow g (cur.toList.take (o + n * i.size) ++ news ++ cur.toList.drop (o + n * i.size + news.length)).toArray):=by
    simp [Builtin.append_,run_underlying ht,sizeOf,typeInfo,hi,Builtin.lenOf,hroom,hf,Addr.add_lit,hst]
   refine ⟨_,_,hr,⟨hlen, .inr ⟨g,o,cap,_,rfl,setRow_heap w g cur _ e _ hg,hroom,hcm,?_,?_⟩⟩,⟨rfl,rfl,rfl,by simp,fun k _ hk=>setRow_other w g k _ (fun e=>hk (by simp [Value.ownBlock,e]))⟩, .inl rfl⟩
   ·simp only [f9,di,eU,kj,fq]
    omega
   ·show (List.drop o (_ ++ news ++ _)).take _=_
    rw [nF _ _ (by rw [fq]; omega),htake,fk,wo _ _ _ hx hl]
  ·have holds:∀ j u,xs[j]? = some u -> w.cell? ((⟨g,o,none⟩:Addr).add j)=some u:=fun j u hj=>by
    rw [Addr.add_lit]
    unfold World.cell?
    rw [hg]
    rw [<- htake,gP] at hj
    split at hj
    ·rw [iC] at hj
     simpa using hj
    ·cases hj
   have hr:=run_append_grow (P:=Tryz.prog) w t ty e i z ht hi hz ⟨g,o,none⟩ n cap xs hx holds a m c news hl hnews (by omega) (by simp only [maxLen] at h63; omega) (growslice_fits (by omega) hbytes)
   have hge:=grownCap_ge w (n + m) cap e
   have hle:=grownCap_le_maxLen w (n + m) cap e h63
   refine ⟨_,_,hr,⟨hlen, .inr ⟨w.heap.size,0,_,_,rfl,heap_alloc_new w.drew _,hge,hle,?_,?_⟩⟩,⟨rfl,rfl,rfl,by simp,fun k hk _=>(World.grownBy_alloc w.drew _ none).block k hk (by simp)⟩, .inr rfl⟩
   ·simp only [Array.size_append,f9,size_zeroCells,hzs,hx,hl,<- fk,gt]
    exact dL _ (by omega)
   ·rw [List.drop_zero]
    simp only [Array.toList_append]
    rw [fk,wo _ _ _ hx hl]
theorem oX {w:World} (t ty e:TypeId) (i:TypeInfo) (size:Nat) (ht:Tryz.prog.underlying t=some (.slice e)) (hi:Tryz.prog.info? e=some i) (v:Value) (n:Nat) (xs:List Value) (hown:w.ownsAt e size v n xs):(Builtin.append_ #[t,t] ty #[v, .slice none 0 0]).run Tryz.prog w=.ok v w:=by
 rcases hown.2 with ⟨rfl,rfl⟩ | ⟨g,o,cap,cur,rfl,_,hnc,_⟩
 ·simp [Builtin.append_,run_underlying ht,sizeOf,typeInfo,hi,Builtin.lenOf,Builtin.firstCells,loadCells,loadCellsFrom]
 ·simp [Builtin.append_,run_underlying ht,sizeOf,typeInfo,hi,Builtin.lenOf,Builtin.firstCells,loadCells,loadCellsFrom,hnc,storeCells]
theorem ud {w:World} {t ty e:Nat} {ti te:TI} (hu:Tryz.prog.underlying t=some (.slice e)) (hte:TI.ok e te) (hs:0 < te.size) {v:Value} {n:Nat} {xs:List Value} (hown:w.ownsAt e te.size v n xs)
  {vx:Value} {m:Nat} {news:List Value} (hsrc:Ca w te.size vx m news) (h63:n + m <= maxLen) (hbytes:(n + m) * te.bytes <= 140737488355328) :
  ∃ v' w',(Builtin.append_ #[t,t] ty #[v,vx]).run Tryz.prog w=.ok v' w' /\ w'.ownsAt e te.size v' (n + m) (xs ++ news) /\ w.grownBy w' v.ownBlock /\ (v'.ownBlock=v.ownBlock \/ v'.ownBlock=some w.heap.size):=by
 obtain ⟨x,z,h1,h2,h3,h4,h5⟩:=hte.parts
 obtain ⟨ao,c,rfl,hnil,hl,hcells,hone⟩:=hsrc
 have hzs:z.cells.size=te.size:=by rw [<- fq,h5,hte.zs]
 cases ao with
 | none =>
  obtain ⟨rfl,rfl⟩:=hnil rfl
  have hn:news=[]:=tV (by simpa using hl)
  subst hn
  exact ⟨v,w,oX t ty e x te.size hu h1 v n xs hown,by simpa using hown,⟨rfl,rfl,rfl,bP _,fun _ _ _=>rfl⟩, .inl rfl⟩
 | some a =>
  obtain ⟨v',w',r1,r2,r3,r5⟩:=ue (w:=w) t ty e x z te.size te.bytes hu h1 h2 h3 h4 hzs hs v n xs hown a m c news hl (fun j u hj=>by
   obtain ⟨b,o,e1,e2⟩:=hcells j u hj
   cases e1
   rw [gF]
   exact e2) hone h63 hbytes
  exact ⟨v',w',r1,r2,r3,r5⟩
section
variable {c:eT} {S S1:St} {a:Act} {w:World} {g:Gh} {hs:Nat -> Value} {co:gY} {n:Nat} {o:Oper} {ops:Array Oper} {rest L:List Oper} {N:Po}
def DE {α:Type} (c:eT) (S:St) (y:Operand) (T:Ty α) (es:List α):Prop:=∀ a w g hs,dJ c S a w g hs -> ∃ cs,Ca w T.s (a.eval y) es.length cs /\ cG T es g cs
theorem LZ {α:Type} {T:Ty α} {es:List α} {y:Operand} {m:Nat} (hT:T.solid) (hs:0 < T.s) (hy:eL S.F y=some (.sv (.one (.sl (slR T es) m)))):DE c S y T es:=fun a w g hs' h =>
 La hT hs h.base.pers (bV h hy).1.1
theorem EZ {α:Type} {T:Ty α} {l es:List α} {i p:Nat} {x y:Operand} {t e:Nat} {ti te:TI} (ht:co.ok) (ho:o.op=.call ⟨.builtin .append,#[x,y],#[t,t]⟩) (h1:co t=some ti) (h2:ti.sl=some e) (h3:co e=some te) (h4:te.size=T.s) (h5:0 < T.s)
  (hx:eL S.F x=some (.sv (.one (.own i)))) (hm:S.M[i]? = some (bf e T l)) (hsrc:DE c S y T es) (hb:(l.length + es.length) * te.bytes <= 140737488355328) (hb2:l.length + es.length <= 140737488355328):MT c S o (.sv (.one (.own p))) [i] (some (p,bf e T (l ++ es))):=fun a w g hs h N Z hN=>by
 have hu:=fY ((ht t ti h1).sl.trans h2)
 have hv:a.eval x=hs i:=(bV h hx).1
 obtain ⟨cs,r1,r2⟩:=h.items i _ hm
 obtain ⟨cs',r3,r4⟩:=hsrc a w g hs h
 rw [<- h4] at r1 r3 h5
 obtain ⟨v',w',k1,k2,k3,k4⟩:=ud (ty:=o.type) (ti:=ti) hu (ht e te h3) h5 r1 r3 (by simp only [maxLen]; omega) hb
 unfold Oper.wp
 have hrun:(execOp a.eval o).run Tryz.prog w=.ok (.value v') w':=by
  have:execOp a.eval o=(do pure (.value (<- Builtin.append_ #[t,t] o.type #[a.eval x,a.eval y])):Sem Next):=by
   unfold execOp
   rw [ho]
   simp [resolve,invoke,builtin]
  rw [this,hv]
  exact gA k1
 rw [hrun]
 have hsl:=ju r1
 have hsl':=ju k2
 have hbi:∀ b,(hs i).ownBlock=some b -> g b=none:=fun b hb=>((h.mine i _ hm (by simp) b (by rw [jo hsl]; exact hb)).2 rfl).2
 refine hN v' w' g v' ⟨k3.os,k3.tape,k3.output,k3.size,fun b hb hk=>k3.block b hb (fun e=>hk i (by simp) (by rw [jo hsl]; exact e.symm)),Gh.le.refl g,fun b o e=>.inl e,fun b o e=>?_⟩ ⟨?_,?_⟩ ⟨⟨cs ++ cs',?_,r2.append r4⟩,fun b hb=>?_⟩
 ·refine (k3.block b (h.base.pers.lt e) (fun e2=>?_)).trans (h.base.pers b o e)
  rw [hbi b e2.symm] at e
  cases e
 ·show v'=(if p=p then v' else hs p)
  rw [if_pos rfl]
 ·obtain ⟨ao,m,cap,rfl⟩:=hsl'
  trivial
 ·rw [di,<- h4]
  exact k2
 ·rw [jo hsl'] at hb
  rcases k4 with e | e
  ·rw [hb] at e
   obtain ⟨m1,m2⟩:=h.mine i _ hm (by simp) b (by rw [jo hsl]; exact e.symm)
   exact ⟨gv m1 k3.size,fun _=>(m2 rfl).2, .inr ⟨i,by simp,by rw [jo hsl]; exact e.symm⟩⟩
  ·rw [hb] at e
   cases e
   have:=k2.lt w.heap.size hb
   refine ⟨this.2,fun _=>?_, .inl (bP _)⟩
   cases hgb:g w.heap.size with
   | none=>rfl
   | some o=>have:=h.base.pers.lt hgb; omega
theorem Eff.refl (h:j7 c w g):Eff hs [] w g w g:=⟨rfl,rfl,rfl,bP _,fun _ _ _=>rfl,Gh.le.refl g,fun _ _ e=>.inl e,h.pers⟩
theorem LX {α:Type} (t p e:Nat) (T:Ty α) (hl:look t S.F=some (.sv (.one (.v (.slice none 0 0))))) (hr:S.refsAll (fun i=>!(Nat.beq i p))=true)
  (h:WL c ops L ⟨(t, .sv (.one (.own p))) :: S.F,my S.M [] (some (p,bf e T []))⟩ N):WL c ops L S N:=fun a w ⟨g,hs,hk⟩=>by
 have hv:=(hk.slots t _ (dZ hl)).1
 have he:=hk.eff (K:=[]) (p:=some (p,bf e T [])) (h':=.slice none 0 0) (Eff.refl hk.base) ⟨⟨[],World.ownsAt_nil _ _ _,cG.nil⟩,fun b hb=>by cases hb⟩ hr rfl
 refine h a w ⟨g,_,he.size,he.defers,he.base,fun t' y hy=>?_,he.items,he.sep,he.mine⟩
 rcases eh.1 hy with hy | hy
 ·cases hy
  refine ⟨?_,by rw [hv]; trivial⟩
  show _=(if p=p then _ else hs p)
  rw [if_pos rfl]
  exact hv
 ·exact he.slots t' y hy
theorem ic {α:Type} {T:Ty α} {l:List α} {i:Nat} {k:Int} {y:α} {t el:Nat} {ti te:TI} {x ix:Operand} {ik:IntKind} (ht:co.ok) (ho:o.op=.indexAddr t x ix) (h1:co t=some ti) (h2:ti.sl=some el) (h3:co el=some te) (h4:te.size=T.s) (h5:0 < T.s)
  (hx:eL S.F x=some (.sv (.one (.own i)))) (hm:S.M[i]? = some (bf el T l)) (hi:evK S.F ix=some (.int ik k)) (hy:cq l k=some y):Val c S o (.sv (.one (.oe i k.toNat T.s))):=fun a w g hs h=>by
 obtain ⟨g5,g6,g7⟩:=bs hy
 have hu:=fY ((ht t ti h1).sl.trans h2)
 have hv:a.eval x=hs i:=(bV h hx).1
 obtain ⟨cs,⟨hl0,r1⟩,r2⟩:=h.items i _ hm
 rcases r1 with ⟨e1,e2⟩ | ⟨gb,of,cap,cur,e1,_⟩
 ·omega
 ·refine ⟨.pointer (some ⟨gb,of + k.toNat * T.s,none⟩),?_,⟨gb,of,l.length,cap,e1,rfl⟩,trivial⟩
  have:(execOp a.eval o)=(do pure (.value (<- Instr.indexAt t (a.eval x) (a.eval ix))):Sem Next):=by unfold execOp; rw [ho]
  rw [this]
  refine cX ?_
  have hlt:0 <= k /\ k < (l.length:Int):=⟨g5,g6⟩
  simp only [Instr.indexAt,eQ h hi,asIntOf,hv,e1,bW,db,ce,run_underlying hu,if_pos hlt,(ht el te h3).run_size,h4,gF]
theorem pA {α:Type} {T:Ty α} {l:List α} {cs:List Value} (h:cG T l g cs) {k:Nat} {y:α} (hy:l[k]? = some y):∃ u:Value,(T.sv y).ok g gS u /\ u.cells.size=T.s /\ ∀ j c,u.cells[j]? = some c -> cs[k * T.s + j]? = some c:=by
 obtain ⟨us,rfl,h2,h3⟩:=h
 have hlt:=(cg.1 hy).1
 have hu:us[k]? = some (us[k]'(by omega)):=by simp
 obtain ⟨x1,x2⟩:=h3 k _ y hu hy
 exact ⟨_,x1,x2,fun j c hj=>yI (js h2 h3) hu hj⟩
theorem vZ {α:Type} {T:Ty α} {l:List α} {i k t el:Nat} {y:α} {ti:TI} {x:Operand} (ht:co.ok) (ho:o.op=.load t x) (h1:co t=some ti) (h2:ti.size=T.s) (h3:jK ti (T.sv y)=true)
  (hx:eL S.F x=some (.sv (.one (.oe i k T.s)))) (hm:S.M[i]? = some (bf el T l)) (hy:l[k]? = some y) (hc:(T.sv y).refs=[]):Val c S o (.sv (T.sv y)):=fun a w g hs h=>by
 obtain ⟨⟨b,of,nn,cap,e1,e2⟩,_⟩:=bV h hx
 obtain ⟨cs,⟨hl0,r1⟩,r2⟩:=h.items i _ hm
 have htk:=ht t ti h1
 obtain ⟨u,u1,u2,u3⟩:=pA r2 hy
 have:(execOp a.eval o)=(do pure (.value (<- Instr.loadAt t (a.eval x))):Sem Next):=by unfold execOp; rw [ho]
 rw [this]
 have u1':(T.sv y).ok g hs u:=SV.ok_hs (fun i hi=>by rw [hc] at hi; cases hi) u1
 refine ⟨u,cX ?_,u1'⟩
 have hcell:∀ j v,u.cells.toList[j]? = some v -> w.cell? ((⟨b,of + k * T.s,none⟩:Addr).add j)=some v:=fun j v hj=>by
  rw [gF]
  have hj':=u3 j v (by simpa using hj)
  rcases r1 with ⟨e3,_⟩ | ⟨gb,of',cap',cur,e3,e4,_,_,_,e5⟩
  ·rw [e1] at e3; cases e3
  ·rw [e1] at e3
   simp at e3
   obtain ⟨⟨rfl,rfl⟩,rfl,rfl⟩:=e3
   unfold World.cell?
   rw [e4]
   rw [<- e5,gP] at hj'
   split at hj'
   ·rw [iC] at hj'
    simpa [ft] using hj'
   ·cases hj'
 simp only [Instr.loadAt,e2,Instr.sureAddr,loadVar,bW,db,ce,htk.run_isAgg]
 cases hsv:T.sv y with
 | agg l' =>
  rw [hsv] at h3 u1
  simp only [jK] at h3
  rw [h3]
  obtain ⟨cs',rfl,_⟩:=u1
  have hl:=run_loadCells_list (P:=Tryz.prog) w ⟨b,of + k * T.s,none⟩ cs' (by simpa [Value.cells] using hcell)
  have e5:cs'.length=ti.size:=by rw [h2,<- u2]; simp [Value.cells]
  rw [e5] at hl
  simp [htk.run_size,hl]
 | one x =>
  rw [hsv] at h3 u1
  have h3':ti.agg=false /\ dR u:=by
   have h6:=u1.2
   cases x <;> first | exact ⟨by simpa [jK] using h3,h6⟩ | (simp [jK] at h3)
  have hcv:u.cells = #[u]:=dR.cells h3'.2
  rw [h3'.1]
  have:=hcell 0 u (by rw [hcv]; rfl)
  rw [gF,eG] at this
  simp [load,Sem.run,this]
theorem cG.set {α:Type} {T:Ty α} {l:List α} {cs:List Value} (h:cG T l g cs) {k:Nat} (hk:k < l.length) {y:α} {u:Value} (hu:(T.sv y).ok g gS u) (hs:u.cells.size=T.s) :
  cG T (l.set k y) g (cs.take (k * T.s) ++ u.cells.toList ++ cs.drop (k * T.s + u.cells.toList.length)):=by
 obtain ⟨us,rfl,h2,h3⟩:=h
 have hsz:=js h2 h3
 have key:∀ (us:List Value) (k:Nat),(∀ u ∈ us,u.cells.size=T.s) -> k < us.length -> (us.set k u).flatMap (·.cells.toList)=(us.flatMap (·.cells.toList)).take (k * T.s) ++ u.cells.toList ++ (us.flatMap (·.cells.toList)).drop (k * T.s + u.cells.toList.length):=by
  intro us
  induction us with
  | nil=>intro k _ h; simp at h
  | cons x us ih =>
   intro k hz hk
   have hx:x.cells.toList.length=T.s:=by simpa using hz x (by simp)
   have hul:u.cells.toList.length=T.s:=by simpa using hs
   cases k with
   | zero =>
    simp only [List.set_cons_zero,jP,Nat.zero_mul,List.take_zero,List.nil_append,gt]
    rw [hul,<- hx,List.drop_left]
   | succ k =>
    have:=ih k (fun y hy=>hz y (by simp [hy])) (by simpa using hk)
    simp only [List.set_cons_succ,jP]
    rw [this]
    have e1:(k + 1) * T.s=x.cells.toList.length + k * T.s:=by rw [hx,mS,mU]
    rw [e1,List.take_length_add_append,ft,List.drop_length_add_append]
    simp
 refine ⟨us.set k u,(key us k hsz (by omega)).symm,by simp [h2],fun q x a hx ha=>?_⟩
 rw [dT] at hx ha
 by_cases e:k=q
 ·rw [if_pos e] at hx ha
  rw [if_pos (by omega)] at hx
  rw [if_pos (by omega)] at ha
  simp at hx ha
  subst hx ha
  exact ⟨hu,hs⟩
 ·rw [if_neg e] at hx ha
  exact h3 q x a hx ha
theorem pz {α:Type} (A u:List α) (K m L:Nat) (hu:u.length=m) (h1:K + m <= L) (h2:L <= A.length):(A.take K ++ u ++ A.drop (K + m)).take L=(A.take L).take K ++ u ++ (A.take L).drop (K + m):=by
 have hl:(A.take K ++ u).length=K + m:=by simp [hu]; omega
 rw [List.take_append,hl,f8 (by rw [hl]; exact h1),List.take_take,List.drop_take]
 congr 3
 omega
theorem FJ {α:Type} {T:Ty α} {l:List α} {i k t el:Nat} {y:α} {ti:TI} {x v:Operand} {S1:St} (ht:co.ok) (hn:c.n=n) (hw:dX ops S.F o=some true) (ho:o.op=.store t x v) (h1:co t=some ti) (h2:ti.size=T.s) (hT:T.solid)
  (hx:eL S.F x=some (.sv (.one (.oe i k T.s)))) (hm:S.M[i]? = some (bf el T l)) (hk:k < l.length) (hv:eL S.F v=some (.sv (T.sv y))) (hz:(cF (T.sv y)).length=T.s) (hc:(T.sv y).refs=[])
  (e:iA n o.dst (.tup []) ⟨S.F,S.M.set i (bf el T (l.set k y))⟩=some S1) (h:WL c ops rest S1 N):WL c ops (o :: rest) S N:=fun a w ⟨g,hs,hh⟩=>by
 unfold wpList
 rw [if_pos (dU hh hw)]
 refine .inl ?_
 unfold Oper.wp
 obtain ⟨⟨b,of,nn,cap,e1,e2⟩,_⟩:=bV hh hx
 obtain ⟨cs,⟨hl0,r1⟩,r2⟩:=hh.items i _ hm
 have htk:=ht t ti h1
 have hval:(T.sv y).ok g hs (a.eval v):=bV hh hv
 have hval0:(T.sv y).ok g gS (a.eval v):=SV.ok_hs (fun i hi=>by rw [hc] at hi; cases hi) hval
 have hcells:=jw (hT y) hval0
 have hlen:(a.eval v).cells.toList.length=T.s:=by rw [<- dF hcells]; exact hz
 rcases r1 with ⟨e3,e4⟩ | ⟨gb,of',cap',cur,e3,e4,e5,e6,e7,e8⟩
 ·omega
 ·rw [e1] at e3
  simp at e3
  obtain ⟨⟨rfl,rfl⟩,rfl,rfl⟩:=e3
  have hkl:k * T.s + T.s <= l.length * T.s:=by rw [<- mS]; exact dL _ hk
  have hlc:of + l.length * T.s <= cur.size:=dp (kY (dL _ e5) _) e7
  have hst:=run_storeCells_at (P:=Tryz.prog) b (of + k * T.s) el (a.eval v).cells.toList 0 cur w e4 (by rw [hlen,eG,ft]; exact dp (kY hkl _) hlc) (fun u hu=>(kd hcells u hu).one)
  simp only [eG] at hst
  have hup:=hh.upd (w':=w.setRow b (cur.toList.take (of + k * T.s) ++ (a.eval v).cells.toList ++ cur.toList.drop (of + k * T.s + (a.eval v).cells.toList.length)).toArray) (it':=bf el T (l.set k y)) hm rfl rfl ?_ ?_
  ·have hrun:(execOp a.eval o).run Tryz.prog w=.ok .skip (w.setRow b (cur.toList.take (of + k * T.s) ++ (a.eval v).cells.toList ++ cur.toList.drop (of + k * T.s + (a.eval v).cells.toList.length)).toArray):=by
    have:execOp a.eval o=(do Instr.storeAt t (a.eval x) (a.eval v); pure .skip:Sem Next):=by unfold execOp; rw [ho]
    rw [this]
    simp only [Instr.storeAt,e2,Instr.sureAddr,storeVar,bW,db,ce,htk.run_size]
    rw [if_neg (by rw [h2]; simp at hlen; simp [hlen])]
    simp only [hst,ce,db]
   rw [hrun]
   exact h _ _ ⟨g,hs,fR hup hn lA e⟩
  ·rw [e1]
   exact ⟨rfl,rfl,rfl,by simp,fun q hq hne=>setRow_other w b q _ (fun e=>hne (by rw [e]; rfl))⟩
  ·have hset:=r2.set hk hval0 (by rw [<- hlen]; simp)
   refine ⟨_,⟨hset.length.trans (by simp), .inr ⟨b,of,cap,_,by rw [e1]; simp,setRow_heap w b _ _ _ _ e4,by simpa using e5,e6,?_,?_⟩⟩,hset⟩
   ·simp only [f9,di,eU,kj,fq] at hlen ⊢
    omega
   ·simp only [cK]
    show (List.drop of (_ ++ (a.eval v).cells.toList ++ _)).take _=_
    rw [nF _ _ (by rw [fq]; exact dp (kY (dp (Nat.le_add_right _ _) hkl) _) hlc),<- e8,hlen]
    exact pz (cur.toList.drop of) (a.eval v).cells.toList (k * T.s) T.s (l.length * T.s) hlen hkl (by rw [kj,fq]; exact Nat.le_sub_of_add_le (by rw [mU]; exact hlc))
end
end
end Go.Proofs.YtmdbjpljlniloaaGreat
