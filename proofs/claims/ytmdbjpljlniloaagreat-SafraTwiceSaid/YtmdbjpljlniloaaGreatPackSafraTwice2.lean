/- Lemmas towards the statement: mirrors of functions, and plain laws. No condition. -/
import Derived.Laws.MakeOwn
import Derived.Test.YtmdbjpljlniloaaGreatRows
import Derived.ProofKit
import Derived.OpenShut
import Derived.ShutString
import Derived.ChangeOld
import Derived.Lib.SmallJoins
import Derived.JoinedCond
import Derived.Lib.AppendZeros
import Derived.Laws.BytesString
import Derived.Shelf.Abstract
import Derived.Laws.BitsLemmas
import Derived.Test.YtmdbjpljlniloaaGreatPackSafraTwice1
set_option linter.unusedSectionVars false
set_option linter.unusedSimpArgs false
set_option linter.unusedVariables false
namespace Go.Proofs.YtmdbjpljlniloaaGreat
open Go.RowKit Go.MapKept
set_option maxRecDepth 100000
noncomputable section
def At.sub (a:At) (i:Nat) (b:At):At:=match a with
 | .own j=>match Nat.beq j i with
  | true=>b
  | false=>.own j
 | a=>a
def SV.sub (s:SV) (i:Nat) (b:At):SV:=match s with
 | .one a=>.one (a.sub i b)
 | .agg l=>.agg (l.map (·.sub i b))
def SC.sub (x:SC) (i:Nat) (b:At):SC:=match x with
 | .sv s=>.sv (s.sub i b)
 | .tup l=>.tup (l.map (·.sub i b))
def br.sub (it:br) (i:Nat) (b:At):br:=match it with
 | .box cells ty fz=>.box (cells.map (·.sub i b)) ty fz
 | it=>it
section
variable {g:Gh} {hs:Nat -> Value} {i:Nat} {b:At}
theorem At.sub_ok (hb:b.ok g hs (hs i)) {a:At} {u:Value} (h:a.ok g hs u):(a.sub i b).ok g hs u:=by
 cases a with
 | own j =>
  show At.ok g hs (match Nat.beq j i with | true=>b | false=>.own j) u
  cases hj:Nat.beq j i with
  | true =>
   have:=dS hj
   subst this
   have:u=hs j:=h.1
   subst this
   exact hb
  | false=>exact h
 | _=>exact h
theorem yo (hb:b.ok g hs (hs i)):∀ {l:List At} {us:List Value},oks g hs l us -> oks g hs (l.map (·.sub i b)) us
 | [],[],_=>trivial
 | [],_ :: _,h=>h.elim
 | _ :: _,[],h=>h.elim
 | _ :: _,_ :: _,h=>⟨At.sub_ok hb h.1,h.2.1,yo hb h.2.2⟩
theorem SV.sub_ok (hb:b.ok g hs (hs i)) {a:SV} {u:Value} (h:a.ok g hs u):(a.sub i b).ok g hs u:=by
 cases a with
 | one a=>exact At.sub_ok hb h
 | agg l =>
  obtain ⟨cs,h1,h2⟩:=h
  exact ⟨cs,h1,yo hb h2⟩
theorem Cy (hb:b.ok g hs (hs i)):∀ {l:List SV} {us:List Value},fy g hs l us -> fy g hs (l.map (·.sub i b)) us
 | [],[],_=>trivial
 | [],_ :: _,h=>h.elim
 | _ :: _,[],h=>h.elim
 | _ :: _,_ :: _,h=>⟨SV.sub_ok hb h.1,Cy hb h.2⟩
theorem SC.sub_ok (hb:b.ok g hs (hs i)) {a:SC} {u:Value} (h:a.ok g hs u):(a.sub i b).ok g hs u:=by
 cases a with
 | sv s=>exact SV.sub_ok hb h
 | tup l =>
  obtain ⟨cs,h1,h2⟩:=h
  exact ⟨cs,h1,Cy hb h2⟩
end
theorem Hg {α:Type} {T:Ty α} {g:Gh} {hs:Nat -> Value}:(LS T ([]:List α)).ok g hs (.slice none 0 0):=⟨⟨⟨none,0,0,rfl,rfl,bP _,by simp [maxLen],fun _=>rfl,fun q a h=>by simp at h⟩,none,0,rfl⟩,trivial⟩
section
variable {c:eT} {S S1:St} {a:Act} {w:World} {g:Gh} {hs:Nat -> Value} {co:gY} {n:Nat} {o:Oper} {ops:Array Oper} {rest L:List Oper} {N:Po}
theorem xY {α:Type} {T:Ty α} {l:List α} {e:Nat} {v:Value} {cs:List Value} {g':Gh} (h1:w.ownsAt e T.s v l.length cs) (h2:cG T l g cs) (hle:Gh.le g g') (hb:∀ b,v.ownBlock=some b -> g' b=w.heap[b]?):(LS T l).ok g' hs v:=by
 obtain ⟨h0,h1⟩:=h1
 rcases h1 with ⟨rfl,hn⟩ | ⟨gb,of,cap,cur,rfl,e4,e5,e6,e7,e8⟩
 ·have:l=[]:=tV hn
  subst this
  exact Hg
 ·refine ⟨⟨⟨some ⟨gb,of,none⟩,l.length,cap,rfl,rfl,e5,e6,(fun e=>by cases e),fun q a ha=>?_⟩,_,_,rfl⟩,trivial⟩
  obtain ⟨u,u1,u2,u3⟩:=pA h2 ha
  refine ⟨gb,of,u,rfl,SV.mono hle u1,u2,fun j c hj=>?_⟩
  have:=u3 j c hj
  unfold Gh.cell
  rw [hb gb rfl,e4]
  rw [<- e8,gP] at this
  split at this
  ·rw [iC] at this
   simpa [ft] using this
  ·cases this
def ws (S:St) (i:Nat) (b:At):St:=⟨S.F.map fun e=>(e.1,e.2.sub i b),(S.M.set i .gone).map (·.sub i b)⟩
theorem dJ.seal {α:Type} {T:Ty α} {l:List α} {e i:Nat} (h:dJ c S a w g hs) (hm:S.M[i]? = some (bf e T l)):∃ g',dJ c (ws S i (LS T l)) a w g' hs:=by
 classical
 obtain ⟨cs,r1,r2⟩:=h.items i _ hm
 have hmine:=h.mine i _ hm (by simp)
 have hbk:∀ b,fW (hs i) b ↔ (hs i).ownBlock=some b:=fun b=>jo (ju r1)
 let g':Gh:=fun x=>if (hs i).ownBlock=some x then w.heap[x]? else g x
 have hle:Gh.le g g':=fun x o e=>by
  show (if (hs i).ownBlock=some x then _ else g x)=some o
  by_cases hx:(hs i).ownBlock=some x
  ·have:=(hmine x (by rw [hbk]; exact hx)).2 rfl
   rw [this.2] at e
   cases e
  ·rw [if_neg hx]; exact e
 have hb:(LS T l).ok g' hs (hs i):=xY r1 r2 hle (fun b hb=>if_pos hb)
 have hset:∀ (j:Nat) (jt:br),((S.M.set i .gone).map (·.sub i (LS T l)))[j]? = some jt -> jt ≠ .gone -> ∃ kt,j ≠ i /\ S.M[j]? = some kt /\ jt=kt.sub i (LS T l) /\ kt ≠ .gone /\ jt.fz=kt.fz:=fun j jt hj hn=>by
  rw [cY,dT] at hj
  by_cases e:i=j
  ·rw [if_pos e] at hj
   split at hj
   ·simp [br.sub] at hj
    exact absurd hj.symm hn
   ·cases hj
  ·rw [if_neg e] at hj
   cases hk:S.M[j]? with
   | none=>rw [hk] at hj; cases hj
   | some kt =>
    rw [hk] at hj
    simp at hj
    refine ⟨kt,Ne.symm e,rfl,hj.symm,fun e=>?_,?_⟩
    ·subst e; exact hn hj.symm
    ·rw [<- hj]; cases kt <;> rfl
 refine ⟨g',h.size,h.defers,⟨h.base.os,h.base.tape,h.base.output,h.base.grows,h.base.frame,h.base.ghle.trans hle,fun x o e=>?_,fun x o e=>?_⟩,fun t x hx=>?_,fun j jt hj=>?_,fun j k jt kt hjk hj hk hfj hnk x hx=>?_,fun j jt hj hnj x hx=>?_⟩
 ·by_cases hx:(hs i).ownBlock=some x
  ·exact .inr ((hmine x (by rw [hbk]; exact hx)).2 rfl).1
  ·rw [show g' x=g x from if_neg hx] at e
   exact h.base.ghnew x o e
 ·by_cases hx:(hs i).ownBlock=some x
  ·rw [show g' x=w.heap[x]? from if_pos hx] at e
   exact e
  ·rw [show g' x=g x from if_neg hx] at e
   exact h.base.pers x o e
 ·obtain ⟨y,hy,e⟩:=cP.1 hx
  cases e
  exact SC.sub_ok hb (SC.mono hle (h.slots _ _ hy))
 ·by_cases hn:jt=.gone
  ·subst hn; trivial
  ·obtain ⟨kt,h1,h2,rfl,h3,_⟩:=hset j jt hj hn
   have h4:=br.mono hle (h.items j kt h2)
   cases kt with
   | box cells ty fz =>
    obtain ⟨b,us,k1,k2,k3,k4⟩:=h4
    exact ⟨b,us,k1,yo hb k2,k3,k4⟩
   | _=>exact h4
 ·obtain ⟨jt',h1,h2,rfl,h3,h4⟩:=hset j jt hj (dy hfj)
  obtain ⟨kt',k1,k2,rfl,k3,k4⟩:=hset k kt hk hnk
  exact h.sep j k jt' kt' hjk h2 k2 (by rw [<- h4]; exact hfj) k3 x hx
 ·obtain ⟨jt',h1,h2,rfl,h3,h4⟩:=hset j jt hj hnj
  obtain ⟨m1,m2⟩:=h.mine j jt' h2 h3 x hx
  refine ⟨m1,fun hf=>?_⟩
  rw [h4] at hf
  refine ⟨(m2 hf).1,?_⟩
  have hx':(hs i).ownBlock ≠ some x:=fun e=>h.sep j i jt' _ h1 h2 hm hf (by simp) x hx (by rw [hbk]; exact e)
  rw [show g' x=g x from if_neg hx']
  exact (m2 hf).2
theorem dE {α:Type} {T:Ty α} {l:List α} {e:Nat} (i:Nat) (hm:S.M[i]? = some (bf e T l)) (h:WL c ops L (ws S i (LS T l)) N):WL c ops L S N:=fun a w ⟨g,hs,hk⟩=>by
 obtain ⟨g',hk'⟩:=hk.seal hm
 exact h a w ⟨g',hs,hk'⟩
theorem iZ {α:Type} {T:Ty α} {l:List α} {e:Nat} (i:Nat) (hm:S.M[i]? = some (bf e T l)) (h:En c (ws S i (LS T l)) N):En c S N:=fun a w ⟨g,hs,hk⟩=>by
 obtain ⟨g',hk'⟩:=hk.seal hm
 exact h a w ⟨g',hs,hk'⟩
theorem Hf {α:Type} {T:Ty α} {z0:α} {z:Value} {k N:Nat} (hz:(T.sv z0).ok g gS z) (hs:z.cells.size=T.s) (h0:0 < T.s) (hk:k <= N):cG T (List.replicate k z0) g ((madeCells z.cells (N * T.s)).toList.take (k * T.s)):=by
 refine ⟨List.replicate k z,?_,by simp,fun q u a hu ha=>?_⟩
 ·have hsz:∀ u ∈ List.replicate k z,u.cells.size=T.s:=fun u hu=>by rw [List.eq_of_mem_replicate hu]; exact hs
  apply mX
  intro j
  by_cases hj:j < k * T.s
  ·have hq:j / T.s < k:=by rw [Nat.div_lt_iff_lt_mul h0]; exact hj
   have hm:j % T.s < T.s:=km _ h0
   have h1:=yI (q:=j / T.s) (j:=j % T.s) (u:=z) (c:=z.cells[j % T.s]'(by omega)) hsz (by simp [hq]) (by simp [hs,hm])
   rw [show j / T.s * T.s + j % T.s=j from by rw [Nat.mul_comm]; exact mR j T.s] at h1
   rw [h1,gP,if_pos hj]
   have hjN:j < N * T.s:=gv hj (dL _ hk)
   have hmz:j % z.cells.size < z.cells.size:=by rw [hs]; exact hm
   simp [madeCells,hjN]
   have e:j % z.cells.size=j % T.s:=by rw [hs]
   rw [getElem!_pos z.cells (j % z.cells.size) hmz]
   simp only [e]
  ·rw [gP,if_neg hj,ko]
   rw [pU hsz]
   simp
   omega
 ·rw [mh] at hu ha
  split at hu
  ·rename_i h
   rw [if_pos h] at ha
   simp at hu ha
   subst hu ha
   exact ⟨hz,hs⟩
  ·cases hu
theorem kN {α:Type} {T:Ty α} (z0:α) {zv:Value} (p:Nat) {t e:Nat} {ti te:TI} {x y:Operand} {k1 k2:IntKind} {l cp:Int} (ht:co.ok) (ho:o.op=.makeSlice t x y) (h1:co t=some ti) (h2:ti.sl=some e) (h3:co e=some te) (h4:te.size=T.s) (h5:0 < T.s)
  (hx:evK S.F x=some (.int k1 l)) (hy:evK S.F y=some (.int k2 cp)) (hl0:0 <= l) (hlc:l <= cp) (hb:cp * te.bytes <= 140737488355328) (hb2:cp <= 140737488355328) (hzc:zv.cells.toList=te.zero) (hz:∀ g,(T.sv z0).ok g gS zv) :
  MT c S o (.sv (.one (.own p))) [] (some (p,bf e T (List.replicate l.toNat z0))):=fun a w g hs h N Z hN=>by
 have hu:=fY ((ht t ti h1).sl.trans h2)
 have hte:=ht e te h3
 obtain ⟨x',z,i1,i2,i3,i4,i5⟩:=hte.parts
 have hzz:z.cells=zv.cells:=by apply oO.1; rw [i5,hzc]
 have hzs:zv.cells.size=T.s:=by rw [<- fq,hzc,hte.zs,h4]
 have hrun:=run_make (P:=Tryz.prog) (w:=w) t e x' z hu i1 i2 k1 k2 l cp hl0 hlc (by rw [i4,Int.mul_comm]; omega) (by omega)
 unfold Oper.wp
 have hr:(execOp a.eval o).run Tryz.prog w=.ok (.value (.slice (some ⟨w.heap.size,0,none⟩) l.toNat cp.toNat)) (w.alloc (.cells (madeCells z.cells (cp.toNat * x'.size)) e)):=by
  have:execOp a.eval o=(do pure (.value (<- Instr.makeSlice t (a.eval x) (a.eval y))):Sem Next):=by unfold execOp; rw [ho]
  rw [this,eQ h hx,eQ h hy]
  exact gA hrun
 rw [hr]
 have hlc':l.toNat <= cp.toNat:=by omega
 have hsz:x'.size=T.s:=by rw [i3,h4]
 refine hN _ _ g (.slice (some ⟨w.heap.size,0,none⟩) l.toNat cp.toNat) ⟨rfl,rfl,rfl,by simp,fun b hb _=>(World.grownBy_alloc w _ none).block b hb (by simp),Gh.le.refl g,fun b o e=>.inl e,fun b o e=>?_⟩ ⟨?_,trivial⟩ ⟨⟨(madeCells zv.cells (cp.toNat * T.s)).toList.take (l.toNat * T.s),?_,Hf (hz g) hzs h5 hlc'⟩,fun b hb=>?_⟩
 ·exact ((World.grownBy_alloc w _ none).block b (h.base.pers.lt e) (by simp)).trans (h.base.pers b o e)
 ·show _=(if p=p then _ else hs p)
  rw [if_pos rfl]
 ·rw [jb]
  refine World.ownsRow.at (base:=0) ⟨?_, .inr ⟨w.heap.size,cp.toNat,madeCells zv.cells (cp.toNat * T.s),rfl,cy _,?_,hlc',by simp only [maxLen]; omega,by rw [size_madeCells],rfl⟩⟩
  ·rw [eU,fq,size_madeCells]
   exact mQ (dL _ hlc')
  ·rw [hzz,hsz]
   exact heap_alloc_new w _
 ·cases hb
  refine ⟨by simp,fun _=>?_, .inl (bP _)⟩
  cases hgb:g w.heap.size with
  | none=>rfl
  | some o=>have:=h.base.pers.lt hgb; omega
theorem k8.take {α:Type} {T:Ty α} {l:List α} {ao:Option Addr} {n' cap:Nat} (h:k8 T l g (.slice ao n' cap)) {lo hi:Nat} (h1:lo <= hi) (h2:hi <= l.length) :
  k8 T ((l.take hi).drop lo) g (.slice (if cap=lo then ao else ao.map (·.add (lo * T.s))) (hi - lo) (cap - lo)):=by
 obtain ⟨ao',n'',cap',e1,e2,e3,e4,e5,e6⟩:=h
 cases e1
 subst e2
 refine ⟨_,_,_,rfl,by simp; omega,by omega,by omega,fun e=>?_,fun q a hq=>?_⟩
 ·split at e
  ·omega
  ·cases ao with
   | none=>have:=e5 rfl; omega
   | some x=>cases e
 ·rw [iC,gP] at hq
  split at hq
  case isFalse=>cases hq
  obtain ⟨b,o,u,rfl,k2,k3,k4⟩:=e6 _ a hq
  refine ⟨b,o + lo * T.s,u,?_,k2,k3,fun j c hj=>?_⟩
  ·rw [if_neg (by omega)]
   simp [Addr.add_lit]
  ·have:=k4 j c hj
   rw [fk] at this
   rw [<- this]
   congr 2
   omega
theorem vY {α:Type} {T:Ty α} {l:List α} {t el m:Nat} {ti te:TI} {x:Operand} {lo hi:Option Operand} {lv hv:Int} (ht:co.ok) (ho:o.op=.slice t x lo hi none) (h1:co t=some ti) (h2:ti.sl=some el) (h3:co el=some te) (h4:te.size=T.s)
  (hx:eL S.F x=some (.sv (.one (.sl (slR T l) m)))) (hlo:(match lo with | some q=>evK S.F q=some (.int .i64 lv) | none=>lv=0)) (hhi:(match hi with | some q=>evK S.F q=some (.int .i64 hv) | none=>hv=l.length)) (h5:0 <= lv /\ lv <= hv /\ hv <= l.length) :
  Val c S o (.sv (.one (LS T ((l.take hv.toNat).drop lv.toNat)))):=fun a w g hs h=>by
 obtain ⟨h6,h7,h8⟩:=h5
 have hu:=fY ((ht t ti h1).sl.trans h2)
 obtain ⟨⟨hr,ao,cap,e1⟩,_⟩:=bV h hx
 have hr':k8 T l g (a.eval x):=hr
 rw [e1] at hr'
 have hr2:=hr'
 obtain ⟨ao',n'',cap',k1,k2,k3,k4,k5,k6⟩:=hr2
 cases k1
 subst k2
 have htk:=hr'.take (lo:=lv.toNat) (hi:=hv.toNat) (by omega) (by omega)
 refine ⟨_,?_,⟨htk,_,_,by simp only [kj,eU]; congr 1; omega⟩,trivial⟩
 have:execOp a.eval o=(do pure (.value (<- Instr.sliceAt t (a.eval x) (lo.map a.eval) (hi.map a.eval) none)):Sem Next):=by unfold execOp; rw [ho]; rfl
 rw [this]
 refine cX ?_
 have hb:(Instr.sliceBounds true l.length cap (lo.map a.eval) (hi.map a.eval) none).run Tryz.prog w=.ok (lv.toNat,hv.toNat,cap) w:=by
  unfold Instr.sliceBounds
  cases lo with
  | none =>
   cases hi with
   | none =>
    simp only at hlo hhi
    subst hlo hhi
    simp
   | some q =>
    simp only at hlo hhi
    subst hlo
    simp only [Option.map_none,eO,bW,db,ce,Instr.sliceBound,eQ h hhi,asIntOf]
    rw [if_pos (by omega)]
    simp
  | some q' =>
   cases hi with
   | none =>
    simp only at hlo hhi
    subst hhi
    simp only [Option.map_none,eO,bW,db,ce,Instr.sliceBound,eQ h hlo,asIntOf]
    rw [if_pos (by omega)]
    simp
   | some q =>
    simp only at hlo hhi
    simp only [eO,bW,db,ce,Instr.sliceBound,eQ h hhi,eQ h hlo,asIntOf]
    rw [if_pos (by omega)]
    simp only [bW,db,ce]
    rw [if_pos (by omega)]
    simp
 simp only [Instr.sliceAt,Instr.slice,bW,run_underlying hu,ce,e1,hb,(ht el te h3).run_size,db,h4]
theorem dg {x:SC} {K:List Nat} {p:Option (Nat × br)} (hn:c.n=n) (hw:dX ops S.F o=some true) (hm:MT c S o x K p) (hr:oY S p=true) (hu:fF S K=true) (e:iA n o.dst x ⟨S.F,my S.M K p⟩=some S1) (h:WL c ops rest S1 N):WL c ops (o :: rest) S N:=fun a w ⟨g,hs,hk⟩=>by
 unfold wpList
 rw [if_pos (dU hk hw)]
 refine .inl (hm a w g hs hk _ N fun v w' g' h' h1 h3 h4=>?_)
 exact h _ _ ⟨g',_,fR (hk.eff h1 h4 hr hu) hn h3 e⟩
def ed (n m b:Nat):Prop:=(n + m) * b <= 140737488355328
theorem ed.le {n m b:Nat} (h:ed n m b) (hb:0 < b):n + m <= 140737488355328:=dp (Nat.le_mul_of_pos_right _ hb) h
def jM (l c:Int) (b:Nat):Prop:=0 <= l /\ l <= c /\ c * b <= 140737488355328
theorem jM.le {l c:Int} {b:Nat} (h:jM l c b) (hb:0 < b):c <= 140737488355328:=by
 obtain ⟨h1,h2,h3⟩:=h
 have:c * 1 <= c * b:=rt (by omega) (by omega)
 omega
def G0 (lo hi n:Int):Prop:=0 <= lo /\ lo <= hi /\ hi <= n
theorem Aw : ∀ {l:List At} {us:List Value} (j:Nat),oks g hs l us -> oks g hs (l.set j .junk) us
 | [],_,_,h=>by simpa using h
 | _ :: _,[],_,h=>h.elim
 | _ :: _,_ :: _,0,h=>⟨⟨trivial,trivial⟩,h.2.1,h.2.2⟩
 | _ :: _,_ :: _,j + 1,h=>⟨h.1,h.2.1,Aw j h.2.2⟩
theorem rh (i j:Nat) {cells:List At} {ty:Nat} (hm:S.M[i]? = some (.box cells ty false)) (h:WL c ops L ⟨S.F,S.M.set i (.box (cells.set j .junk) ty false)⟩ N):WL c ops L S N:=fun a w ⟨g,hs,hk⟩=>by
 refine h a w ⟨g,hs,hk.upd hm rfl rfl (World.grownBy.mk rfl rfl rfl (bP _) (fun _ _ _=>rfl)) ?_⟩
 obtain ⟨b,cs,h1,h2,h3,h4⟩:=hk.items i _ hm
 exact ⟨b,cs,h1,Aw j h2,h3,fun h=>by cases h⟩
theorem Az {α:Type} (T:Ty α) (p:Nat) {t e:Nat} {ti te:TI} (ht:co.ok) (ho:o.op=.buildSlice t 0 #[]) (h1:co t=some ti) (h2:ti.sl=some e) (h3:co e=some te):MT c S o (.sv (.one (.own p))) [] (some (p,bf e T [])):=fun a w g hs h N Z hN=>by
 have hu:=fY ((ht t ti h1).sl.trans h2)
 unfold Oper.wp
 have hrun:(execOp a.eval o).run Tryz.prog w=.ok (.value (.slice (some ⟨w.heap.size,0,none⟩) 0 0)) (w.alloc (.cells #[] e)):=by
  have:execOp a.eval o=(do pure (.value (<- Instr.buildSlice t 0 #[])):Sem Next):=by unfold execOp; rw [ho]; simp
  rw [this]
  refine gA ?_
  simp [Instr.buildSlice,run_underlying hu,(ht e te h3).run_size,Instr.fill,newRow,newObj,Sem.run]
  exact cZ (fun z=>w.alloc (.cells z e)) (oO.1 (by simp))
 rw [hrun]
 refine hN _ _ g (.slice (some ⟨w.heap.size,0,none⟩) 0 0) ⟨rfl,rfl,rfl,by simp,fun b hb _=>(World.grownBy_alloc w _ none).block b hb (by simp),Gh.le.refl g,fun b o e=>.inl e,fun b o e=>?_⟩ ⟨?_,trivial⟩ ⟨⟨[],World.ownsRow.at (base:=0) ⟨by simp, .inr ⟨w.heap.size,0,#[],rfl,cy _,heap_alloc_new w _,bP _,by simp [maxLen],by simp,by simp⟩⟩,cG.nil⟩,fun b hb=>?_⟩
 ·exact ((World.grownBy_alloc w _ none).block b (h.base.pers.lt e) (by simp)).trans (h.base.pers b o e)
 ·show _=(if p=p then _ else hs p)
  rw [if_pos rfl]
 ·cases hb
  refine ⟨by simp,fun _=>?_, .inl (bP _)⟩
  cases hgb:g w.heap.size with
  | none=>rfl
  | some o=>have:=h.base.pers.lt hgb; omega
theorem k8.le {α:Type} {T:Ty α} {l:List α} {v:Value} (h:k8 T l g v):l.length <= 9223372036854775807:=by
 obtain ⟨ao,n,cap,h1,rfl,h2,h3,_⟩:=h
 simp only [maxLen] at h3
 omega
theorem de {α:Type} {T:Ty α} {l:List α} {m:Nat} (t:Nat) (hl:look t S.F=some (.sv (.one (.sl (slR T l) m)))) (h:l.length <= 9223372036854775807 -> En c S N):En c S N:=fun a w ⟨g,hs,hk⟩ =>
 h (k8.le (hk.slots t _ (dZ hl)).1.1) a w ⟨g,hs,hk⟩
theorem bQ {α:Type} {T:Ty α} {l:List α} {m:Nat} (t j:Nat) {cells:List At} (hl:look t S.F=some (.sv (.agg cells))) (hj:cells[j]? = some (.sl (slR T l) m)) (h:l.length <= 9223372036854775807 -> En c S N):En c S N:=fun a w ⟨g,hs,hk⟩=>by
 obtain ⟨cs,_,h2⟩:=hk.slots t _ (dZ hl)
 obtain ⟨u,_,h3,_⟩:=kM h2 hj
 exact h (k8.le h3.1.1) a w ⟨g,hs,hk⟩
end
section plain
variable {κ α:Type} [DecidableEq κ]
def fm (k:κ):List (κ × α) -> Option α
 | []=>none
 | x :: D=>if k=x.1 then some x.2 else fm k D
def fM (k:κ) (v:α):List (κ × α) -> List (κ × α)
 | []=>[(k,v)]
 | x :: D=>if k=x.1 then (k,v) :: D else x :: fM k v D
theorem E0 {a:κ} {v:α} {D:List (κ × α)}:(fM a v D).map (·.1)=if a ∈ D.map (·.1) then D.map (·.1) else D.map (·.1) ++ [a]:=by
 induction D with
 | nil=>simp [fM]
 | cons x D ih =>
  rw [fM]
  split
  ·rename_i e
   simp [e]
  ·rename_i e
   rw [gu,ih]
   by_cases h:a ∈ D.map (·.1)
   ·rw [if_pos h,if_pos (by simp [h])]; simp
   ·rw [if_neg h,if_neg (by simp [e]; simpa using h)]; simp
theorem BI {a:κ} {v:α} {D:List (κ × α)} (hn:(D.map (·.1)).Nodup):((fM a v D).map (·.1)).Nodup:=by
 rw [E0]
 split
 ·exact hn
 ·rename_i h
  rw [List.nodup_append]
  exact ⟨hn,by simp,fun x hx y hy=>by simp at hy; subst hy; exact fun e=>h (e ▸ hx)⟩
theorem kx {a b:κ} {v:α} {D:List (κ × α)}:fm b (fM a v D)=if b=a then some v else fm b D:=by
 induction D with
 | nil=>simp only [fM,fm]
 | cons x D ih =>
  rw [fM]
  split
  ·rename_i e
   simp only [fm,<- e]
   split <;> simp_all
  ·rename_i e
   simp only [fm]
   split
   ·rename_i e2
    have:b ≠ a:=fun e3=>e (by rw [<- e3,e2])
    simp [this]
   ·exact ih
end plain
section
variable {κ α:Type} [DecidableEq κ]
def tG (enc:κ -> Value) (T:Ty α) (D:List (κ × α)) (g:Gh) (L:Array MapEntry × Nat):Prop:=
 ∃ D0:List (κ × Value),(L.1.toList.map (fun e=>(e.key,e.val))=D0.map (fun x=>(enc x.1,x.2)) /\ (L.1.toList.map (·.born)).Pairwise (· < ·) /\ ∀ e ∈ L.1.toList,e.born < L.2) /\ D0.map (·.1)=D.map (·.1) /\ (D.map (·.1)).Nodup /\ ∀ (q:Nat) (x:κ × Value) (y:κ × α),D0[q]? = some x -> D[q]? = some y -> (T.sv y.2).ok g gS x.2
def Md (enc:κ -> Value) (T:Ty α) (D:List (κ × α)):Rl (Array MapEntry × Nat):=⟨tG enc T D,fun g g' L h ⟨D0,h1,h2,h3,h4⟩=>⟨D0,h1,h2,h3,fun q x y hx hy=>SV.mono h (h4 q x y hx hy)⟩⟩
def DG (enc:κ -> Value) (T:Ty α) (D:List (κ × α)) (r:Rl (Array MapEntry × Nat)):Prop:=∀ g p,r.R g p -> tG enc T D g p
omit [DecidableEq κ] in
theorem sI (enc:κ -> Value) (T:Ty α) (D:List (κ × α)):DG enc T D (Md enc T D):=fun _ _ h=>h
abbrev d9 (enc:κ -> Value) (T:Ty α) (D:List (κ × α)):br:=.map (Md enc T D)
theorem EL {T:Ty α} {g:Gh} {k:κ}:∀ {D0:List (κ × Value)} {D:List (κ × α)},D0.map (·.1)=D.map (·.1) -> (∀ (q:Nat) (x:κ × Value) (y:κ × α),D0[q]? = some x -> D[q]? = some y -> (T.sv y.2).ok g gS x.2) ->
  (AC k D0=none /\ fm k D=none) \/ ∃ v y,AC k D0=some v /\ fm k D=some y /\ (T.sv y).ok g gS v:=by
 have key:∀ (D0:List (κ × Value)) (D:List (κ × α)) (i:Nat),D0.map (·.1)=D.map (·.1) -> (∀ (q:Nat) (x:κ × Value) (y:κ × α),D0[q]? = some x -> D[q]? = some y -> (T.sv y.2).ok g gS x.2) ->
   ((fN k D0 i).map (·.2)=none /\ fm k D=none) \/ ∃ v y,(fN k D0 i).map (·.2)=some v /\ fm k D=some y /\ (T.sv y).ok g gS v:=by
  intro D0
  induction D0 with
  | nil=>intro D i h _; cases D with
   | nil=>exact .inl ⟨rfl,rfl⟩
   | cons _ _=>cases h
  | cons x D0 ih =>
   intro D i h hp
   cases D with
   | nil=>cases h
   | cons y D =>
    simp only [gu,List.cons.injEq] at h
    simp only [fN,fm,<- h.1]
    split
    ·exact .inr ⟨x.2,y.2,rfl,rfl,hp 0 x y rfl rfl⟩
    ·exact ih D (i + 1) h.2 (fun q a b ha hb=>hp (q + 1) a b (by simpa using ha) (by simpa using hb))
 intro D0 D h1 h2
 exact key D0 D 0 h1 h2
theorem EK {T:Ty α} {g:Gh} {k:κ} {v:Value} {y:α} (hv:(T.sv y).ok g gS v):∀ {D0:List (κ × Value)} {D:List (κ × α)},D0.map (·.1)=D.map (·.1) -> (∀ (q:Nat) (x:κ × Value) (y:κ × α),D0[q]? = some x -> D[q]? = some y -> (T.sv y.2).ok g gS x.2) ->
  (o6 k v D0).map (·.1)=(fM k y D).map (·.1) /\ ∀ (q:Nat) (x:κ × Value) (y':κ × α),(o6 k v D0)[q]? = some x -> (fM k y D)[q]? = some y' -> (T.sv y'.2).ok g gS x.2:=by
 intro D0
 induction D0 with
 | nil=>intro D h _; cases D with
  | nil =>
   refine ⟨rfl,fun q x y' hx hy=>?_⟩
   cases q with
   | zero=>simp [o6,fM] at hx hy; subst hx hy; exact hv
   | succ q=>simp [o6] at hx
  | cons _ _=>cases h
 | cons x D0 ih =>
  intro D h hp
  cases D with
  | nil=>cases h
  | cons z D =>
   simp only [gu,List.cons.injEq] at h
   simp only [o6,fM,<- h.1]
   split
   ·refine ⟨by simp [h.2],fun q a b ha hb=>?_⟩
    cases q with
    | zero=>simp at ha hb; subst ha hb; exact hv
    | succ q=>exact hp (q + 1) a b (by simpa using ha) (by simpa using hb)
   ·obtain ⟨i1,i2⟩:=ih h.2 (fun q a b ha hb=>hp (q + 1) a b (by simpa using ha) (by simpa using hb))
    refine ⟨by simp [h.1,i1],fun q a b ha hb=>?_⟩
    cases q with
    | zero=>simp at ha hb; subst ha hb; exact hp 0 x z rfl rfl
    | succ q=>exact i2 q a b (by simpa using ha) (by simpa using hb)
end
def yE : List At -> Option (List Value)
 | []=>some []
 | .v x :: l=>match yE l with
  | some r=>some (x :: r)
  | none=>none
 | _ :: _=>none
def Fd (F:List (Nat × SC)) (o:Operand):Option Value:=match eL F o with
 | some (.sv (.one (.v x)))=>some x
 | some (.sv (.agg l))=>match yE l with
  | some r=>some (.agg r.toArray)
  | none=>none
 | _=>none
theorem wL {g:Gh} {hs:Nat -> Value}:∀ {l:List At} {r us:List Value},yE l=some r -> oks g hs l us -> us=r
 | [],r,us,e,h=>by
  cases e
  cases us with
  | nil=>rfl
  | cons _ _=>exact h.elim
 | a :: l,r,us,e,h=>by
  cases a <;> try (cases e; done)
  rename_i x
  simp only [yE] at e
  split at e
  case h_2=>cases e
  rename_i r' hr
  cases e
  cases us with
  | nil=>exact h.elim
  | cons u us =>
   have h1:u=x:=h.1.1
   rw [h1,wL hr h.2.2]
section
variable {κ α:Type} [DecidableEq κ] {enc:κ -> Value} {T:Ty α} {D:List (κ × α)}
variable {c:eT} {S S1:St} {a:Act} {w:World} {g:Gh} {hs:Nat -> Value} {co:gY} {n:Nat} {o:Oper} {ops:Array Oper} {rest L:List Oper} {N:Po}
theorem tK (h:dJ c S a w g hs) {x:Operand} {v:Value} (e:Fd S.F x=some v):a.eval x=v:=by
 unfold Fd at e
 split at e
 ·rename_i y hy
  cases e
  exact (bV h hy).1
 ·rename_i l hl
  split at e
  case h_2=>cases e
  rename_i r hr
  cases e
  obtain ⟨cs,h1,h2⟩:=bV h hl
  rw [h1,wL hr h2]
 ·cases e
omit [DecidableEq κ] in
theorem uK {r:Rl (Array MapEntry × Nat)} (h:dJ c S a w g hs) {i:Nat} (hm:S.M[i]? = some (.map r)) (hr:DG enc T D r):∃ m D0,hs i=.map (some m) /\ mH enc w m D0 /\ D0.map (·.1)=D.map (·.1) /\ (D.map (·.1)).Nodup /\ ∀ (q:Nat) (x:κ × Value) (y:κ × α),D0[q]? = some x -> D[q]? = some y -> (T.sv y.2).ok g gS x.2:=by
 obtain ⟨m,es,clock,h1,h2,hx⟩:=h.items i _ hm
 obtain ⟨D0,⟨h6,h4,h5⟩,h7,h8,h9⟩:=hr _ _ hx
 exact ⟨m,D0,h1,⟨es,clock,h2,h6,by rw [h7]; exact h8,h4,h5⟩,h7,h8,h9⟩
omit [DecidableEq κ] in
theorem JP (h:dJ c S a w g hs) {i:Nat} (hm:S.M[i]? = some (d9 enc T D)):∃ m D0,hs i=.map (some m) /\ mH enc w m D0 /\ D0.map (·.1)=D.map (·.1) /\ (D.map (·.1)).Nodup /\ ∀ (q:Nat) (x:κ × Value) (y:κ × α),D0[q]? = some x -> D[q]? = some y -> (T.sv y.2).ok g gS x.2:=uK h hm (sI enc T D)
omit [DecidableEq κ] in
theorem o8 (enc:κ -> Value) (T:Ty α) (p:Nat) {t:Nat} (ho:o.op=.makeMap t none):MT c S o (.sv (.one (.own p))) [] (some (p,d9 enc T [])):=fun a w g hs h N Z hN=>by
 unfold Oper.wp
 have hrun:(execOp a.eval o).run Tryz.prog w=.ok (.value (.map (some w.heap.size))) (w.alloc (.map #[] 0)):=by
  have:execOp a.eval o=(do pure (.value (<- Instr.makeMap t none)):Sem Next):=by unfold execOp; rw [ho]; rfl
  rw [this]
  refine gA ?_
  simp [Instr.makeMap,newObj,Sem.run]
 rw [hrun]
 refine hN _ _ g (.map (some w.heap.size)) ⟨rfl,rfl,rfl,by simp,fun b hb _=>(World.grownBy_alloc w _ none).block b hb (by simp),Gh.le.refl g,fun b o e=>.inl e,fun b o e=>?_⟩ ⟨?_,trivial⟩ ⟨⟨w.heap.size,#[],0,rfl,heap_alloc_new w _,[],⟨rfl,by simp,by simp⟩,rfl,by simp,fun q x y hx=>by simp at hx⟩,fun b hb=>?_⟩
 ·exact ((World.grownBy_alloc w _ none).block b (h.base.pers.lt e) (by simp)).trans (h.base.pers b o e)
 ·show _=(if p=p then _ else hs p)
  rw [if_pos rfl]
 ·cases hb
  refine ⟨by simp,fun _=>?_, .inl (bP _)⟩
  cases hgb:g w.heap.size with
  | none=>rfl
  | some o=>have:=h.base.pers.lt hgb; omega
def JR (T:Ty α) (z:α) (r:Option α) (ok:Bool):SC:=match ok with
 | true=>.tup [T.sv (r.getD z), .one (B r.isSome)]
 | false=>.sv (T.sv (r.getD z))
theorem mj {kt e t i:Nat} (K:kG kt enc) {k:κ} {m x:Operand} {ok:Bool} (z:α) {zv:Value} (ho:o.op=.lookup t m x ok) (ht:Tryz.prog.underlying t=some (.map kt e)) (hz:∀ w,(zeroValue e).run Tryz.prog w=.ok zv w) (hz2:∀ g,(T.sv z).ok g gS zv)
  {r:Rl (Array MapEntry × Nat)} (hr:DG enc T D r) (hm:eL S.F m=some (.sv (.one (.own i)))) (hi:S.M[i]? = some (.map r)) (hx:Fd S.F x=some (enc k)) (hc:∀ a,(T.sv a).refs=[]):Val c S o (JR T z (fm k D) ok):=fun a w g hs h=>by
 obtain ⟨b,D0,h1,h2,h3,h4,h5⟩:=uK h hi hr
 have hv:a.eval m=.map (some b):=(bV h hm).1.trans h1
 have hrun:=h2.look K ht hz k ok
 have:(execOp a.eval o).run Tryz.prog w=.ok (.value (Hh ok zv (AC k D0))) w:=by
  have e:execOp a.eval o=(do pure (.value (<- Instr.lookup t (a.eval m) (a.eval x) ok)):Sem Next):=by unfold execOp; rw [ho]
  rw [e,hv,tK h hx]
  exact cX hrun
 refine ⟨_,this,?_⟩
 have up:∀ {s:SV} {v:Value},s.refs=[] -> s.ok g gS v -> s.ok g hs v:=fun hc h=>SV.ok_hs (fun i hi=>by rw [hc] at hi; cases hi) h
 rcases EL (k:=k) h3 h5 with ⟨e1,e2⟩ | ⟨v,y,e1,e2,e3⟩
 ·rw [e1,e2]
  cases ok with
  | true=>exact ⟨[zv, .bool false],rfl,up (hc _) (hz2 g),⟨rfl,trivial⟩,trivial⟩
  | false=>exact up (hc _) (hz2 g)
 ·rw [e1,e2]
  cases ok with
  | true=>exact ⟨[v, .bool true],rfl,up (hc _) e3,⟨rfl,trivial⟩,trivial⟩
  | false=>exact up (hc _) e3
theorem lY {kt e t i:Nat} (K:kG kt enc) {k:κ} {y:α} {m x v:Operand} (hn:c.n=n) (hw:dX ops S.F o=some true) (ho:o.op=.mapUpdate t m x v \/ o.op=.insert t m x v) (ht:Tryz.prog.underlying t=some (.map kt e))
  (hm:eL S.F m=some (.sv (.one (.own i)))) (hi:S.M[i]? = some (d9 enc T D)) (hx:Fd S.F x=some (enc k)) (hv:eL S.F v=some (.sv (T.sv y))) (hc:(T.sv y).refs=[])
  (e:iA n o.dst (.tup []) ⟨S.F,S.M.set i (d9 enc T (fM k y D))⟩=some S1) (h:WL c ops rest S1 N):WL c ops (o :: rest) S N:=fun a w ⟨g,hs,hk⟩=>by
 unfold wpList
 rw [if_pos (dU hk hw)]
 refine .inl ?_
 unfold Oper.wp
 obtain ⟨b,D0,h1,h2,h3,h4,h5⟩:=JP hk hi
 have hmv:a.eval m=.map (some b):=(bV hk hm).1.trans h1
 have hval:(T.sv y).ok g gS (a.eval v):=SV.ok_hs (fun i hi=>by rw [hc] at hi; cases hi) (bV hk hv)
 obtain ⟨w',r1,⟨es,clock,r2,r3,_,r4,r5⟩,rg⟩:=h2.put K ht k (a.eval v)
 have hrun:(execOp a.eval o).run Tryz.prog w=.ok .skip w':=by
  have e:execOp a.eval o=(do Instr.mapUpdate t (a.eval m) (a.eval x) (a.eval v); pure .skip:Sem Next):=by
   unfold execOp
   rcases ho with ho | ho <;> rw [ho]
  rw [e,hmv,tK hk hx,bW,r1]
  simp
 rw [hrun]
 obtain ⟨p1,p2⟩:=EK (k:=k) hval h3 h5
 have hup:=hk.upd (w':=w') (it':=d9 enc T (fM k y D)) hi rfl rfl (by rw [h1]; exact rg) ⟨b,es,clock,h1,r2,o6 k (a.eval v) D0,⟨r3,r4,r5⟩,p1,BI h4,p2⟩
 exact h _ _ ⟨g,hs,fR hup hn lA e⟩
end
structure CI where
 it:br
 born:Option Nat
 kill:Option Nat
 upd:Option (Nat × br)
structure eK where
 F0:List (Nat × SC)
 xs:List SC
 ci:List CI
def eK.x (C:eK) (i:Nat):SC:=C.xs.getD i (.tup [])
def lv (L:Nat -> Bool):Option Nat -> Bool
 | none=>true
 | some b=>L b
def lk (L:Nat -> Bool):Option Nat -> Bool
 | none=>false
 | some b=>L b
def CI.cur (L:Nat -> Bool) (e:CI):br:=match e.upd with
 | some (u,it')=>match L u with
  | true=>it'
  | false=>e.it
 | none=>e.it
def CI.at (L:Nat -> Bool) (e:CI):br:=match lv L e.born && !(lk L e.kill) with
 | true=>e.cur L
 | false=>.gone
def eK.ML (C:eK) (L:Nat -> Bool):List br:=C.ci.map (CI.at L)
def wX (ops:List Oper) (L:Nat -> Bool) (t:Nat):Bool:=ops.zipIdx.any fun x=>match L x.2 with
 | true=>(match x.1.dst with
  | some d=>Nat.beq d t
  | none=>false)
 | false=>false
theorem sd {ops:List Oper} {L:Nat -> Bool} {t:Nat}:wX ops L t=true ↔ ∃ (i:Nat) (o:Oper),ops[i]? = some o /\ L i=true /\ o.dst=some t:=by
 unfold wX
 rw [jH]
 constructor
 ·rintro ⟨⟨o,i⟩,h1,h2⟩
  have h3:=kg.1 h1
  cases hL:L i with
  | false=>simp only [hL] at h2; cases h2
  | true =>
   simp only [hL] at h2
   cases hd:o.dst with
   | none=>rw [hd] at h2; cases h2
   | some d =>
    rw [hd] at h2
    exact ⟨i,o,h3,hL,by rw [hd,dS h2]⟩
 ·rintro ⟨i,o,h1,h2,h3⟩
  refine ⟨(o,i),kg.2 h1,?_⟩
  simp [h2,h3]
def eK.FL (C:eK) (ops:List Oper) (L:Nat -> Bool):List (Nat × SC):=(ops.zipIdx.filterMap fun x=>match L x.2 with
 | true=>x.1.dst.map fun d=>(d,C.x x.2)
 | false=>none) ++ C.F0.filter fun e=>!(wX ops L e.1)
def onE (o:Oper):List Nat:=(o.after.toList.filter (Region.binds .any)).map (·.on)
def MB (ops:List Oper) (i:Nat):Option Nat:=match ops[i]? with
 | some o=>o.dst
 | none=>none
def onI (ops:List Oper) (i:Nat):List Nat:=match ops[i]? with
 | some o=>onE o
 | none=>[]
def ra (ops:List Oper):Nat -> List Nat -> List Nat
 | 0,s=>s
 | i + 1,s=>match s.contains i with
  | true=>ra ops i (s ++ onI ops i)
  | false=>ra ops i s
def uh (C:eK) (ops:List Oper) (j:Option Nat) (r:Nat):Bool:=match C.ci[r]? with
 | none=>true
 | some e=>match e.born with
  | none=>true
  | some b=>match j with
   | none=>false
   | some j=>Nat.beq b j || ((onI ops j).contains b || (ra ops j (onI ops j)).contains b)
def yv : List Nat -> Bool
 | []=>true
 | x :: l=>!(l.contains x) && yv l
def Fl (C:eK) (ops:List Oper):Bool:=
 (ops.zipIdx.all fun x=>(onE x.1).all fun j=>Nat.blt j x.2) &&
 yv (ops.filterMap (·.dst)) &&
 (ops.zipIdx.all fun x=>match x.1.dst with
  | some _=>(C.x x.2).refs.all (uh C ops (some x.2))
  | none=>true) &&
 (C.F0.all fun x=>x.2.refs.all (uh C ops none)) &&
 (C.ci.all fun e=>e.it.refs.all (uh C ops e.born) && (match e.upd with
  | some (u,it')=>it'.refs.all (uh C ops (some u)) && (match e.born with
   | some b=>(onI ops u).contains b
   | none=>true)
  | none=>true) && (match e.kill with
  | some k=>(match e.born with
   | some b=>(onI ops k).contains b
   | none=>true)
  | none=>true))
def Me (ops:List Oper) (i t:Nat):Bool:=ops.zipIdx.all fun x=>match x.1.dst with
 | some d=>match Nat.beq d t with
  | true=>Nat.beq x.2 i || (onI ops x.2).contains i
  | false=>true
 | none=>true
def Db (C:eK) (ops:List Oper) (i t:Nat):Option SC:=match (onI ops i).find? (fun j=>match MB ops j with
  | some d=>Nat.beq d t
  | none=>false) with
 | some j=>some (C.x j)
 | none=>match Me ops i t with
  | true=>look t C.F0
  | false=>none
def wK (C:eK) (ops:List Oper) (i q:Nat):Option br:=match C.ci[q]? with
 | none=>none
 | some e=>match (match e.born with
   | none=>true
   | some b=>(onI ops i).contains b) && (match e.kill with
   | none=>true
   | some k=>Nat.beq k i || (onI ops k).contains i) with
  | false=>none
  | true=>match e.upd with
   | none=>some e.it
   | some (u,it')=>match (onI ops i).contains u with
    | true=>some it'
    | false=>match (Nat.beq u i || (onI ops u).contains i) || (ra ops u (onI ops u)).contains i with
     | true=>some e.it
     | false=>none
def nA (C:eK) (ops:List Oper) (i:Nat) (S:St):List (Option SC) × List (Option br):=(S.F.map fun e=>Db C ops i e.1,S.M.zipIdx.map fun x=>match x.1 with
 | .gone=>none
 | _=>wK C ops i x.2)
def nz (S:St):List (Option SC) × List (Option br):=(S.F.map fun e=>some e.2,S.M.map fun x=>match x with
 | .gone=>none
 | it=>some it)
def MU (c:eT) (S:St) (o:Oper) (q:Nat) (it':br):Prop:=
 ∀ a w g hs,dJ c S a w g hs -> ∀ N Z:Po,(∀ v w',w.grownBy w' (blk (hs q)) -> it'.ok g hs w' (hs q) -> N (a.put o.dst v) w') -> o.wp Tryz.prog a w N (gm c Z)
def ME (c:eT) (S:St) (o:Oper) (x:SC) (us:List (Nat × br)):Prop:=
 ∀ a w g hs,dJ c S a w g hs -> ∀ N Z:Po,(∀ v w' g',Eff hs (us.map (·.1)) w g w' g' -> (∀ q ∈ us.map (·.1),∀ b,fW (hs q) b -> g' b=none) -> x.ok g' hs v -> (∀ p ∈ us,p.2.ok g' hs w' (hs p.1)) -> N (a.put o.dst v) w') -> o.wp Tryz.prog a w N (gm c Z)
def iT (C:eK) (i:Nat):List Nat:=(C.ci.zipIdx.filter fun x=>match x.1.born with
 | some b=>Nat.beq b i
 | none=>false).map (·.2)
def iM (C:eK) (i:Nat):List Nat:=(C.ci.zipIdx.filter fun x=>match x.1.kill with
 | some b=>Nat.beq b i
 | none=>false).map (·.2)
def mn (C:eK) (i:Nat):List Nat:=(C.ci.zipIdx.filter fun x=>match x.1.upd with
 | some (b,_)=>Nat.beq b i
 | none=>false).map (·.2)
def Ib (C:eK) (i:Nat) (S:St):List (Nat × br) -> Prop
 | []=>True
 | p :: l=>(∃ e,C.ci[p.1]? = some e /\ e.upd=some (i,p.2) /\ S.M[p.1]? = some e.it /\ e.it.fz=false /\ p.2.fz=false) /\ Ib C i S l
theorem v6 {C:eK} {i:Nat} {S:St}:∀ {us:List (Nat × br)},Ib C i S us -> ∀ p ∈ us,∃ e,C.ci[p.1]? = some e /\ e.upd=some (i,p.2) /\ S.M[p.1]? = some e.it /\ e.it.fz=false /\ p.2.fz=false
 | [],_,p,hp=>by simp at hp
 | x :: l,h,p,hp=>by
  rcases eh.1 hp with rfl | hp
  ·exact h.1
  ·exact v6 h.2 p hp
def m9 : List br -> List (Nat × br) -> List br
 | M,[]=>M
 | M,p :: l=>m9 (M.set p.1 p.2) l
theorem lG : ∀ {us:List (Nat × br)} {M:List br} {i:Nat} {it:br},(m9 M us)[i]? = some it -> (∃ p ∈ us,p.1=i /\ p.2=it) \/ (i ∉ us.map (·.1) /\ M[i]? = some it)
 | [],M,i,it,h=>.inr ⟨by simp,h⟩
 | p :: us,M,i,it,h=>by
  rcases lG (us:=us) (M:=M.set p.1 p.2) h with ⟨q,h1,h2⟩ | ⟨h1,h2⟩
  ·exact .inl ⟨q,d7 _ h1,h2⟩
  ·rw [dT] at h2
   by_cases e:p.1=i
   ·rw [if_pos e] at h2
    split at h2
    ·simp at h2
     exact .inl ⟨p,fD,e,h2⟩
    ·cases h2
   ·rw [if_neg e] at h2
    refine .inr ⟨?_,h2⟩
    rw [gu,eh,not_or]
    exact ⟨Ne.symm e,h1⟩
theorem wk : ∀ {us:List (Nat × br)} {M:List br},(m9 M us).length=M.length
 | [],_=>rfl
 | p :: us,M=>by
  show (m9 (M.set p.1 p.2) us).length=_
  rw [wk,cK]
theorem wh : ∀ {us:List (Nat × br)} {M:List br} {i:Nat},i ∉ us.map (·.1) -> (m9 M us)[i]? = M[i]?
 | [],_,_,_=>rfl
 | p :: us,M,i,h=>by
  rw [gu,eh,not_or] at h
  show (m9 (M.set p.1 p.2) us)[i]? = _
  rw [wh h.2,dT,if_neg (Ne.symm h.1)]
def CI.un (u0:Nat) (e:CI):CI:=match e.upd with
 | some (u,it')=>match Nat.beq u u0 with
  | true=>{ e with upd:=none }
  | false=>{ e with upd:=some (u,it') }
 | none=>e
def CI.did (u0:Nat) (e:CI):CI:=match e.upd with
 | some (u,it')=>match Nat.beq u u0 with
  | true=>{ e with it:=it',upd:=none }
  | false=>{ e with upd:=some (u,it') }
 | none=>e
def eK.un (C:eK) (u0:Nat):eK:={ C with ci:=C.ci.map (CI.un u0) }
def eK.did (C:eK) (u0:Nat):eK:={ C with ci:=C.ci.map (CI.did u0) }
theorem Ir {L:Nat -> Bool} {u0:Nat} (h:L u0=false) (e:CI):(e.un u0).at L=e.at L:=by
 rcases e with ⟨it,born,kill,upd⟩
 unfold CI.un
 cases upd with
 | none=>rfl
 | some x =>
  obtain ⟨u,it'⟩:=x
  simp only
  split
  ·rename_i hb
   have:=dS hb
   subst this
   unfold CI.at CI.cur
   simp only [h]
  ·rfl
theorem FR {L:Nat -> Bool} {u0:Nat} (h:L u0=true) (e:CI):(e.did u0).at L=e.at L:=by
 rcases e with ⟨it,born,kill,upd⟩
 unfold CI.did
 cases upd with
 | none=>rfl
 | some x =>
  obtain ⟨u,it'⟩:=x
  simp only
  split
  ·rename_i hb
   have:=dS hb
   subst this
   unfold CI.at CI.cur
   simp only [h]
  ·rfl
theorem Cg {C:eK} {L:Nat -> Bool} {u0:Nat} (h:L u0=false):(C.un u0).ML L=C.ML L:=by
 unfold eK.ML eK.un
 rw [kk]
 exact jc fun e _=>Ir h e
theorem Bg {C:eK} {L:Nat -> Bool} {u0:Nat} (h:L u0=true):(C.did u0).ML L=C.ML L:=by
 unfold eK.ML eK.did
 rw [kk]
 exact jc fun e _=>FR h e
inductive eJ (c:eT) (C:eK) (ops:List Oper) (i:Nat) (o:Oper):Prop
 | mt (S:St) (K:List Nat) (p:Option Nat) (hf:nA C ops i S=nz S) (hw:dX ops.toArray S.F o=some true) (hm:MT c S o (C.x i) K (p.bind fun q=>(C.ci[q]?).map fun e=>(q,e.it)))
   (hk:iM C i=K) (hb:iT C i=p.toList) (hu:mn C i=[]) (huse:fF S K=true)
 | mu (S:St) (q:Nat) (e:CI) (it':br) (he:C.ci[q]? = some e) (heu:e.upd=some (i,it')) (hf:nA C ops i S=nz S) (hw:dX ops.toArray S.F o=some true) (hm:MU c S o q it') (hk:iM C i=[]) (hb:iT C i=[]) (hu:mn C i=[q])
   (hq:S.M[q]? = some e.it) (h1:e.it.fz=false) (h2:it'.fz=false) (hd:o.dst=none)
 | me (S:St) (us:List (Nat × br)) (hf:nA C ops i S=nz S) (hw:dX ops.toArray S.F o=some true) (hm:ME c S o (C.x i) us) (hk:iM C i=[]) (hb:iT C i=[]) (hu:mn C i=us.map (·.1)) (huq:Ib C i S us)
 | two (u0:Nat) (S S':St) (hf:nA (C.un u0) ops i S=nz S) (hf':nA (C.did u0) ops i S'=nz S') (hw:dX ops.toArray S.F o=some true) (hw':dX ops.toArray S'.F o=some true) (hm:MT c S o (C.x i) [] none) (hm':MT c S' o (C.x i) [] none)
   (hk:iM C i=[]) (hb:iT C i=[]) (hu:mn C i=[])
 | skip (S:St) (hf:nA C ops i S=nz S) (hw:dX ops.toArray S.F o=some false) (hx:C.x i=.tup []) (hk:iM C i=[]) (hb:iT C i=[]) (hu:mn C i=[])
def kS (c:eT) (C:eK) (ops:List Oper):Nat -> List Oper -> Prop
 | _,[]=>True
 | i,o :: l=>eJ c C ops i o /\ kS c C ops (i + 1) l
theorem m7 {c:eT} {C:eK} {ops:List Oper}:∀ {l:List Oper} {k:Nat},kS c C ops k l -> ∀ (i:Nat) (o:Oper),l[i]? = some o -> eJ c C ops (k + i) o
 | [],_,_,i,o,h=>by simp at h
 | x :: l,k,hs,0,o,h=>by simp at h; subst h; exact hs.1
 | x :: l,k,hs,i + 1,o,h=>by
  have:=m7 hs.2 i o (by simpa using h)
  rwa [show k + 1 + i=k + (i + 1) by omega] at this
theorem vu {C:eK} {ops:List Oper} {L:Nat -> Bool} {t:Nat} {y:SC}:(t,y) ∈ C.FL ops L ↔ (∃ (i:Nat) (o:Oper),ops[i]? = some o /\ L i=true /\ o.dst=some t /\ y=C.x i) \/ ((t,y) ∈ C.F0 /\ wX ops L t=false):=by
 unfold eK.FL
 rw [gO,oP]
 refine or_congr ⟨?_,?_⟩ (by simp [ga])
 ·rintro ⟨⟨o,i⟩,h1,h2⟩
  have h3:=List.mem_zipIdx' h1
  cases hL:L i with
  | false=>simp only [hL] at h2; cases h2
  | true =>
   simp only [hL] at h2
   cases hd:o.dst with
   | none=>rw [hd] at h2; cases h2
   | some d =>
    rw [hd] at h2
    simp at h2
    refine ⟨i,o,?_,hL,by rw [hd,h2.1],h2.2.symm⟩
    obtain ⟨h4,h5⟩:=h3
    rw [cO h4,<- h5]
 ·rintro ⟨i,o,h1,h2,h3,rfl⟩
  refine ⟨(o,i),?_,by simp [h2,h3]⟩
  obtain ⟨h4,h5⟩:=cg.1 h1
  rw [kg]
  exact h1
theorem gZ {c:eT} {S S1:St} {a:Act} {w:World} {g:Gh} {hs:Nat -> Value} (hF:∀ e ∈ S.F,e ∈ S1.F) (hM:pO S1.M S.M) (h:dJ c S1 a w g hs):dJ c S a w g hs:=by
 have hm:∀ (i:Nat) (it:br),S.M[i]? = some it -> it ≠ .gone -> S1.M[i]? = some it:=fun i it hi hn=>(hM i it hi).resolve_left hn
 refine ⟨h.size,h.defers,h.base,fun t x hx=>h.slots t x (hF _ hx),fun i it hi=>?_,fun i j it jt hij hi hj hfi hnj=>h.sep i j it jt hij (hm i it hi (dy hfi)) (hm j jt hj hnj) hfi hnj,fun i it hi hni=>h.mine i it (hm i it hi hni) hni⟩
 rcases hM i it hi with rfl | h1
 ·trivial
 ·exact h.items i it h1
theorem wJ : ∀ {l:List Nat},yv l=true -> l.Nodup
 | [],_=>List.nodup_nil
 | x :: l,h=>by
  simp only [yv,cC,Bool.not_eq_true',gN] at h
  rw [oM]
  refine ⟨fun hx=>?_,wJ h.2⟩
  have:=h.1
  simp [gN,hx] at this
structure Chk (C:eK) (ops:List Oper):Prop where
 below:∀ (i:Nat) (o:Oper),ops[i]? = some o -> ∀ j ∈ onE o,j < i
 nodup:(ops.filterMap (·.dst)).Nodup
 refsX:∀ (i:Nat) (o:Oper),ops[i]? = some o -> o.dst ≠ none -> ∀ r ∈ (C.x i).refs,uh C ops (some i) r=true
 refs0:∀ e ∈ C.F0,∀ r ∈ e.2.refs,uh C ops none r=true
 refsM:∀ e ∈ C.ci,∀ r ∈ e.it.refs,uh C ops e.born r=true
 refsU:∀ e ∈ C.ci,∀ u it',e.upd=some (u,it') -> (∀ r ∈ it'.refs,uh C ops (some u) r=true) /\ ∀ b,e.born=some b -> b ∈ onI ops u
 killB:∀ e ∈ C.ci,∀ k b,e.kill=some k -> e.born=some b -> b ∈ onI ops k
theorem HQ {C:eK} {ops:List Oper} (h:Fl C ops=true):Chk C ops:=by
 simp only [Fl,cC] at h
 obtain ⟨⟨⟨⟨h1,h2⟩,h3⟩,h4⟩,h5⟩:=h
 have hz:∀ {i:Nat} {o:Oper},ops[i]? = some o -> (o,i) ∈ ops.zipIdx:=fun {i o} hi=>kg.2 hi
 refine ⟨fun i o hi j hj=>?_,wJ h2,fun i o hi hd r hr=>?_,fun e he r hr=>?_,fun e he r hr=>?_,fun e he u it' hu=>?_,fun e he k b hk hb=>?_⟩
 ·have:=cI.1 (cI.1 h1 _ (hz hi)) j hj
  exact dM this
 ·have:=cI.1 h3 _ (hz hi)
  cases hdd:o.dst with
  | none=>exact absurd hdd hd
  | some d=>simp only [hdd] at this; exact cI.1 this r hr
 ·exact cI.1 (cI.1 h4 e he) r hr
 ·have:=cI.1 h5 e he
  simp only [cC] at this
  exact cI.1 this.1.1 r hr
 ·have:=cI.1 h5 e he
  simp only [cC,hu] at this
  refine ⟨fun r hr=>cI.1 this.1.2.1 r hr,fun b hb=>?_⟩
  have h6:=this.1.2.2
  rw [hb] at h6
  simpa [gN] using h6
 ·have:=cI.1 h5 e he
  simp only [cC,hk,hb] at this
  simpa [gN] using this.2
def i6 (ops:List Oper) (L:Nat -> Bool):Prop:=∀ i,L i=true -> i < ops.length /\ ∀ j ∈ onI ops i,L j=true
def i7 (L:Nat -> Bool) (i:Nat):Nat -> Bool:=fun j=>if j=i then true else L j
section
variable {c:eT} {C:eK} {ops:List Oper} {L:Nat -> Bool}
theorem uB {i:Nat} {o:Oper} (h:ops[i]? = some o):onI ops i=onE o:=by unfold onI; rw [h]
theorem zI {q:Nat} {it:br} (h:(C.ML L)[q]? = some it) (hn:it ≠ .gone):∃ e,C.ci[q]? = some e /\ lv L e.born=true /\ lk L e.kill=false /\ it=e.cur L:=by
 unfold eK.ML at h
 rw [cY] at h
 cases he:C.ci[q]? with
 | none=>rw [he] at h; cases h
 | some e =>
  rw [he] at h
  simp only [eO,Option.some.injEq] at h
  unfold CI.at at h
  split at h
  ·rename_i hb
   simp only [cC,Bool.not_eq_true'] at hb
   exact ⟨e,rfl,hb.1,hb.2,h.symm⟩
  ·exact absurd h.symm hn
theorem KT {q:Nat} {e:CI} (he:C.ci[q]? = some e) (h1:lv L e.born=true) (h2:lk L e.kill=false):(C.ML L)[q]? = some (e.cur L):=by
 unfold eK.ML
 rw [cY,he]
 simp [CI.at,h1,h2]
theorem tP (hc:i6 ops L):∀ {n:Nat} {s:List Nat},(∀ x ∈ s,L x=true) -> ∀ x ∈ ra ops n s,L x=true
 | 0,s,h,x,hx=>h x hx
 | i + 1,s,h,x,hx=>by
  unfold ra at hx
  split at hx
  ·rename_i hi
   refine tP hc (fun y hy=>?_) x hx
   rcases gO.1 hy with hy | hy
   ·exact h y hy
   ·exact (hc i (h i (by simpa [gN] using hi))).2 y hy
  ·exact tP hc h x hx
theorem Lc (hc:i6 ops L) {j:Option Nat} (hj:∀ k,j=some k -> L k=true) {r:Nat} (h:uh C ops j r=true) {e:CI} (he:C.ci[r]? = some e) {b:Nat} (hb:e.born=some b):L b=true:=by
 unfold uh at h
 rw [he] at h
 simp only [hb] at h
 cases j with
 | none=>cases h
 | some j =>
  simp only [fc] at h
  rcases h with h | h
  ·rw [dS h]; exact hj j rfl
  ·rcases h with h | h
   ·exact (hc j (hj j rfl)).2 b (by simpa [gN] using h)
   ·exact tP hc (hc j (hj j rfl)).2 b (by simpa [gN] using h)
theorem lQ (hc:i6 ops L) {i:Nat} {o:Oper} (hi:ops[i]? = some o) (hL:L i=false) (hon:∀ j ∈ onE o,L j=true) {S:St} (hf:nA C ops i S=nz S):(∀ e ∈ S.F,e ∈ C.FL ops L) /\ pO (C.ML L) S.M:=by
 have hF:=cZ Prod.fst hf
 have hM:=cZ Prod.snd hf
 simp only [nA,nz] at hF hM
 have hoi:=uB hi
 constructor
 ·intro e he
  obtain ⟨q,hq⟩:=iB he
  have h1:=cZ (·[q]?) hF
  simp [hq] at h1
  obtain ⟨t,y⟩:=e
  rw [vu]
  unfold Db at h1
  split at h1
  ·rename_i j hj
   have h2:=List.find?_some hj
   have h3:=List.mem_of_find?_eq_some hj
   cases h1
   unfold MB at h2
   cases ho:ops[j]? with
   | none=>rw [ho] at h2; cases h2
   | some oj =>
    rw [ho] at h2
    simp only at h2
    cases hd:oj.dst with
    | none=>rw [hd] at h2; cases h2
    | some d =>
     rw [hd] at h2
     have:=dS h2
     subst this
     exact .inl ⟨j,oj,ho,hon j (by rwa [hoi] at h3),hd,rfl⟩
  ·split at h1
   case h_2=>cases h1
   rename_i hlate
   refine .inr ⟨dZ h1,?_⟩
   cases hdd:wX ops L t with
   | false=>rfl
   | true =>
    exfalso
    obtain ⟨k,ok,hk1,hk2,hk3⟩:=sd.1 hdd
    have h5:=cI.1 hlate (ok,k) (kg.2 hk1)
    simp only [hk3,Nat.beq_refl] at h5
    simp only [fc] at h5
    rcases h5 with h5 | h5
    ·rw [dS h5,hL] at hk2
     cases hk2
    ·have:=(hc k hk2).2 i (by simpa [gN] using h5)
     rw [hL] at this
     cases this
 ·intro q it hq
  by_cases hn:it=.gone
  ·exact .inl hn
  ·right
   have h1:=cZ (·[q]?) hM
   simp only [cY,List.getElem?_zipIdx,hq,eO] at h1
   have h1':wK C ops i (0 + q)=some it:=by
    cases it <;> first | exact absurd rfl hn | (simpa using h1)
   rw [gt] at h1'
   unfold wK at h1'
   cases he:C.ci[q]? with
   | none=>rw [he] at h1'; cases h1'
   | some e =>
    rw [he] at h1'
    simp only at h1'
    split at h1'
    case h_1=>cases h1'
    rename_i hcond
    simp only [cC] at hcond
    obtain ⟨c1,c2⟩:=hcond
    have hlv:lv L e.born=true:=by
     cases hb:e.born with
     | none=>rfl
     | some b =>
      rw [hb] at c1
      exact hon b (by rw [<- hoi]; simpa [gN] using c1)
    have late:∀ k,(Nat.beq k i || (onI ops k).contains i)=true -> L k=false:=fun k hk=>by
     simp only [fc] at hk
     rcases hk with hk | hk
     ·rw [dS hk]; exact hL
     ·cases hLk:L k with
      | false=>rfl
      | true =>
       have:=(hc k hLk).2 i (by simpa [gN] using hk)
       rw [hL] at this
       cases this
    have hlk:lk L e.kill=false:=by
     cases hkk:e.kill with
     | none=>rfl
     | some k=>rw [hkk] at c2; exact late k c2
    rw [KT he hlv hlk]
    congr 1
    unfold CI.cur
    cases hu:e.upd with
    | none=>rw [hu] at h1'; simpa using h1'
    | some x =>
     obtain ⟨u,it'⟩:=x
     rw [hu] at h1'
     simp only at h1' ⊢
     cases hcu:(onI ops i).contains u with
     | true =>
      rw [hcu] at h1'
      have hLu:=hon u (by rw [<- hoi]; simpa [gN] using hcu)
      rw [hLu]
      simpa using h1'
     | false =>
      rw [hcu] at h1'
      simp only at h1'
      split at h1'
      ·rename_i hlate
       have hLu:L u=false:=by
        rcases fc _ _ ▸ hlate with hl | hl
        ·exact late u hl
        ·cases hLk:L u with
         | false=>rfl
         | true =>
          have:=tP hc (hc u hLk).2 i (gN.1 hl)
          rw [hL] at this
          cases this
       rw [hLu]
       simpa using h1'
      ·cases h1'
theorem zL (hk:Chk C ops) {i:Nat} {o:Oper} (hi:ops[i]? = some o) {F:List (Nat × SC)} (hF:∀ e,e ∈ F ↔ e ∈ C.FL ops L) (M:List br):∀ e ∈ C.FL ops (i7 L i),e ∈ (St.put o.dst (C.x i) ⟨F,M⟩).F:=by
 rintro ⟨t,y⟩ he
 rw [vu] at he
 have n1:=hk.nodup
 rcases he with ⟨j,oj,hj,hLj,hd,rfl⟩ | he
 ·by_cases e:j=i
  ·subst e
   rw [hi] at hj
   cases hj
   rw [hd]
   simp [St.put]
  ·have hLj':L j=true:=by simpa [i7,e] using hLj
   have hm:(t,C.x j) ∈ C.FL ops L:=vu.2 (.inl ⟨j,oj,hj,hLj',hd,rfl⟩)
   cases hdo:o.dst with
   | none=>simpa [St.put] using (hF _).2 hm
   | some d =>
    have hne:t ≠ d:=fun e2=>by
     subst e2
     refine e ?_
     have key:∀ (l:List Oper) (i j:Nat) (a b:Oper),(l.filterMap (·.dst)).Nodup -> l[i]? = some a -> l[j]? = some b -> a.dst=some t -> b.dst=some t -> i=j:=by
      intro l
      induction l with
      | nil=>intro i j a b _ h; simp at h
      | cons x l ih =>
       intro i j a b hn h1 h2 h3 h4
       cases i with
       | zero =>
        cases j with
        | zero=>rfl
        | succ j =>
         simp at h1 h2
         subst h1
         rw [List.filterMap_cons,h3] at hn
         simp only [oM] at hn
         exact absurd (oP.2 ⟨b,dC h2,h4⟩) hn.1
       | succ i =>
        cases j with
        | zero =>
         simp at h1 h2
         subst h2
         rw [List.filterMap_cons,h4] at hn
         simp only [oM] at hn
         exact absurd (oP.2 ⟨a,dC h1,h3⟩) hn.1
        | succ j =>
         simp at h1 h2
         have hn':(l.filterMap (·.dst)).Nodup:=by
          rw [List.filterMap_cons] at hn
          cases hx:x.dst with
          | none=>simpa [hx] using hn
          | some _=>rw [hx] at hn; exact (oM.1 hn).2
         rw [ih i j a b hn' h1 h2 h3 h4]
     exact key ops j i oj o n1 hj hi hd hdo
    simp only [St.put,eh,ga]
    refine .inr ⟨(hF _).2 hm,?_⟩
    cases hb:Nat.beq t d with
    | false=>rfl
    | true=>exact absurd (dS hb) hne
 ·obtain ⟨he,hnd⟩:=he
  have hnot:∀ (k:Nat) (ok:Oper),ops[k]? = some ok -> i7 L i k=true -> ok.dst ≠ some t:=fun k ok h1 h2 h3=>by
   have:=sd.2 ⟨k,ok,h1,h2,h3⟩
   rw [hnd] at this
   cases this
  have hm:(t,y) ∈ C.FL ops L:=vu.2 (.inr ⟨he,by
   cases hdd:wX ops L t with
   | false=>rfl
   | true =>
    exfalso
    obtain ⟨k,ok,h1,h2,h3⟩:=sd.1 hdd
    refine hnot k ok h1 ?_ h3
    unfold i7
    split
    ·rfl
    ·exact h2⟩)
  cases hdo:o.dst with
  | none=>simpa [St.put] using (hF _).2 hm
  | some d =>
   have hne:t ≠ d:=fun e2=>by
    subst e2
    exact hnot i o hi (by simp [i7]) hdo
   simp only [St.put,eh,ga]
   refine .inr ⟨(hF _).2 hm,?_⟩
   cases hb:Nat.beq t d with
   | false=>rfl
   | true=>exact absurd (dS hb) hne
theorem pc : ∀ {K:List Nat} {M:List br} {i:Nat},i ∉ K -> (ny M K)[i]? = M[i]?
 | [],_,_,_=>rfl
 | k :: K,M,i,h=>by
  simp only [eh,not_or] at h
  show (ny (M.set k .gone) K)[i]? = _
  rw [pc h.2,dT,if_neg (Ne.symm h.1)]
theorem Gz {M:List br} {p:Nat} {it:br}:(z8 M p it)[p]? = some it:=by
 unfold z8
 split
 ·rename_i h; simp [h]
 ·rename_i h
  have hl:(M ++ List.replicate (p - M.length) br.gone).length=p:=by simp; omega
  rw [oC (by omega),hl]
  simp
theorem Ec {M:List br} {p:Nat} {it jt:br} {i:Nat} (h:i ≠ p) (hi:M[i]? = some jt):(z8 M p it)[i]? = some jt:=by
 unfold z8
 have hlt:=(cg.1 hi).1
 split
 ·rw [dT,if_neg (Ne.symm h)]; exact hi
 ·rw [fE,mV hlt]; exact hi
theorem lV {i q:Nat}:q ∈ iT C i ↔ ∃ e,C.ci[q]? = some e /\ e.born=some i:=by
 unfold iT
 rw [cP]
 constructor
 ·rintro ⟨⟨e,q'⟩,h,rfl⟩
  rw [ga,kg] at h
  obtain ⟨h1,h2⟩:=h
  simp only at h1 h2
  cases hb:e.born with
  | none=>rw [hb] at h2; cases h2
  | some b=>rw [hb] at h2; exact ⟨e,h1,by rw [dS h2] at hb; exact hb⟩
 ·rintro ⟨e,h1,h2⟩
  exact ⟨(e,q),ga.2 ⟨kg.2 h1,by simp [h2]⟩,rfl⟩
theorem AF {i q:Nat}:q ∈ iM C i ↔ ∃ e,C.ci[q]? = some e /\ e.kill=some i:=by
 unfold iM
 rw [cP]
 constructor
 ·rintro ⟨⟨e,q'⟩,h,rfl⟩
  rw [ga,kg] at h
  obtain ⟨h1,h2⟩:=h
  simp only at h1 h2
  cases hb:e.kill with
  | none=>rw [hb] at h2; cases h2
  | some b=>rw [hb] at h2; exact ⟨e,h1,by rw [dS h2] at hb; exact hb⟩
 ·rintro ⟨e,h1,h2⟩
  exact ⟨(e,q),ga.2 ⟨kg.2 h1,by simp [h2]⟩,rfl⟩
theorem Cq {i q:Nat}:q ∈ mn C i ↔ ∃ e it',C.ci[q]? = some e /\ e.upd=some (i,it'):=by
 unfold mn
 rw [cP]
 constructor
 ·rintro ⟨⟨e,q'⟩,h,rfl⟩
  rw [ga,kg] at h
  obtain ⟨h1,h2⟩:=h
  simp only at h1 h2
  cases hb:e.upd with
  | none=>rw [hb] at h2; cases h2
  | some b=>obtain ⟨b,it'⟩:=b; rw [hb] at h2; exact ⟨e,it',h1,by rw [dS h2] at hb; exact hb⟩
 ·rintro ⟨e,it',h1,h2⟩
  exact ⟨(e,q),ga.2 ⟨kg.2 h1,by simp [h2]⟩,rfl⟩
theorem zJ {i q:Nat} {it:br} (h:(C.ML (i7 L i))[q]? = some it) (hn:it ≠ .gone) (hu:q ∉ mn C i):q ∉ iM C i /\ ((∃ e,C.ci[q]? = some e /\ e.born=some i /\ it=e.cur (i7 L i)) \/ (q ∉ iT C i /\ (C.ML L)[q]? = some it)):=by
 obtain ⟨e,he,h1,h2,h3⟩:=zI h hn
 have hki:q ∉ iM C i:=fun hk=>by
  obtain ⟨e',he',hk'⟩:=AF.1 hk
  rw [he] at he'
  cases he'
  rw [hk'] at h2
  simp [lk,i7] at h2
 refine ⟨hki,?_⟩
 have hlk:lk L e.kill=false:=by
  cases hk:e.kill with
  | none=>rfl
  | some k =>
   have hne:k ≠ i:=fun e2=>hki (AF.2 ⟨e,he,by rw [hk,e2]⟩)
   rw [hk] at h2
   simpa [lk,i7,hne] using h2
 by_cases hb:e.born=some i
 ·exact .inl ⟨e,he,hb,h3⟩
 ·right
  refine ⟨fun hq=>?_,?_⟩
  ·obtain ⟨e',he',hb'⟩:=lV.1 hq
   rw [he] at he'
   cases he'
   exact hb hb'
  ·have hlv:lv L e.born=true:=by
    cases hbb:e.born with
    | none=>rfl
    | some b =>
     have hne:b ≠ i:=fun e2=>hb (by rw [hbb,e2])
     rw [hbb] at h1
     simpa [lv,i7,hne] using h1
   rw [KT he hlv hlk,h3]
   congr 1
   unfold CI.cur
   cases hup:e.upd with
   | none=>rfl
   | some x =>
    obtain ⟨u,it'⟩:=x
    have hne:u ≠ i:=fun e2=>hu (Cq.2 ⟨e,it',he,by rw [hup,e2]⟩)
    simp [i7,hne]
theorem Bv {S:St} {p:Nat -> Bool} (h1:∀ e ∈ S.F,∀ r ∈ e.2.refs,p r=true) (h2:∀ it ∈ S.M,∀ r ∈ it.refs,p r=true):S.refsAll p=true:=by
 simp only [St.refsAll,cC,cI]
 exact ⟨fun e he r hr=>h1 e he r hr,fun it hi r hr=>h2 it hi r hr⟩
theorem LU (hk:Chk C ops) (hc:i6 ops L) {q i:Nat} {e:CI} (he:C.ci[q]? = some e) (hb:e.born=some i) (hL:L i=false):(⟨C.FL ops L,C.ML L⟩:St).refsAll (fun r=>!(Nat.beq r q))=true:=by
 have key:∀ (j:Option Nat) (r:Nat),(∀ k,j=some k -> L k=true) -> uh C ops j r=true -> (!(Nat.beq r q))=true:=fun j r hj hr=>by
  cases hrq:Nat.beq r q with
  | false=>rfl
  | true =>
   have:=dS hrq
   subst this
   have:=Lc hc hj hr he hb
   rw [hL] at this
   cases this
 refine Bv ?_ ?_
 ·rintro ⟨t,y⟩ hm r hr
  rcases vu.1 hm with ⟨j,o,hj,hLj,hd,rfl⟩ | hm
  ·exact key (some j) r (fun k e=>by cases e; exact hLj) (hk.refsX j o hj (by rw [hd]; simp) r hr)
  ·exact key none r (fun k e=>by cases e) (hk.refs0 _ hm.1 r hr)
 ·intro it hit r hr
  obtain ⟨q',hq'⟩:=iB hit
  by_cases hn:it=.gone
  ·subst hn; simp [br.refs] at hr
  ·obtain ⟨e',he',h1,h2,h3⟩:=zI hq' hn
   subst h3
   have hmem:=dC he'
   have hborn:∀ k,e'.born=some k -> L k=true:=fun k hk'=>by rw [hk'] at h1; exact h1
   unfold CI.cur at hr
   split at hr
   ·rename_i u it' hu
    split at hr
    ·rename_i hLu
     exact key (some u) r (fun k e=>by cases e; exact hLu) ((hk.refsU e' hmem u it' hu).1 r hr)
    ·exact key e'.born r hborn (hk.refsM e' hmem r hr)
   ·exact key e'.born r hborn (hk.refsM e' hmem r hr)
theorem nw : ∀ {K:List Nat} {M:List br} {i:Nat},i ∉ K -> (ny M K)[i]? = M[i]?
 | [],_,_,_=>rfl
 | k :: K,M,i,h=>by
  simp only [eh,not_or] at h
  show (ny (M.set k .gone) K)[i]? = _
  rw [nw h.2,dT,if_neg (Ne.symm h.1)]
theorem dJ.updS {S:St} {a:Act} {w w':World} {g g':Gh} {hs:Nat -> Value} (h:dJ c S a w g hs) {us:List (Nat × br)} (hu:∀ p ∈ us,∃ it,S.M[p.1]? = some it /\ it.fz=false) (hf:∀ p ∈ us,p.2.fz=false) (he:Eff hs (us.map (·.1)) w g w' g') (hun:∀ q ∈ us.map (·.1),∀ b,fW (hs q) b -> g' b=none) (ho:∀ p ∈ us,p.2.ok g' hs w' (hs p.1)):dJ c ⟨S.F,m9 S.M us⟩ a w' g' hs:=by
 have hus:fF S (us.map (·.1))=true:=by
  unfold fF
  rw [cI]
  intro k hk
  obtain ⟨p,hp,rfl⟩:=cP.1 hk
  obtain ⟨it,h1,h2⟩:=hu p hp
  simp only [h1,h2,Bool.not_false]
 have h1:=h.eff (h':=undef) (p:=none) he trivial rfl hus
 have hold:∀ (i:Nat) (it:br),(m9 S.M us)[i]? = some it -> it ≠ .gone -> ∃ x,S.M[i]? = some x /\ x ≠ .gone /\ (it.fz=false -> x.fz=false):=fun i it hi hn=>by
  rcases lG hi with ⟨p,hp,rfl,rfl⟩ | ⟨_,h2⟩
  ·obtain ⟨x,h3,h4⟩:=hu p hp
   exact ⟨x,h3,dy h4,fun _=>h4⟩
  ·exact ⟨it,h2,hn,fun h=>h⟩
 refine ⟨h1.size,h1.defers,h1.base,h1.slots,fun i it hi=>?_,fun i j it jt hij hi hj hfi hnj=>?_,fun i it hi hn b hb=>?_⟩
 ·rcases lG hi with ⟨p,hp,rfl,rfl⟩ | ⟨h2,h3⟩
  ·exact ho p hp
  ·exact h1.items i it (by show (ny S.M _)[i]? = _; rw [nw h2]; exact h3)
 ·obtain ⟨x,x1,_,x2⟩:=hold i it hi (dy hfi)
  obtain ⟨y,y1,y2,_⟩:=hold j jt hj hnj
  exact h.sep i j x y hij x1 y1 (x2 hfi) y2
 ·rcases lG hi with ⟨p,hp,rfl,rfl⟩ | ⟨h2,h3⟩
  ·obtain ⟨x,x1,x2⟩:=hu p hp
   obtain ⟨m1,m2⟩:=h.mine p.1 x x1 (dy x2) b hb
   exact ⟨gv m1 he.size,fun _=>⟨(m2 x2).1,hun p.1 (cP.2 ⟨p,hp,rfl⟩) b hb⟩⟩
  ·exact h1.mine i it (by show (ny S.M _)[i]? = _; rw [nw h2]; exact h3) hn b hb
theorem uO {M:List br} {S:St} {F:List (Nat × SC)} (h:pO M S.M) {K:List Nat} (hu:fF S K=true):fF ⟨F,M⟩ K=true:=by
 unfold fF at hu ⊢
 rw [cI] at hu ⊢
 intro k hk
 have:=hu k hk
 cases hm:S.M[k]? with
 | none=>rw [hm] at this; cases this
 | some it =>
  rw [hm] at this
  rcases h k it hm with rfl | h1
  ·cases this
  ·simp only
   rw [h1]
   exact this
variable {n:Nat}
theorem xM (hk:Chk C ops) (hc:i6 ops L) (hn:c.n=n) (hd:(ops.all fun o=>match o.dst with | some d=>Nat.blt d n | none=>true)=true) {i:Nat} {o:Oper} (hi:ops[i]? = some o) (hL:L i=false) (hon:∀ j ∈ onE o,L j=true) 
  {a:Act} {w:World} {g:Gh} {hs':Nat -> Value} (h:dJ c ⟨C.FL ops L,C.ML L⟩ a w g hs') {S:St} {K:List Nat} {p:Option Nat} (hS:dJ c S a w g hs') (f2:pO (C.ML L) S.M) (hw:dX ops.toArray S.F o=some true)
  (hm:MT c S o (C.x i) K (p.bind fun q=>(C.ci[q]?).map fun e=>(q,e.it))) (hkk:iM C i=K) (hbb:iT C i=p.toList) (huu:mn C i=[]) (huse:fF S K=true) {N Z:Po} (hN:∀ a' w',Ok c ⟨C.FL ops (i7 L i),C.ML (i7 L i)⟩ a' w' -> N a' w') :
  if Region.wanted o (yielded ops.toArray a.tmps)=true then o.wp Tryz.prog a w N (gm c Z) else N (a.put o.dst undef) w:=by
 have hdst:∀ d,o.dst=some d -> d < c.n:=fun d e=>by
  have:=cI.1 hd o (dC hi)
  rw [e] at this
  rw [hn]
  exact dM this
 rw [if_pos (dU hS hw)]
 have hP:∀ q,p=some q -> ∃ e,C.ci[q]? = some e /\ e.born=some i:=fun q e=>lV.1 (by rw [hbb,e]; simp)
 refine hm a w g hs' hS N Z fun v w' g' h' h1 h3 h4=>hN _ _ ⟨g',uI hs' (p.bind fun q=>(C.ci[q]?).map fun e=>(q,e.it)) h',?_⟩
 have hr:oY ⟨C.FL ops L,C.ML L⟩ (p.bind fun q=>(C.ci[q]?).map fun e=>(q,e.it))=true:=by
  cases p with
  | none=>rfl
  | some q =>
   obtain ⟨e,he,hb⟩:=hP q rfl
   simp only [Option.bind_some,he,eO]
   exact LU hk hc he hb hL
 have he:=h.eff h1 h4 hr (uO (F:=C.FL ops L) f2 huse)
 have hput:=he.put (dst:=o.dst) (x:=C.x i) (v:=v) hdst (fun _ _=>h3)
 refine gZ ?_ ?_ hput
 ·exact zL hk hi (F:=C.FL ops L) (fun _=>Iff.rfl) _
 ·intro q it hq
  by_cases hg:it=.gone
  ·exact .inl hg
  right
  obtain ⟨k1,k2⟩:=zJ hq hg (by rw [huu]; simp)
  rw [hkk] at k1
  have hMe:(St.put o.dst (C.x i) ⟨C.FL ops L,my (C.ML L) K (p.bind fun q=>(C.ci[q]?).map fun e=>(q,e.it))⟩).M=my (C.ML L) K (p.bind fun q=>(C.ci[q]?).map fun e=>(q,e.it)):=by
   cases o.dst <;> rfl
  rw [hMe]
  rcases k2 with ⟨e,he',hb,hit⟩ | ⟨hnb,hML⟩
  ·have hqb:q ∈ iT C i:=lV.2 ⟨e,he',hb⟩
   rw [hbb] at hqb
   cases p with
   | none=>simp at hqb
   | some q' =>
    simp at hqb
    subst hqb
    simp only [Option.bind_some,he',eO,my]
    rw [Gz,hit]
    congr 1
    unfold CI.cur
    cases hup:e.upd with
    | none=>rfl
    | some x =>
     obtain ⟨u,it'⟩:=x
     have hui:u ≠ i:=fun e2=>by
      have:q ∈ mn C i:=Cq.2 ⟨e,it',he',by rw [hup,e2]⟩
      rw [huu] at this
      simp at this
     have hLu:L u=false:=by
      cases hLu:L u with
      | false=>rfl
      | true =>
       have:=(hc u hLu).2 i ((hk.refsU e (dC he') u it' hup).2 i hb)
       rw [hL] at this
       cases this
     simp [i7,hui,hLu]
  ·cases p with
   | none =>
    show (ny (C.ML L) K)[q]? = some it
    rw [pc k1]
    exact hML
   | some q' =>
    obtain ⟨e,he',hb⟩:=hP q' rfl
    simp only [Option.bind_some,he',eO,my]
    have hne:q ≠ q':=fun e2=>hnb (by rw [hbb,e2]; simp)
    exact Ec hne (by rw [pc k1]; exact hML)
theorem CC (hk:Chk C ops) (hc:i6 ops L) (hn:c.n=n) (hd:(ops.all fun o=>match o.dst with | some d=>Nat.blt d n | none=>true)=true) {i:Nat} {o:Oper} (hi:ops[i]? = some o) (hL:L i=false) (hon:∀ j ∈ onE o,L j=true) (hs:eJ c C ops i o)
  {a:Act} {w:World} (h:Ok c ⟨C.FL ops L,C.ML L⟩ a w) {N Z:Po} (hN:∀ a' w',Ok c ⟨C.FL ops (i7 L i),C.ML (i7 L i)⟩ a' w' -> N a' w') :
  if Region.wanted o (yielded ops.toArray a.tmps)=true then o.wp Tryz.prog a w N (gm c Z) else N (a.put o.dst undef) w:=by
 obtain ⟨g,hs',h⟩:=h
 have hdst:∀ d,o.dst=some d -> d < c.n:=fun d e=>by
  have:=cI.1 hd o (dC hi)
  rw [e] at this
  rw [hn]
  exact dM this
 cases hs with
 | mt S K p hf hw hm hkk hbb huu huse =>
  obtain ⟨f1,f2⟩:=lQ hc hi hL hon hf
  exact xM hk hc hn hd hi hL hon h (gZ f1 f2 h) f2 hw hm hkk hbb huu huse hN
 | two u0 S S' hf hf' hw hw' hm hm' hkk hbb huu =>
  cases hu0:L u0 with
  | false =>
   obtain ⟨f1,f2⟩:=lQ (C:=C.un u0) hc hi hL hon hf
   rw [Cg hu0] at f2
   exact xM (K:=[]) (p:=none) hk hc hn hd hi hL hon h (gZ (S1:=⟨C.FL ops L,C.ML L⟩) f1 f2 h) f2 hw hm hkk hbb huu rfl hN
  | true =>
   obtain ⟨f1,f2⟩:=lQ (C:=C.did u0) hc hi hL hon hf'
   rw [Bg hu0] at f2
   exact xM (K:=[]) (p:=none) hk hc hn hd hi hL hon h (gZ (S1:=⟨C.FL ops L,C.ML L⟩) f1 f2 h) f2 hw' hm' hkk hbb huu rfl hN
 | mu S q e it' he heu hf hw hm hkk hbb huu hq h1 h2 hd0 =>
  obtain ⟨f1,f2⟩:=lQ hc hi hL hon hf
  have hS:dJ c S a w g hs':=gZ f1 f2 h
  rw [if_pos (dU hS hw)]
  have hML:(C.ML L)[q]? = some e.it:=(f2 q _ hq).resolve_left (dy h1)
  refine hm a w g hs' hS N Z fun v w' hg' hit=>hN _ _ ⟨g,hs',?_⟩
  have hup:=h.upd (i:=q) (it:=e.it) (it':=it') hML h1 h2 hg' hit
  have hput:=hup.put (dst:=o.dst) (x:=C.x i) (v:=v) hdst (fun d e=>by rw [hd0] at e; cases e)
  refine gZ ?_ ?_ hput
  ·exact zL hk hi (F:=C.FL ops L) (fun _=>Iff.rfl) _
  ·intro q' it hq'
   by_cases hg:it=.gone
   ·exact .inl hg
   right
   have hMe:(St.put o.dst (C.x i) ⟨C.FL ops L,(C.ML L).set q it'⟩).M=(C.ML L).set q it':=by
    cases o.dst <;> rfl
   rw [hMe,dT]
   by_cases e2:q=q'
   ·subst e2
    rw [if_pos rfl,if_pos (cg.1 hML).1]
    obtain ⟨e',he',_,_,h7⟩:=zI hq' hg
    rw [he] at he'
    cases he'
    rw [h7]
    unfold CI.cur
    rw [heu]
    simp [i7]
   ·rw [if_neg e2]
    obtain ⟨k1,k2⟩:=zJ hq' hg (by rw [huu]; simp; exact Ne.symm e2)
    rcases k2 with ⟨e3,he3,hb3,_⟩ | ⟨_,h8⟩
    ·have:=lV.2 ⟨e3,he3,hb3⟩
     rw [hbb] at this
     simp at this
    ·exact h8
 | me S us hf hw hm hkk hbb huu huq =>
  obtain ⟨f1,f2⟩:=lQ hc hi hL hon hf
  have hS:dJ c S a w g hs':=gZ f1 f2 h
  rw [if_pos (dU hS hw)]
  have hq:=v6 huq
  have hML:∀ p ∈ us,∃ it,(C.ML L)[p.1]? = some it /\ it.fz=false:=fun p hp=>by
   obtain ⟨e,_,_,e3,e4,_⟩:=hq p hp
   exact ⟨e.it,(f2 p.1 _ e3).resolve_left (dy e4),e4⟩
  refine hm a w g hs' hS N Z fun v w' g' h1 h2 h3 h4=>hN _ _ ⟨g',hs',?_⟩
  have hup:=h.updS hML (fun p hp=>by obtain ⟨e,_,_,_,_,e5⟩:=hq p hp; exact e5) h1 h2 h4
  have hput:=hup.put (dst:=o.dst) (x:=C.x i) (v:=v) hdst (fun _ _=>h3)
  refine gZ ?_ ?_ hput
  ·exact zL hk hi (F:=C.FL ops L) (fun _=>Iff.rfl) _
  ·intro q' it hq'
   by_cases hg:it=.gone
   ·exact .inl hg
   right
   have hMe:(St.put o.dst (C.x i) ⟨C.FL ops L,m9 (C.ML L) us⟩).M=m9 (C.ML L) us:=by
    cases o.dst <;> rfl
   rw [hMe]
   by_cases e2:q' ∈ us.map (·.1)
   ·obtain ⟨e',he',_,_,h7⟩:=zI hq' hg
    have hlt:q' < (m9 (C.ML L) us).length:=by
     rw [wk]
     obtain ⟨p,hp,rfl⟩:=cP.1 e2
     obtain ⟨_,h8,_⟩:=hML p hp
     exact (cg.1 h8).1
    rw [cO hlt]
    rcases lG (cO hlt) with ⟨p,hp,rfl,hit⟩ | ⟨h9,_⟩
    ·obtain ⟨e,e1,e3,_⟩:=hq p hp
     rw [he'] at e1
     cases e1
     rw [<- hit,h7]
     unfold CI.cur
     rw [e3]
     simp [i7]
    ·exact absurd e2 h9
   ·rw [wh e2]
    obtain ⟨k1,k2⟩:=zJ hq' hg (by rw [huu]; exact e2)
    rcases k2 with ⟨e3,he3,hb3,_⟩ | ⟨_,h8⟩
    ·have:=lV.2 ⟨e3,he3,hb3⟩
     rw [hbb] at this
     simp at this
    ·exact h8
 | skip S hf hw hx hkk hbb huu =>
  obtain ⟨f1,f2⟩:=lQ hc hi hL hon hf
  have hS:dJ c S a w g hs':=gZ f1 f2 h
  rw [if_neg (by rw [dU hS hw]; exact oR)]
  refine hN _ _ ⟨g,hs',?_⟩
  have hput:=h.put (dst:=o.dst) (x:=C.x i) (v:=undef) hdst (fun _ _=>by rw [hx]; exact lA)
  refine gZ ?_ ?_ hput
  ·exact zL hk hi (F:=C.FL ops L) (fun _=>Iff.rfl) _
  ·intro q it hq
   by_cases hg:it=.gone
   ·exact .inl hg
   right
   have hMe:(St.put o.dst (C.x i) ⟨C.FL ops L,C.ML L⟩).M=C.ML L:=by cases o.dst <;> rfl
   rw [hMe]
   obtain ⟨k1,k2⟩:=zJ hq hg (by rw [huu]; simp)
   rcases k2 with ⟨e3,he3,hb3,_⟩ | ⟨_,h8⟩
   ·have:=lV.2 ⟨e3,he3,hb3⟩
    rw [hbb] at this
    simp at this
   ·exact h8
end
def LB (listed:Array Bool):Nat -> Bool:=fun i=>listed.getD i false
theorem lH {ops:List Oper} {listed:Array Bool} (hs:listed.size=ops.length) {i:Nat} (h:i ∈ Region.ready .any ops.toArray listed):∃ o,ops[i]? = some o /\ LB listed i=false /\ ∀ j ∈ onE o,LB listed j=true:=by
 unfold Region.ready at h
 rw [ga,d6] at h
 obtain ⟨h1,h2⟩:=h
 simp only [cC,Bool.not_eq_true'] at h2
 obtain ⟨h3,h4⟩:=h2
 have hlt:i < ops.length:=by simpa using h1
 have ho:ops.toArray[i]? = some ops[i]:=by simp [hlt]
 rw [ho] at h4
 refine ⟨ops[i],by simp,?_,fun j hj=>?_⟩
 ·unfold LB
  rw [gz] at h3 ⊢
  have:listed[i]? = some listed[i]:=by simp [hs,hlt]
  rw [this] at h3 ⊢
  exact h3
 ·simp only [eO,Option.getD_some] at h4
  unfold onE at hj
  obtain ⟨e,he,rfl⟩:=cP.1 hj
  obtain ⟨he1,he2⟩:=ga.1 he
  have:=(Array.all_eq_true_iff_forall_mem.1 h4) e (by simpa using he1)
  rw [he2] at this
  simpa [LB] using this
theorem rE {ops:List Oper} {listed:Array Bool} (hs:listed.size=ops.length) (hb:∀ (i:Nat) (o:Oper),ops[i]? = some o -> ∀ j ∈ onE o,j < i) (h:Region.ready .any ops.toArray listed=[]):∀ i,i < ops.length -> LB listed i=true:=by
 intro i
 induction i using Nat.strongRecOn with
 | _ i ih =>
  intro hi
  cases hL:LB listed i with
  | true=>rfl
  | false =>
   exfalso
   have hmem:i ∈ Region.ready .any ops.toArray listed:=by
    unfold Region.ready
    rw [ga,d6]
    refine ⟨by simpa using hi,?_⟩
    have ho:ops.toArray[i]? = some ops[i]:=by simp [hi]
    simp only [ho,eO,Option.getD_some,cC,Bool.not_eq_true']
    constructor
    ·unfold LB at hL
     rw [gz] at hL ⊢
     have:listed[i]? = some listed[i]:=by simp [hs,hi]
     rw [this] at hL ⊢
     exact hL
    ·rw [Array.all_eq_true_iff_forall_mem]
     intro e he
     cases hbind:Region.binds .any e with
     | false=>rfl
     | true =>
      have hj:e.on ∈ onE ops[i]:=cP.2 ⟨e,ga.2 ⟨by simpa using he,hbind⟩,rfl⟩
      have hlt:=hb i ops[i] (by simp [hi]) e.on hj
      have:=ih e.on hlt (by omega)
      simpa [LB] using this
   rw [h] at hmem
   cases hmem
theorem Cc {listed:Array Bool} {i:Nat} (hi:i < listed.size):LB (listed.setIfInBounds i true)=i7 (LB listed) i:=by
 funext j
 unfold LB i7
 simp only [gz,Array.getElem?_setIfInBounds]
 by_cases e:i=j
 ·subst e; simp [hi]
 ·rw [if_neg e,if_neg (Ne.symm e)]
theorem count_set (l:List Bool) (i:Nat) (h:l[i]? = some false):((l.set i true).filter id).length=(l.filter id).length + 1:=by
 induction l generalizing i with
 | nil=>simp at h
 | cons x l ih =>
  cases i with
  | zero=>simp at h; subst h; simp
  | succ i =>
   have:=ih i (by simpa using h)
   cases x <;> simp [this]
theorem wZ (l:List Bool) (h:(l.filter id).length=l.length):∀ b ∈ l,b=true:=fun b hb=>by
 have:=List.length_filter_eq_length_iff.1 h b hb
 simpa using this
section
variable {c:eT} {C:eK} {l:List Oper} {n:Nat} {N:Po}
theorem LP (hk:Chk C l) (hn:c.n=n) (hd:(l.all fun o=>match o.dst with | some d=>Nat.blt d n | none=>true)=true) (hs:kS c C l 0 l) (hN:∀ a w,Ok c ⟨C.FL l (fun i=>Nat.blt i l.length),C.ML (fun i=>Nat.blt i l.length)⟩ a w -> N a w) :
  ∀ (fuel:Nat) (listed:Array Bool) (a:Act) (w:World),listed.size=l.length -> i6 l (LB listed) -> (listed.toList.filter id).length + fuel=l.length -> Ok c ⟨C.FL l (LB listed),C.ML (LB listed)⟩ a w -> wpAny Tryz.prog .any l.toArray (gm c N) fuel listed a w:=by
 have full:∀ listed:Array Bool,listed.size=l.length -> (∀ i,i < l.length -> LB listed i=true) -> LB listed=fun i=>Nat.blt i l.length:=fun listed hsz h=>by
  funext i
  by_cases hi:i < l.length
  ·rw [h i hi]
   exact (Nat.ble_eq_true_of_le hi).symm
  ·have:LB listed i=false:=by
    unfold LB
    rw [gz]
    have:listed[i]? = none:=by simp; omega
    rw [this]
    rfl
   rw [this]
   cases hb:Nat.blt i l.length with
   | false=>rfl
   | true=>exact absurd (dM hb) hi
 intro fuel
 induction fuel with
 | zero =>
  intro listed a w hsz hcl hcnt hok
  have hall:∀ i,i < l.length -> LB listed i=true:=fun i hi=>by
   have hlen:listed.toList.length=l.length:=by simpa using hsz
   have:=wZ listed.toList (by omega) (listed[i]'(by omega)) (by simp)
   unfold LB
   rw [gz]
   simp [hsz,hi,this]
  refine ⟨?_,hN a w (by rw [<- full listed hsz hall]; exact hok)⟩
  cases hr:Region.ready .any l.toArray listed with
  | nil=>rfl
  | cons i r =>
   obtain ⟨o,ho,hL,_⟩:=lH hsz (i:=i) (by rw [hr]; simp)
   rw [hall i (cg.1 ho).1] at hL
   cases hL
 | succ fuel ih =>
  intro listed a w hsz hcl hcnt hok
  refine ⟨fun hr=>hN a w (by rw [<- full listed hsz (rE hsz hk.below hr)]; exact hok),fun i hi=>?_⟩
  obtain ⟨o,ho,hL,hon⟩:=lH hsz hi
  have hlt:=(cg.1 ho).1
  have hst:=m7 hs i o ho
  rw [gt] at hst
  have hset:=Cc (listed:=listed) (i:=i) (by omega)
  have hnext:∀ a' w',Ok c ⟨C.FL l (i7 (LB listed) i),C.ML (i7 (LB listed) i)⟩ a' w' -> wpAny Tryz.prog .any l.toArray (gm c N) fuel (listed.setIfInBounds i true) a' w':=fun a' w' h'=>by
   refine ih _ a' w' (by simpa using hsz) ?_ ?_ (by rw [hset]; exact h')
   ·rw [hset]
    intro j hj
    unfold i7 at hj ⊢
    by_cases e:j=i
    ·subst e
     refine ⟨hlt,fun k hk'=>?_⟩
     rw [uB ho] at hk'
     split
     ·rfl
     ·exact hon k hk'
    ·rw [if_neg e] at hj
     obtain ⟨h1,h2⟩:=hcl j hj
     refine ⟨h1,fun k hk'=>?_⟩
     split
     ·rfl
     ·exact h2 k hk'
   ·rw [Array.toList_setIfInBounds,count_set]
    ·omega
    ·unfold LB at hL
     rw [gz] at hL
     have:listed[i]? = some listed[i]:=by simp [hsz,hlt]
     rw [this] at hL
     simp at hL
     rw [mW,this,hL]
  have:=CC (Z:=N) hk hcl hn hd ho hL hon hst hok hnext
  unfold wpOp
  have ho':l.toArray[i]? = some o:=by simpa using ho
  rw [ho']
  simp only
  split
  ·rename_i hw
   rw [if_pos hw] at this
   exact .inl this
  ·rename_i hw
   rw [if_neg hw] at this
   exact this
theorem vv {S:St} {id:Nat} {E:List (Nat × Po)} {R:Po} (C:eK) (fin:St) (hm:Tryz.prog.follows .mixedOrders=true) (hn:c.n=n) (hk:Fl C l=true) (hd:(l.all fun o=>match o.dst with | some d=>Nat.blt d n | none=>true)=true)
  (h0:jf ⟨C.FL l (fun _=>false),C.ML (fun _=>false)⟩ S=je ⟨C.FL l (fun _=>false),C.ML (fun _=>false)⟩) (hs:kS c C l 0 l)
  (h1:jf fin ⟨C.FL l (fun i=>Nat.blt i l.length),C.ML (fun i=>Nat.blt i l.length)⟩=je fin) (h2:En c fin N):En c S (cwp (.region id l.toArray true) (PQ c N E R)):=fun a w ⟨g,hs',hok⟩=>by
 have hok1:dJ c S a w.drew g hs':=hok.grown (o9 w)
 have hL:LB (Array.replicate l.length false)=fun _=>false:=by
  funext i
  unfold LB
  rw [gz,Array.getElem?_replicate]
  split <;> rfl
 refine Code.wp_mono (fun e a w q=>?_) (wp_region_any (Q:=gm c N) hm (LP (HQ hk) hn hd hs (fun a w h=>h2 a w (sub_ok h1 a w h)) l.toArray.size _ a w.drew (by simp) ?_ ?_ ?_))
 ·cases e <;> first | exact q | exact (q:False).elim
 ·intro i hi
  simp only [f9] at hi
  rw [hL] at hi
  cases hi
 ·simp only [f9,Array.toList_replicate]
  rw [List.filter_replicate_of_neg (by simp)]
  simp
 ·simp only [f9]
  rw [hL]
  exact sub_ok h0 a w.drew ⟨g,hs',hok1⟩
end
section
variable {c:eT} {S:St} {co:gY} {o:Oper}
theorem bX {x:SC} (h:Val c S o x):MT c S o x [] none:=fun a w g hs hk N Z hN=>by
 obtain ⟨v,h1,h2⟩:=h a w g hs hk
 unfold Oper.wp
 rw [h1]
 exact hN v w g undef (Eff.refl hk.base) h2 trivial
theorem KJ {x:SC} (ht:co.ok) (e:evV co S o=some x):MT c S o x [] none:=bX fun a w g hs hk=>uZ ht hk e
theorem rS {p t:Nat} {cells:List At} {x:SC} (hr:((cells.flatMap At.refs).all fun i=>!(Nat.beq i p))=true)
  (H:∀ a w g hs,dJ c S a w g hs -> ∃ cs v,oks g hs cells cs /\ (execOp a.eval o).run Tryz.prog w=.ok (.value v) (w.alloc (.cells cs.toArray t)) /\ ∀ hs':Nat -> Value,hs' p=.pointer (some ⟨w.heap.size,0,none⟩) -> x.ok g hs' v):MT c S o x [] (some (p, .box cells t false)):=fun a w g hs h N Z hN=>by
 obtain ⟨cs,v,h1,h2,h3⟩:=H a w g hs h
 unfold Oper.wp
 rw [h2]
 refine hN v _ g (.pointer (some ⟨w.heap.size,0,none⟩)) ⟨rfl,rfl,rfl,by simp,fun b hb _=>(World.grownBy_alloc w _ none).block b hb (by simp),Gh.le.refl g,fun b o e=>.inl e,fun b o e=>?_⟩ (h3 _ (if_pos rfl)) ⟨⟨w.heap.size,cs,rfl,rQ (fun i hi=>?_) h1,heap_alloc_new w _,fun h=>by cases h⟩,fun b hb=>?_⟩
 ·exact ((World.grownBy_alloc w _ none).block b (h.base.pers.lt e) (by simp)).trans (h.base.pers b o e)
 ·have:=cI.1 hr i hi
  have hne:i ≠ p:=fun e=>by subst e; simp at this
  rw [if_neg hne]
 ·cases hb
  refine ⟨by simp,fun _=>?_, .inl (bP _)⟩
  cases hgb:g w.heap.size with
  | none=>rfl
  | some o=>have:=h.base.pers.lt hgb; omega
theorem Hb (p:Nat) {t:Nat} {ti:TI} (ht:co.ok) (ho:o.op=.alloc t) (h1:co t=some ti):MT c S o (.sv (.one (.ptr p 0))) [] (some (p, .box (ti.zero.map .v) t false)):=by
 have htk:=ht t ti h1
 refine rS ?_ fun a w g hs h=>?_
 ·rw [cI]
  intro i hi
  obtain ⟨x,hx,hi⟩:=ib.1 hi
  obtain ⟨v,_,rfl⟩:=cP.1 hx
  cases hi
 ·obtain ⟨z,hz1,hz2⟩:=htk.run_zero
  have hzc:z.cells=ti.zero.toArray:=by simp [<- hz1]
  refine ⟨ti.zero, .pointer (some ⟨w.heap.size,0,none⟩),uC htk.zc,?_,fun hs' e=>tD e⟩
  have:execOp a.eval o=(do pure (.value (<- Instr.alloc t true (.tuple #[]))):Sem Next):=by unfold execOp; rw [ho]
  rw [this]
  refine gA ?_
  simp only [Instr.alloc,bW,hz2,ce,newVar,newRow,newObj,Sem.run,db,hzc]
  rfl
theorem Ha (p:Nat) {t:Nat} {x:Operand} {s:SV} (ho:o.op=.box t x) (h1:eL S.F x=some (.sv s)) (hj:s ≠ .one .junk) (hr:(((cF s).flatMap At.refs).all fun i=>!(Nat.beq i p))=true):MT c S o (.sv (.one (.ptr p 0))) [] (some (p, .box (cF s) t false)):=by
 refine rS hr fun a w g hs h=>?_
 have hv:=bV h h1
 refine ⟨(a.eval x).cells.toList, .pointer (some ⟨w.heap.size,0,none⟩),jw hj hv,?_,fun hs' e=>tD e⟩
 have:execOp a.eval o=(do pure (.value (<- Instr.box t (a.eval x))):Sem Next):=by unfold execOp; rw [ho]
 rw [this]
 refine gA ?_
 simp [Instr.box,newVar,newRow,newObj,Sem.run]
def LK (te:TI) (len:Nat) (F:List (Nat × SC)) (parts:List (Nat × Operand)):Option (List At):=match Nat.ble (len * te.size) 16777216 && Nat.blt 0 (len * te.size) with
 | true=>match evP F parts with
  | some ps=>wS ((List.range len).map fun i=>(i * te.size,te.size,te.agg)) ((List.range (len * te.size)).map fun j=>.v (te.zero.getD (j % te.size) undef)) ps
  | none=>none
 | false=>none
theorem Ly (p:Nat) {t len el:Nat} {parts:Array (Nat × Operand)} {ti te:TI} {r:List At} (ht:co.ok) (ho:o.op=.buildSlice t len parts) (h1:co t=some ti) (h2:ti.sl=some el) (h3:co el=some te) (e:LK te len S.F parts.toList=some r) (hr:((r.flatMap At.refs).all fun i=>!(Nat.beq i p))=true):MT c S o (.sv (.one (.bsl p len))) [] (some (p, .box r el false)):=by
 refine rS hr fun a w g hs h=>?_
 unfold LK at e
 split at e
 case h_2=>cases e
 rename_i hb
 obtain ⟨b1,b2⟩:=(cC _ _).mp hb
 replace b1:=dM b1
 replace b2:=dM b2
 split at e
 case h_2=>cases e
 rename_i ps hps
 have hu:=fY ((ht t ti h1).sl.trans h2)
 have htk:=ht el te h3
 obtain ⟨z,hz1,hz2⟩:=htk.run_zero
 have hzc:z.cells=te.zero.toArray:=by simp [<- hz1]
 have hp:=u9 h hps
 have gS:0 < te.size:=by
  rcases kn te.size with h0 | h0
  ·rw [h0] at b2; omega
  ·exact h0
 have hz0:oks g hs ((List.range (len * te.size)).map fun j=>.v (te.zero.getD (j % te.size) undef)) ((List.range (len * te.size)).map fun j=>te.zero.getD (j % te.size) undef):=by
  have:=uC (g:=g) (hs:=hs) (l:=(List.range (len * te.size)).map fun j=>te.zero.getD (j % te.size) undef) (by
   rw [cI]
   intro x hx
   obtain ⟨j,hj,rfl⟩:=cP.1 hx
   have hlt:j % te.size < te.zero.length:=by rw [htk.zs]; exact km _ gS
   have:=cI.1 htk.zc (te.zero[j % te.size]) (by simp)
   simpa [List.getD,hlt] using this)
  rw [kk] at this
  exact this
 obtain ⟨us',k1,k2⟩:=pX (place:=fun i=>some (i * te.size,te.size)) (fun i off sz ag hi=>by
  rw [cY] at hi
  cases h3:(List.range len)[i]? with
  | none=>rw [h3] at hi; cases hi
  | some j =>
   have hj:j=i:=by
    have:=(cg.1 h3).2
    simpa using this.symm
   subst hj
   rw [h3] at hi
   simp at hi
   obtain ⟨e1,e2,_⟩:=hi
   subst e1 e2
   rfl) hp hz0 e
 refine ⟨us', .slice (some ⟨w.heap.size,0,none⟩) len len,k2,?_,fun hs' e=>⟨⟨w.heap.size,e,rfl⟩,trivial⟩⟩
 have:execOp a.eval o=(do pure (.value (<- Instr.buildSlice t len (parts.map fun (i,x)=>(i,a.eval x)))):Sem Next):=by unfold execOp; rw [ho]
 rw [this]
 refine gA ?_
 have hpl:(Array.map (fun (x:Nat × Operand)=>(x.1,a.eval x.2)) parts).toList=parts.toList.map fun x=>(x.1,a.eval x.2):=by simp
 have hza:(Array.range (len * te.size)).map (fun j=>te.zero.toArray[j % te.zero.toArray.size]!)=((List.range (len * te.size)).map fun j=>te.zero.getD (j % te.size) undef).toArray:=by
  apply oO.1
  simp only [Array.toList_map,Array.toList_range]
  refine jc fun j _=>?_
  have hlt:j % te.size < te.zero.length:=by rw [htk.zs]; exact km _ gS
  have hlt2:j % te.zero.length < te.zero.length:=by rw [htk.zs] at hlt ⊢; exact hlt
  simp only [f9,htk.zs]
  simp [List.getD,hlt]
 simp only [Instr.buildSlice,bW,run_underlying hu,ce,htk.run_size]
 rw [if_neg (by omega)]
 rw [if_neg (show ¬ len * te.size=0 by omega)]
 simp only [bW,db,ce,hz2,hzc,hza,hpl,k1,newRow,newObj,Sem.run]
 rfl
theorem G6 {t i off ty:Nat} {ti:TI} {x y:Operand} {s:SV} {cells:List At} (ht:co.ok) (ho:o.op=.store t x y) (h1:co t=some ti) (hx:eL S.F x=some (.sv (.one (.ptr i off)))) (hm:S.M[i]? = some (.box cells ty false)) (hy:eL S.F y=some (.sv s)) (hj:s ≠ .one .junk)
  (hb:(Nat.beq (cF s).length ti.size && Nat.ble (off + (cF s).length) cells.length)=true):MU c S o i (.box (cells.take off ++ cF s ++ cells.drop (off + (cF s).length)) ty false):=fun a w g hs h N Z hN=>by
 obtain ⟨b1,b2⟩:=(cC _ _).mp hb
 replace b1:=dS b1
 replace b2:=dM b2
 have hv:=bV h hy
 have hc:=jw hj hv
 have htk:=ht t ti h1
 obtain ⟨⟨b,hb1,hv1⟩,_⟩:=bV h hx
 obtain ⟨b',cs,k1,k2,k3,k4⟩:=h.items i _ hm
 rw [hb1] at k1
 simp at k1
 subst k1
 have l1:=dF hc
 have l2:=dF k2
 have hst:=run_storeCells_at (P:=Tryz.prog) b off ty (a.eval y).cells.toList 0 cs.toArray w k3 (by simp at l1 ⊢; omega) (fun v hv=>(kd hc v hv).one)
 simp only [eG] at hst
 unfold Oper.wp
 have hrun:(execOp a.eval o).run Tryz.prog w=.ok .skip (w.setRow b (cs.take off ++ (a.eval y).cells.toList ++ cs.drop (off + (a.eval y).cells.toList.length)).toArray):=by
  have:execOp a.eval o=(do Instr.storeAt t (a.eval x) (a.eval y); pure .skip:Sem Next):=by unfold execOp; rw [ho]
  rw [this]
  simp only [Instr.storeAt,hv1,Instr.sureAddr,storeVar,bW,db,ce,htk.run_size]
  rw [if_neg (by simp at l1; simp; omega)]
  simp only [hst,ce,db]
 rw [hrun]
 refine hN undef _ ?_ ?_
 ·rw [hb1]
  exact ⟨rfl,rfl,rfl,by simp,fun k hk hne=>setRow_other w b k _ (fun e=>hne (by rw [e]; rfl))⟩
 ·refine ⟨b,_,hb1,?_,setRow_heap w b _ _ _ _ k3,fun h=>by cases h⟩
  have e1:(a.eval y).cells.toList.length=(cF s).length:=l1.symm
  rw [e1]
  exact ie (ie (iH off k2) hc) (iI _ k2)
theorem G9 {b b':Bool} (e:b=b') (h:MT c S o (.sv (.one (.v (.bool b)))) [] none):MT c S o (.sv (.one (.v (.bool b')))) [] none:=e ▸ h
theorem jV {α:Type} {T:Ty α} {l:List α} {K:List Nat} {q e:Nat} (h:MT c S o (.sv (.one (.own q))) K (some (q,bf e T l))):MT c S o (.sv (.one (LS T l))) K none:=fun a w g hs hk N Z hN=>by
 classical
 refine h a w g hs hk N Z fun v w' g' h' h1 h2 h3=>?_
 obtain ⟨⟨cs,r1,r2⟩,hb⟩:=h3
 have hv:v=h':=by
  have:=h2.1
  have e:v=(if q=q then h' else hs q):=this
  rwa [if_pos rfl] at e
 subst hv
 have hbk:∀ b,fW v b ↔ v.ownBlock=some b:=fun b=>jo (ju r1)
 let g2:Gh:=fun x=>if v.ownBlock=some x then w'.heap[x]? else g' x
 have hle:Gh.le g' g2:=fun x o e=>by
  show (if v.ownBlock=some x then _ else g' x)=some o
  by_cases hx:v.ownBlock=some x
  ·have:=(hb x (by rw [hbk]; exact hx)).2.1 rfl
   rw [this] at e
   cases e
  ·rw [if_neg hx]; exact e
 refine hN v w' g2 undef ⟨h1.os,h1.tape,h1.output,h1.size,h1.block,h1.ghle.trans hle,fun b o e=>?_,fun b o e=>?_⟩ (xY r1 r2 hle (fun b hb=>if_pos hb)) trivial
 ·by_cases hx:v.ownBlock=some b
  ·exact .inr ((hb b (by rw [hbk]; exact hx)).2.2)
  ·rw [show g2 b=g' b from if_neg hx] at e
   exact h1.ghnew b o e
 ·by_cases hx:v.ownBlock=some b
  ·rw [show g2 b=w'.heap[b]? from if_pos hx] at e
   exact e
  ·rw [show g2 b=g' b from if_neg hx] at e
   exact h1.pers b o e
def CtI (f:Nat) (ins:List SC) (M:List br) (it:br):Prop:=∀ (w:World) (g:Gh) (hs:Nat -> Value) (args:List Value),pu g w -> dN g hs ins args -> (∀ (i:Nat) (it:br),M[i]? = some it -> E8 g hs (hs i) it) ->
 Calls Tryz.prog f args.toArray w (fun en w'=>∃ v g',en=.returned v /\ j7 (nK 0 w g) w' g' /\ dR v /\ it.ok g' gS w' v /\ ∀ b,fW v b -> b < w'.heap.size /\ w.heap.size <= b /\ g' b=none)
theorem iK {it:br} (p:Nat) {f:Nat} {ins:List SC} {M:List br} (ct:CtI f ins M it) (en:∀ args w,(callFunc f args).run Tryz.prog w=.ok (.enter f args) w) {caps:List Nat} (rn:List Nat) {fo:Operand} {args:Array Operand} {ats:Array TypeId} (hir:it.refs=[])
  (ho:o.op=.call ⟨.value fo,args,ats⟩) (hf:eL S.F fo=some (.sv (.one (.fn f caps)))) (ha:(match rY S.F args.toList with | some l=>some (l ++ caps.map fun i=>.sv (.one (.ptr i 0))) | none=>none)=some (ins.map (SC.ren fun i=>rn.getD i 0)))
  (hM:fzE S.M (fun i=>rn.getD i 0) 0 M=M.map fun it=>some (it.ren fun i=>rn.getD i 0)) (hz:M.all fzB=true) (hcb:caps.all (vU S)=true):MT c S o (.sv (.one (.own p))) [] (some (p,it)):=fun a w g hs h N Z hN=>by
 unfold Oper.wp
 have hfv:a.eval fo=.func (.func f) #[] (caps.map hs).toArray:=(bV h hf).1
 split at ha
 case h_2=>cases ha
 rename_i l' hl
 simp only [Option.some.injEq] at ha
 have h1:=mE h hl
 have hcp:∀ i ∈ caps,∃ b,hs i=.pointer (some ⟨b,0,none⟩):=fun i hi=>by
  have:=cI.1 hcb i hi
  unfold vU at this
  cases hm:S.M[i]? with
  | none=>rw [hm] at this; cases this
  | some it =>
   rw [hm] at this
   cases it <;> try (cases this; done)
   obtain ⟨b,cs,h1,_⟩:=h.items i _ hm
   exact ⟨b,h1⟩
 have h2:dN g hs (caps.map fun i=>SC.sv (.one (.ptr i 0))) (caps.map hs):=by
  clear ha hf hfv hcb
  induction caps with
  | nil=>trivial
  | cons i caps ih =>
   refine ⟨?_,ih (fun j hj=>hcp j (d7 _ hj))⟩
   obtain ⟨b,hb⟩:=hcp i (by simp)
   exact ⟨⟨b,hb,hb⟩,by rw [hb]; trivial⟩
 have h3:=f7 h1 h2
 rw [ha] at h3
 have h4:=ig h3
 have hrun:(execOp a.eval o).run Tryz.prog w=.ok (.enter f ((args.toList.map a.eval) ++ caps.map hs).toArray) w:=by
  unfold execOp
  simp only [ho,resolve,hfv,Deferred.ofValue,bW,db,ce,invoke]
  rw [show (#[] ++ Array.map a.eval args ++ (List.map hs caps).toArray:Array Value)=(args.toList.map a.eval ++ caps.map hs).toArray by simp]
  exact en _ _
 rw [hrun]
 refine (ct w g (fun i=>hs (rn.getD i 0)) _ h.base.pers h4 (fun i it hi=>?_)).mono ?_
 ·have h5:=rX hM i it hi
  rw [gt] at h5
  exact AJ (f:=fun i=>rn.getD i 0) (i:=i) h5 (cI.1 hz it (dC hi)) h
 ·rintro e' w' ⟨v,g',rfl,h5,hcv,h6,h8⟩
  refine hN v w' g' v (jG h5) ⟨?_,?_⟩ ⟨br.ok_hs (fun j hj=>by rw [hir] at hj; cases hj) h6,fun b hb=>?_⟩
  ·show v=(if p=p then v else hs p)
   rw [if_pos rfl]
  ·exact hcv
  ·exact ⟨(h8 b hb).1,fun _=>(h8 b hb).2.2, .inl (h8 b hb).2.1⟩
variable {rest:List Oper} {ops:Array Oper} {N:Po} {n:Nat}
theorem A8 {α:Type} {T:Ty α} {l:List α} {m t e d:Nat} {yt:Nat} {x:Operand} {ti:TI} (op:BinOp) (neg:Bool) (hop:(op=.eql /\ neg=false) \/ (op=.neq /\ neg=true)) (ht:co.ok) (hn:c.n=n) (hw:dX ops S.F o=some true) (ho:o.op=.binOp op t x (.const (.slice none 0 0)) yt) (h1:co t=some ti) (h2:ti.sl=some e)
  (hx:eL S.F x=some (.sv (.one (.sl (slR T l) m)))) (hdst:o.dst=some d) (hd:Nat.blt d n=true) (h:∀ b:Bool,(b=true -> l=[]) -> WL c ops rest (S.put (some d) (.sv (.one (.v (.bool (b != neg)))))) N):WL c ops (o :: rest) S N:=fun a w ⟨g,hs,hk⟩=>by
 unfold wpList
 rw [if_pos (dU hk hw)]
 refine .inl ?_
 unfold Oper.wp
 have hu:=fY ((ht t ti h1).sl.trans h2)
 obtain ⟨⟨⟨ao,n',cap,e1,e2,e3,e4,e5,_⟩,_⟩,_⟩:=bV hk hx
 have hd':d < c.n:=by rw [hn]; exact dM hd
 have hrun:(execOp a.eval o).run Tryz.prog w=.ok (.value (.bool (ao.isNone != neg))) w:=by
  obtain ⟨X,hX⟩:∃ X:Sem Value,X=(do eqGuard op t x (.const (.slice none 0 0)) (a.eval x) (.slice none 0 0); binOp op t (a.eval x) (.slice none 0 0)):=⟨_,rfl⟩
  have e:execOp a.eval o=(do pure (.value (<- X)):Sem Next):=by rw [hX]; unfold execOp; rw [ho]; rfl
  rw [e]
  refine cX ?_
  rw [hX,e1]
  have heq:(Op.equal t (.slice ao n' cap) (.slice none 0 0)).run Tryz.prog w=.ok ao.isNone w:=by
   show (Op.equalIn (9999 + 1) _ _ _).run _ _=_
   rw [Op.equalIn]
   simp only [bW,run_underlying hu,ce]
   cases ao <;> simp
  rcases hop with ⟨rfl,rfl⟩ | ⟨rfl,rfl⟩
  ·have hg:(eqGuard .eql t x (.const (.slice none 0 0)) (.slice ao n' cap) (.slice none 0 0)).run Tryz.prog w=.ok () w:=by simp [eqGuard]
   rw [bW,hg,ce]
   simp only [binOp,bW,heq,ce]
   cases ao <;> simp
  ·have hg:(eqGuard .neq t x (.const (.slice none 0 0)) (.slice ao n' cap) (.slice none 0 0)).run Tryz.prog w=.ok () w:=by simp [eqGuard]
   rw [bW,hg,ce]
   simp only [binOp,bW,heq,ce]
   cases ao <;> simp
 rw [hrun]
 have:=h ao.isNone (fun hb=>by
  have:ao=none:=by cases ao <;> simp at hb ⊢
  have:=e5 this
  exact tV (by omega))
 refine this _ _ ⟨g,hs,?_⟩
 rw [hdst]
 exact hk.put (fun d2 e=>by cases e; exact hd') (fun _ _=>⟨rfl,trivial⟩)
def CtJ {β:Type} (f:Nat) (ins:List SC) (M:List br) (post:β -> Prop) (itf:β -> br):Prop:=∀ (w:World) (g:Gh) (hs:Nat -> Value) (args:List Value),pu g w -> dN g hs ins args -> (∀ (i:Nat) (it:br),M[i]? = some it -> E8 g hs (hs i) it) ->
 Calls Tryz.prog f args.toArray w (fun en w'=>∃ v g' r,en=.returned v /\ post r /\ j7 (nK 0 w g) w' g' /\ dR v /\ (itf r).ok g' gS w' v /\ ∀ b,fW v b -> b < w'.heap.size /\ w.heap.size <= b /\ g' b=none)
theorem CtJ.fun {β:Type} {f:Nat} {ins:List SC} {M:List br} {r:β} {itf:β -> br} (h:CtJ f ins M (fun x=>x=r) itf):CtI f ins M (itf r):=fun w g hs args h1 h2 h3 =>
 (h w g hs args h1 h2 h3).mono fun e w' ⟨v,g',r',e1,e2,e3⟩=>⟨v,g',e1,by subst e2; exact e3⟩
def Ih {β:Type} (c:eT) (rs:Array ResultVar) (post:β -> Prop) (itf:β -> br):Po:=fun a w=>a.defers=c.dfr /\ ∃ v g' r,(vE rs a.tmps).run Tryz.prog w=.ok v w /\ post r /\ j7 c w g' /\ dR v /\ (itf r).ok g' gS w v /\ ∀ b,fW v b -> b < w.heap.size /\ c.w0.heap.size <= b /\ g' b=none
theorem CtJ.body {β:Type} {post:β -> Prop} {itf:β -> br} {f:Nat} {fn:Func} {code:Code} {n:Nat} {rs:Array ResultVar} {ins:List SC} {M:List br} (hf:Tryz.prog.funcs[f]? = some fn) (hb:fn.body=some code) (hn:fn.ntmps=n) (hr:fn.results=rs)
  (hl:Nat.ble ins.length n=true) (h:∀ c:eT,c.n=n -> c.may=(fun _=>False) -> En c ⟨p6 0 ins,M⟩ (cwp code (PQ c (Ih c rs post itf) [] (Ih c rs post itf)))):CtJ f ins M post itf:=fun w g hs args hp ha hm=>by
 have hl:=dM hl
 have hla:=f6 ha
 refine calls_of_wp hf hb (Code.wp_mono (fun ex a w' q=>?_) (h (nK n w g) rfl rfl { tmps:=args.toArray ++ Array.replicate (fn.ntmps - args.toArray.size) undef,defers:=[] } w ⟨g,hs,?_⟩))
 ·have key:Ih (nK n w g) rs post itf a w' -> a.defers=[] /\ ∃ v,(results fn a.tmps).run Tryz.prog w'=.ok v w' /\ ∃ v' g' r',Ending.returned v=.returned v' /\ post r' /\ j7 (nK 0 w g) w' g' /\ dR v' /\ (itf r').ok g' gS w' v' /\ ∀ b,fW v' b -> b < w'.heap.size /\ w.heap.size <= b /\ g' b=none:=fun ⟨h1,v,g',r',h2,h4,h5,h6,h7,h8⟩=>by
   refine ⟨h1,v,?_,v,g',r',rfl,h4,⟨h5.os,h5.tape,h5.output,h5.grows,h5.frame,h5.ghle,h5.ghnew,h5.pers⟩,h6,h7,h8⟩
   subst hr
   exact h2
  cases ex <;> first | exact key q | exact (q:False).elim | exact (q.2:False).elim
 ·refine ⟨?_,rfl,⟨rfl,rfl,rfl,bP _,fun _ _ _=>rfl,Gh.le.refl g,fun b o e=>.inl e,hp⟩,fun t x hx=>?_,fun i it hi=>?_,?_,?_⟩
  ·simp [nK,hn]
   omega
  ·obtain ⟨u,h1,_,h3⟩:=lR ha hx
   simp only [Nat.sub_zero] at h1
   have hlt:=(cg.1 h1).1
   have:(args.toArray ++ Array.replicate (fn.ntmps - args.toArray.size) undef).getD t undef=u:=by
    rw [gz,tW (by simpa using hlt)]
    simp [h1]
   rw [this]
   exact h3
  ·have:=hm i it hi
   cases it <;> try exact this.elim
   rename_i cells ty fz
   cases fz
   ·exact this.elim
   ·obtain ⟨b,cs,h1,h2,h3⟩:=this
    exact ⟨b,cs,h1,h2,hp _ _ h3,fun _=>h3⟩
  ·intro i j it jt _ hi _ hfi
   have:=hm i it hi
   cases it <;> try exact this.elim
   rename_i cells ty fz
   cases fz
   ·exact this.elim
   ·cases hfi
  ·intro i it hi hnn b hb
   clear hnn
   have:=hm i it hi
   cases it <;> try exact this.elim
   rename_i cells ty fz
   cases fz
   ·exact this.elim
   ·obtain ⟨b',cs,h1,h2,h3⟩:=this
    rw [h1] at hb
    cases hb
    exact ⟨hp.lt h3,fun h=>by cases h⟩
theorem CS {tmps:Array Value} {t:Nat} {w:World}:(vE #[.tmp t] tmps).run Tryz.prog w=.ok (tmps.getD t undef) w:=by
 simp [vE]
theorem vA {β:Type} {post:β -> Prop} {itf:β -> br} {t i:Nat} {l:β} (hmay:c.may=fun _=>False) (hl:look t S.F=some (.sv (.one (.own i)))) (hm:S.M[i]? = some (itf l)) (hz:(itf l).fz=false) (hr:(itf l).refs=[]) (hp:post l):En c S (Ih c #[.tmp t] post itf):=fun a w ⟨g,hs,h⟩=>by
 have hv:=h.slots t _ (dZ hl)
 have hv1:a.tmps.getD t undef=hs i:=hv.1
 refine ⟨h.defers,hs i,g,l,by rw [CS,hv1],hp,h.base,hv1 ▸ hv.2,br.ok_hs (fun j hj=>by rw [hr] at hj; cases hj) (h.items i _ hm),fun b hb=>?_⟩
 obtain ⟨m1,m2⟩:=h.mine i _ hm (dy hz) b hb
 obtain ⟨m3,m4⟩:=m2 hz
 rw [hmay] at m3
 exact ⟨m1,m3.resolve_left (fun h=>h),m4⟩
theorem Bf {α:Type} {T:Ty α} {post:List α -> Prop} {e t:Nat} (hl:look t S.F=some (.sv (.one (.v (.slice none 0 0))))) (hp:post []):En c S (Ih c #[.tmp t] post (fun l=>bf e T l)):=fun a w ⟨g,hs,h⟩=>by
 have hv:a.tmps.getD t undef=.slice none 0 0:=(h.slots t _ (dZ hl)).1
 exact ⟨h.defers, .slice none 0 0,g,[],by rw [CS,hv],hp,h.base,trivial,⟨[],World.ownsAt_nil _ _ _,cG.nil⟩,fun b hb=>by cases hb⟩
theorem iz (l:List Nat) {M':List br} (e:rW S.M l=some M') (h:En c ⟨S.F,M'⟩ N):En c S N:=fun a w ⟨g,hs,hk⟩=>by
 obtain ⟨g',hk'⟩:=tI (F:=S.F) e hk
 exact h a w ⟨g',hs,hk'⟩
theorem KI {x x':SC} (ht:co.ok) (e:evV co S o=some x) (hx:∀ a w g hs,dJ c S a w g hs -> ∀ u,SC.ok g hs x u -> SC.ok g hs x' u):MT c S o x' [] none:=bX fun a w g hs hk=>by
 obtain ⟨v,h1,h2⟩:=uZ ht hk e
 exact ⟨v,h1,hx a w g hs hk v h2⟩
theorem CY {α:Type} {T:Ty α} {g:Gh} {hs:Nat -> Value}:∀ {l:List At} {us:List Value} (j:Nat),l[j]? = some (.v (.slice none 0 0)) -> oks g hs l us -> oks g hs (l.set j (LS T ([]:List α))) us
 | [],_,_,e,_=>by simp at e
 | _ :: _,[],_,_,h=>h.elim
 | a :: _,u :: _,0,e,h=>by
  simp at e
  subst e
  have:u=.slice none 0 0:=h.1.1
  subst this
  exact ⟨Hg,h.2.1,h.2.2⟩
 | _ :: _,_ :: _,j + 1,e,h=>⟨h.1,h.2.1,CY j (by simpa using e) h.2.2⟩
end
end
end Go.Proofs.YtmdbjpljlniloaaGreat
namespace Go.Proofs.YtmdbjpljlniloaaGreat
open Go.RowKit Go.ChangeMaps Go.MapKept
set_option maxRecDepth 100000
noncomputable section
section plain
variable {β:Type}
end plain
section
variable {κ α:Type} {enc:κ -> Value} {T:Ty α} {D:List (κ × α)} {es:Array MapEntry} {clock:Nat}
theorem tG.at {g:Gh} {p:Array MapEntry × Nat} (h:tG enc T D g p):D.length=p.1.toList.length /\ (p.1.toList.map (·.born)).Nodup /\ (∀ e ∈ p.1.toList,e.born < p.2) /\ ∀ (j:Nat) (e:MapEntry) (x:κ × α),p.1.toList[j]? = some e -> D[j]? = some x -> e.key=enc x.1 /\ (T.sv x.2).ok g gS e.val:=by
 obtain ⟨D0,⟨h1,h2,h3⟩,h4,h5,h6⟩:=h
 have l1:=cZ List.length h1
 have l2:=cZ List.length h4
 simp only [df] at l1 l2
 refine ⟨by omega,h2.imp (fun h=>by omega),h3,fun j e x he hx=>?_⟩
 have hlt:=(cg.1 he).1
 obtain ⟨y,hy⟩:∃ y,D0[j]? = some y:=⟨D0[j]'(by omega),cO _⟩
 have a1:=cZ (·[j]?) h1
 have a2:=cZ (·[j]?) h4
 simp only [cY,he,hy,hx,eO,Option.some.injEq,Prod.mk.injEq] at a1 a2
 rw [a1.1,a1.2,a2]
 exact ⟨rfl,h6 j y x hy hx⟩
variable {c:eT} {S S1:St} {a:Act} {w:World} {g:Gh} {hs:Nat -> Value} {co:gY} {n:Nat} {o:Oper} {ops:Array Oper} {rest L:List Oper} {N:Po}
theorem dJ.retell (h:dJ c S a w g hs) {i:Nat} {it it':br} (hi:S.M[i]? = some it) (hf:it.fz=false) (hf':it'.fz=false) (ho:it'.ok g hs w (hs i)):dJ c ⟨S.F,S.M.set i it'⟩ a w g hs:=
 h.upd hi hf hf' ⟨rfl,rfl,rfl,bP _,fun _ _ _=>rfl⟩ ho
end
end
end Go.Proofs.YtmdbjpljlniloaaGreat
namespace Go.Proofs.YtmdbjpljlniloaaGreat
open Go.RowKit Go.MapKept
set_option maxRecDepth 100000
noncomputable section
theorem At.ren_ok {g:Gh} {hs:Nat -> Value} {f:Nat -> Nat} {a:At} {u:Value} (h:a.ok g (fun i=>hs (f i)) u):(a.ren f).ok g hs u:=by
 refine ⟨?_,by have:=h.2; cases a <;> exact this⟩
 have h1:=h.1
 cases a <;> simp only [At.raw,At.ren] at h1 ⊢
 case fn _ l=>rw [h1,kk]; rfl
 case pfn _ l =>
  refine ⟨fun p hp=>?_,?_⟩
  ·obtain ⟨q,hq,rfl⟩:=cP.1 hp
   exact h1.1 q hq
  ·rw [h1.2]
   simp only [kk]
   rfl
 all_goals exact h1
theorem uF {g:Gh} {hs:Nat -> Value} {f:Nat -> Nat}:∀ {l:List At} {us:List Value},oks g (fun i=>hs (f i)) l us -> oks g hs (l.map (At.ren f)) us
 | [],[],_=>trivial
 | [],_ :: _,h=>h.elim
 | _ :: _,[],h=>h.elim
 | _ :: _,_ :: _,h=>⟨At.ren_ok h.1,h.2.1,uF h.2.2⟩
theorem SV.ren_ok {g:Gh} {hs:Nat -> Value} {f:Nat -> Nat} {a:SV} {u:Value} (h:a.ok g (fun i=>hs (f i)) u):(a.ren f).ok g hs u:=by
 cases a with
 | one a=>exact At.ren_ok h
 | agg l =>
  obtain ⟨cs,h1,h2⟩:=h
  exact ⟨cs,h1,uF h2⟩
theorem zW {g:Gh} {hs:Nat -> Value} {f:Nat -> Nat}:∀ {l:List SV} {us:List Value},fy g (fun i=>hs (f i)) l us -> fy g hs (l.map (SV.ren f)) us
 | [],[],_=>trivial
 | [],_ :: _,h=>h.elim
 | _ :: _,[],h=>h.elim
 | _ :: _,_ :: _,h=>⟨SV.ren_ok h.1,zW h.2⟩
theorem SC.ren_ok {g:Gh} {hs:Nat -> Value} {f:Nat -> Nat} {a:SC} {u:Value} (h:a.ok g (fun i=>hs (f i)) u):(a.ren f).ok g hs u:=by
 cases a with
 | sv s=>exact SV.ren_ok h
 | tup l =>
  obtain ⟨cs,h1,h2⟩:=h
  exact ⟨cs,h1,zW h2⟩
def br.mv (f:Nat -> Nat):br -> br
 | .box cells ty fz=>.box (cells.map (At.ren f)) ty fz
 | .iter j r=>.iter (f j) r
 | .grid tyo ty s rows link=>.grid tyo ty s rows (match link with
  | some (p,k)=>some (p,f k)
  | none=>none)
 | it=>it
theorem gE {f:Nat -> Nat} {it:br}:(it.mv f).fz=it.fz:=by cases it <;> rfl
theorem iY {f:Nat -> Nat} {it:br}:it.mv f=.gone ↔ it=.gone:=by cases it <;> simp [br.mv]
theorem vr {g:Gh} {hs:Nat -> Value} {f:Nat -> Nat} {w:World} {v:Value} {it:br} (h:it.ok g (fun i=>hs (f i)) w v):(it.mv f).ok g hs w v:=by
 cases it with
 | box cells ty fz =>
  obtain ⟨b,cs,h1,h2,h3⟩:=h
  exact ⟨b,cs,h1,uF h2,h3⟩
 | row _ _ _ _=>exact h
 | map _=>exact h
 | iter _ _=>exact h
 | siter _ _=>exact h
 | ext _=>exact h
 | grid tyo ty s rows link =>
  obtain ⟨us,ocs,h1,h2,h3,h3',h4,h4',hk,h5⟩:=h
  refine ⟨us,ocs,h1,h2,h3,h3',h4,h4',fun p k hl=>?_,h5⟩
  cases link with
  | none=>cases hl
  | some x =>
   obtain ⟨p',k'⟩:=x
   cases hl
   exact hk _ _ rfl
 | gone=>trivial
def mvF (q p:Nat):Nat -> Nat:=fun i=>bif Nat.beq i q then p else i
def Hc (S:St) (q p:Nat):St:=⟨S.F.map fun e=>(e.1,e.2.ren (mvF q p)),z8 ((S.M.set q .gone).map (br.mv (mvF q p))) p ((S.M.getD q .gone).mv (mvF q p))⟩
def Hv (S:St) (p:Nat):Bool:=match S.M[p]? with
 | none=>true
 | some .gone=>true
 | _=>false
section
variable {c:eT} {S S1:St} {a:Act} {w:World} {g:Gh} {hs:Nat -> Value} {co:gY} {n:Nat} {o:Oper} {ops:Array Oper} {rest L:List Oper} {N:Po}
theorem dJ.move (h:dJ c S a w g hs) {q p:Nat} (hne:Nat.beq q p=false) (hp:(Hv S p && S.refsAll (fun i=>!(Nat.beq i p)))=true):dJ c (Hc S q p) a w g (fun i=>if i=p then hs q else hs i):=by
 obtain ⟨hfr,hrf⟩:=(cC _ _).mp hp
 have hqp:q ≠ p:=fun e=>by subst e; simp at hne
 have hH:∀ i,(!(Nat.beq i p))=true -> (fun i=>if i=p then hs q else hs i) (mvF q p i)=hs i:=fun i hi=>by
  have hip:i ≠ p:=fun e=>by subst e; simp at hi
  unfold mvF
  by_cases e:i=q
  ·subst e; simp
  ·have:Nat.beq i q=false:=(by cases hb:Nat.beq i q with | false=>rfl | true=>exact absurd (dS hb) e)
   rw [this]
   simp [hip]
 have hit:∀ (i:Nat) (jt:br),(Hc S q p).M[i]? = some jt -> jt ≠ .gone -> ∃ k kt,S.M[k]? = some kt /\ jt=kt.mv (mvF q p) /\ (if i=p then hs q else hs i)=hs k /\ ((i=p /\ k=q) \/ (i ≠ p /\ k=i /\ i ≠ q)):=fun i jt hi hn=>by
  rcases z7 i jt hi with ⟨rfl,rfl⟩ | ⟨hip,hi | rfl⟩
  ·cases hq:S.M[q]? with
   | none =>
    exfalso; apply hn
    rw [er,hq]
    rfl
   | some kt =>
    refine ⟨q,kt,hq,?_,if_pos rfl, .inl ⟨rfl,rfl⟩⟩
    rw [er,hq]
    rfl
  ·rw [cY] at hi
   cases hk:(S.M.set q .gone)[i]? with
   | none=>rw [hk] at hi; simp at hi
   | some kt =>
    rw [hk] at hi
    simp at hi
    have hiq:i ≠ q:=fun e=>by
     subst e
     rw [dT] at hk
     simp only [if_true] at hk
     split at hk
     ·simp at hk
      subst hk
      exact hn hi.symm
     ·cases hk
    rw [dT,if_neg (Ne.symm hiq)] at hk
    exact ⟨i,kt,hk,hi.symm,if_neg hip, .inr ⟨hip,rfl,hiq⟩⟩
  ·exact absurd rfl hn
 refine ⟨h.size,h.defers,h.base,fun t x hx=>?_,fun i jt hi=>?_,fun i j jt kt hij hi hj hfi hnj b hb=>?_,fun i jt hi hn b hb=>?_⟩
 ·obtain ⟨⟨t',y⟩,hy,hyx⟩:=cP.1 hx
  cases hyx
  exact SC.ren_ok (hs:=fun i=>if i=p then hs q else hs i) (SC.ok_hs (fun i hi=>hH i (sk hrf hy i hi)) (h.slots _ y hy))
 ·by_cases hn:jt=.gone
  ·subst hn; trivial
  ·obtain ⟨k,kt,h1,rfl,h3,_⟩:=hit i jt hi hn
   show br.ok _ _ _ (if i=p then hs q else hs i) _
   rw [h3]
   exact vr (hs:=fun i=>if i=p then hs q else hs i) (br.ok_hs (fun i hi=>hH i (sj hrf h1 i hi)) (h.items k kt h1))
 ·obtain ⟨k,k1,h1,rfl,h3,h4⟩:=hit i jt hi (dy hfi)
  obtain ⟨k',k2,h1',rfl,h3',h4'⟩:=hit j kt hj hnj
  simp only [h3,h3'] at hb ⊢
  rw [gE] at hfi
  exact h.sep k k' k1 k2 (by rcases h4 with ⟨e1,e2⟩ | ⟨e1,e2,e3⟩ <;> rcases h4' with ⟨f1,f2⟩ | ⟨f1,f2,f3⟩ <;> omega) h1 h1' hfi (fun e=>hnj (iY.2 e)) b hb
 ·obtain ⟨k,kt,h1,rfl,h3,_⟩:=hit i jt hi hn
  simp only [h3] at hb
  rw [gE]
  exact h.mine k kt h1 (fun e=>hn (iY.2 e)) b hb
theorem kV (q p:Nat) (hne:Nat.beq q p=false) (hp:(Hv S p && S.refsAll (fun i=>!(Nat.beq i p)))=true) (h:En c (Hc S q p) N):En c S N:=fun a w ⟨_,_,hk⟩=>h a w ⟨_,_,hk.move hne hp⟩
theorem Eu {α:Type} {t p e:Nat} {T:Ty α} (hl:look t S.F=some (.sv (.one (.v (.slice none 0 0))))) (hr:S.refsAll (fun i=>!(Nat.beq i p))=true) (hk:dJ c S a w g hs):∃ hs',dJ c ⟨(t, .sv (.one (.own p))) :: S.F,my S.M [] (some (p,bf e T []))⟩ a w g hs':=by
 have hv:=(hk.slots t _ (dZ hl)).1
 have he:=hk.eff (K:=[]) (p:=some (p,bf e T [])) (h':=.slice none 0 0) (Eff.refl hk.base) ⟨⟨[],World.ownsAt_nil _ _ _,cG.nil⟩,fun b hb=>by cases hb⟩ hr rfl
 refine ⟨_,he.size,he.defers,he.base,fun t' y hy=>?_,he.items,he.sep,he.mine⟩
 rcases eh.1 hy with hy | hy
 ·cases hy
  refine ⟨?_,by rw [hv]; trivial⟩
  show _=(if p=p then _ else hs p)
  rw [if_pos rfl]
  exact hv
 ·exact he.slots t' y hy
theorem iw {α:Type} (t p e:Nat) (T:Ty α) (hl:look t S.F=some (.sv (.one (.v (.slice none 0 0))))) (hr:S.refsAll (fun i=>!(Nat.beq i p))=true)
  (h:En c ⟨(t, .sv (.one (.own p))) :: S.F,my S.M [] (some (p,bf e T []))⟩ N):En c S N:=fun a w ⟨g,_,hk⟩=>by
 obtain ⟨hs',hk'⟩:=Eu hl hr hk
 exact h a w ⟨g,hs',hk'⟩
theorem Bc (t:Nat) {x:SC} (x':SC) (hl:look t S.F=some x) (hx:∀ a w g hs,dJ c S a w g hs -> ∀ u,x.ok g hs u -> x'.ok g hs u) (h:En c ⟨(t,x') :: S.F,S.M⟩ N):En c S N:=fun a w ⟨g,hs,hk⟩=>by
 refine h a w ⟨g,hs,hk.size,hk.defers,hk.base,fun t' y hy=>?_,hk.items,hk.sep,hk.mine⟩
 rcases eh.1 hy with hy | hy
 ·cases hy
  exact hx a w g hs hk _ (hk.slots t _ (dZ hl))
 ·exact hk.slots t' y hy
theorem dn {α:Type} {T:Ty α} {cells:List At} {ty:Nat} {fz:Bool} (i j:Nat) (hm:S.M[i]? = some (.box cells ty fz)) (hj:cells[j]? = some (.v (.slice none 0 0))) (h:En c ⟨S.F,S.M.set i (.box (cells.set j (LS T ([]:List α))) ty fz)⟩ N):En c S N:=fun a w ⟨g,hs,hk⟩=>by
 have hset:∀ (k:Nat) (jt:br),(S.M.set i (.box (cells.set j (LS T ([]:List α))) ty fz))[k]? = some jt -> (k=i /\ jt=.box (cells.set j (LS T ([]:List α))) ty fz) \/ (k ≠ i /\ S.M[k]? = some jt):=fun k jt hk=>by
  rw [dT] at hk
  by_cases e:i=k
  ·rw [if_pos e] at hk
   split at hk
   ·simp at hk; exact .inl ⟨e.symm,hk.symm⟩
   ·cases hk
  ·rw [if_neg e] at hk; exact .inr ⟨Ne.symm e,hk⟩
 have old:∀ (k:Nat) (jt:br),(S.M.set i (.box (cells.set j (LS T ([]:List α))) ty fz))[k]? = some jt -> jt ≠ .gone -> ∃ kt,S.M[k]? = some kt /\ kt.fz=jt.fz /\ kt ≠ .gone:=fun k jt hk hn=>by
  rcases hset k jt hk with ⟨rfl,rfl⟩ | ⟨_,h⟩
  ·exact ⟨_,hm,rfl,by simp⟩
  ·exact ⟨jt,h,rfl,hn⟩
 refine h a w ⟨g,hs,hk.size,hk.defers,hk.base,hk.slots,fun k jt hj'=>?_,fun k l jt lt hkl h1 h2 hf hn=>?_,fun k jt h1 hn=>?_⟩
 ·rcases hset k jt hj' with ⟨rfl,rfl⟩ | ⟨_,h⟩
  ·obtain ⟨b,cs,h1,h2,h3⟩:=hk.items k _ hm
   exact ⟨b,cs,h1,CY j hj h2,h3⟩
  ·exact hk.items k jt h
 ·obtain ⟨kt,a1,a2,a3⟩:=old k jt h1 (dy hf)
  obtain ⟨kt',b1,b2,b3⟩:=old l lt h2 hn
  exact hk.sep k l kt kt' hkl a1 b1 (a2.trans hf) b3
 ·obtain ⟨kt,a1,a2,a3⟩:=old k jt h1 hn
  rw [<- a2]
  exact hk.mine k kt a1 a3
theorem Cp {x y:Operand} {b:TypeId} {t:Nat} {op:BinOp} {k:IntKind} {u v r:Int} (ho:o.op=.binOp op t x y b) (hx:eL S.F x=some (.sv (.one (.v (.int k u))))) (hy:eL S.F y=some (.sv (.one (.v (.int k v))))) (h0:v ≠ 0) (hop:(op=.quo /\ r=k.wrap (Int.tdiv u v)) \/ (op=.rem /\ r=Int.tmod u v)):Val c S o (.sv (.one (.v (.int k r)))):=fun a w g hs h=>by
 have h1:a.eval x=.int k u:=(bV h hx).1
 have h2:a.eval y=.int k v:=(bV h hy).1
 refine ⟨_,?_,rfl,trivial⟩
 have e:execOp a.eval o=(do pure (.value (<- (do eqGuard op t x y (a.eval x) (a.eval y); binOp op t (a.eval x) (a.eval y):Sem Value))):Sem Next):=by unfold execOp; rw [ho]
 rw [e]
 refine cX ?_
 rw [h1,h2]
 rcases hop with ⟨rfl,rfl⟩ | ⟨rfl,rfl⟩
 ·have hg:(eqGuard .quo t x y (.int k u) (.int k v)).run Tryz.prog w=.ok () w:=by simp [eqGuard]
  rw [bW,hg,ce]
  simp [binOp,Op.intDiv,h0]
 ·have hg:(eqGuard .rem t x y (.int k u) (.int k v)).run Tryz.prog w=.ok () w:=by simp [eqGuard]
  rw [bW,hg,ce]
  simp [binOp,Op.intDiv,h0]
theorem IP {x y:Operand} {b:TypeId} {t:Nat} {op:BinOp} {u v r:Bool} (ho:o.op=.binOp op t x y b) (ht:Tryz.prog.underlying t=some .bool) (hx:eL S.F x=some (.sv (.one (.v (.bool u))))) (hy:eL S.F y=some (.sv (.one (.v (.bool v))))) (hop:(op=.eql /\ r=(u == v)) \/ (op=.neq /\ r=(u != v))):Val c S o (.sv (.one (.v (.bool r)))):=fun a w g hs h=>by
 have h1:a.eval x=.bool u:=(bV h hx).1
 have h2:a.eval y=.bool v:=(bV h hy).1
 refine ⟨_,?_,rfl,trivial⟩
 have e:execOp a.eval o=(do pure (.value (<- (do eqGuard op t x y (a.eval x) (a.eval y); binOp op t (a.eval x) (a.eval y):Sem Value))):Sem Next):=by unfold execOp; rw [ho]
 rw [e]
 refine cX ?_
 rw [h1,h2]
 have hu:=run_underlying ht w
 have heq:(Op.equal t (.bool u) (.bool v)).run Tryz.prog w=.ok (u == v) w:=by
  show (Op.equalIn (9999 + 1) _ _ _).run _ _=_
  rw [Op.equalIn]
  simp only [bW,hu,ce]
  simp
 rcases hop with ⟨rfl,rfl⟩ | ⟨rfl,rfl⟩
 ·have hg:(eqGuard .eql t x y (.bool u) (.bool v)).run Tryz.prog w=.ok () w:=by simp [eqGuard]
  rw [bW,hg,ce]
  simp [binOp,heq]
 ·have hg:(eqGuard .neq t x y (.bool u) (.bool v)).run Tryz.prog w=.ok () w:=by simp [eqGuard]
  rw [bW,hg,ce]
  simp [binOp,heq]
  cases u <;> cases v <;> rfl
end
def MTQ {β:Type} (c:eT) (S:St) (o:Oper) (Q:β -> Prop) (x:β -> SC) (p:β -> Option (Nat × br)):Prop:=
 ∀ a w g hs,dJ c S a w g hs -> ∀ N Z:Po,(∀ r,Q r -> ∀ v w' g' h',Eff hs [] w g w' g' -> (x r).ok g' (uI hs (p r) h') v -> G5 hs [] w w' g' h' (p r) -> N (a.put o.dst v) w') -> o.wp Tryz.prog a w N (gm c Z)
section
variable {c:eT} {S S1:St} {a:Act} {w:World} {g:Gh} {hs:Nat -> Value} {co:gY} {n:Nat} {o:Oper} {ops:Array Oper} {rest L:List Oper} {N:Po}
theorem fw {β:Type} {Q:β -> Prop} {x:β -> SC} {p:β -> Option (Nat × br)} (hn:c.n=n) (hw:dX ops S.F o=some true) (hm:MTQ c S o Q x p) (h:∀ r,Q r -> oY S (p r)=true /\ ∃ S1,iA n o.dst (x r) ⟨S.F,my S.M [] (p r)⟩=some S1 /\ WL c ops rest S1 N):WL c ops (o :: rest) S N:=fun a w ⟨g,hs,hk⟩=>by
 unfold wpList
 rw [if_pos (dU hk hw)]
 refine .inl (hm a w g hs hk _ N fun r hq v w' g' h' h1 h3 h4=>?_)
 obtain ⟨hr,S1,e,hW⟩:=h r hq
 exact hW _ _ ⟨g',_,fR (hk.eff h1 h4 hr rfl) hn h3 e⟩
theorem eH {β:Type} {Q:β -> Prop} {x:β -> SC} {f:Nat} {ins:List SC} {M:List br} (ct:Ct f ins M Q x) (en:∀ args w,(callFunc f args).run Tryz.prog w=.ok (.enter f args) w) {caps:List Nat} (rn:List Nat) {fo:Operand} {args:Array Operand} {ats:Array TypeId}
  (ho:o.op=.call ⟨.value fo,args,ats⟩) (hf:eL S.F fo=some (.sv (.one (.fn f caps)))) (ha:(match rY S.F args.toList with | some l=>some (l ++ caps.map fun i=>.sv (.one (.ptr i 0))) | none=>none)=some (ins.map (SC.ren fun i=>rn.getD i 0)))
  (hM:fzE S.M (fun i=>rn.getD i 0) 0 M=M.map fun it=>some (it.ren fun i=>rn.getD i 0)) (hz:M.all fzB=true) (hcl:∀ r,(x r).refs=[]) (hcb:caps.all (vU S)=true):MTQ c S o Q x (fun _=>none):=fun a w g hs h N Z hN=>by
 unfold Oper.wp
 have hfv:a.eval fo=.func (.func f) #[] (caps.map hs).toArray:=(bV h hf).1
 split at ha
 case h_2=>cases ha
 rename_i l hl
 simp only [Option.some.injEq] at ha
 have h1:=mE h hl
 have hcp:∀ i ∈ caps,∃ b,hs i=.pointer (some ⟨b,0,none⟩):=fun i hi=>by
  have:=cI.1 hcb i hi
  unfold vU at this
  cases hm:S.M[i]? with
  | none=>rw [hm] at this; cases this
  | some it =>
   rw [hm] at this
   cases it <;> try (cases this; done)
   obtain ⟨b,cs,h1,_⟩:=h.items i _ hm
   exact ⟨b,h1⟩
 have h2:dN g hs (caps.map fun i=>SC.sv (.one (.ptr i 0))) (caps.map hs):=by
  clear ha hf hfv hcb
  induction caps with
  | nil=>trivial
  | cons i caps ih =>
   refine ⟨?_,ih (fun j hj=>hcp j (d7 _ hj))⟩
   obtain ⟨b,hb⟩:=hcp i (by simp)
   exact ⟨⟨b,hb,hb⟩,by rw [hb]; trivial⟩
 have h3:=f7 h1 h2
 rw [ha] at h3
 have h4:=ig h3
 have hrun:(execOp a.eval o).run Tryz.prog w=.ok (.enter f ((args.toList.map a.eval) ++ caps.map hs).toArray) w:=by
  unfold execOp
  simp only [ho,resolve,hfv,Deferred.ofValue,bW,db,ce,invoke]
  rw [show (#[] ++ Array.map a.eval args ++ (List.map hs caps).toArray:Array Value)=(args.toList.map a.eval ++ caps.map hs).toArray by simp]
  exact en _ _
 rw [hrun]
 refine (ct w g (fun i=>hs (rn.getD i 0)) _ h.base.pers h4 (fun i it hi=>?_)).mono ?_
 ·have h5:=rX hM i it hi
  rw [gt] at h5
  exact AJ h5 (cI.1 hz it (dC hi)) h
 ·rintro e w' ⟨v,g',r,rfl,h5,h6,h7⟩
  exact hN r h5 v w' g' undef (jG h7) (lw (hcl r) h6) trivial
theorem Lx {α:Type} {T:Ty α} (es:List α) {p e m:Nat} (h:MT c S o (.sv (.one (.bsl p m))) [] (some (p, .box (cellsOf T es) e false))) (hT:T.solid) (hz:∀ a,(cF (T.sv a)).length=T.s) (hc:∀ a,(T.sv a).refs=[]) (hlen:m=es.length) (hml:es.length <= 140737488355328):MT c S o (.sv (.one (.own p))) [] (some (p,bf e T es)):=fun a w g hs hk N Z hN=>by
 refine h a w g hs hk N Z fun v w' g' h' h1 h2 h3=>?_
 obtain ⟨⟨b,cs,rfl,k2,k3,_⟩,hb⟩:=h3
 obtain ⟨⟨b',hb',hv⟩,_⟩:=h2
 have hbb:b=b':=by
  have:(if p=p then (Value.pointer (some ⟨b,0,none⟩)) else hs p)=.pointer (some ⟨b',0,none⟩):=hb'
  rw [if_pos rfl] at this
  simpa using this
 subst hbb hlen
 have hrow:=nf hT hz hc k2
 have hown:w'.ownsAt e T.s (.slice (some ⟨b,0,none⟩) es.length es.length) es.length cs:=World.ownsRow.at (base:=0) ⟨hrow.length, .inr ⟨b,es.length,cs.toArray,rfl,cy _,k3,bP _,by simp only [maxLen]; omega,by simpa using hrow.length,by simpa using (f8 (by rw [hrow.length]; exact bP _))⟩⟩
 refine hN v w' g' (.slice (some ⟨b,0,none⟩) es.length es.length) h1 ⟨?_,by rw [hv]; trivial⟩ ⟨⟨cs,hown,hrow⟩,fun b2 hb2=>?_⟩
 ·show v=(if p=p then _ else hs p)
  rw [if_pos rfl]
  exact hv
 ·cases hb2
  obtain ⟨x1,x2,x3⟩:=hb b rfl
  exact ⟨x1,fun _=>x2 rfl,x3⟩
end
end
end Go.Proofs.YtmdbjpljlniloaaGreat
namespace Go.Proofs.YtmdbjpljlniloaaGreat
open Go.ChangeShapes Go.WideShapes Go.ChangeAt Go.RowKit
set_option maxRecDepth 100000
set_option maxRecDepth 100000
noncomputable section
def iW {α:Type} (t:TypeId) (s:Nat) (R:World -> Value -> α -> Prop):Prop:=
 ∀ (H:Type) (enc:TypeId × Value -> H) (w:World) (base:Nat) (spare:Nat -> Bool) (held:Bool) (fuel:Nat) (cs:List Value) (x:DataW H × List MemPlace),
  DataW.trod enc Tryz.prog w base spare held fuel t cs=some x -> ∃ u a,u.cells.toList=cs /\ u.cells.size=s /\ R w u a
theorem Ex {t:TypeId} (ht:Tryz.prog.underlying t=some (.int .i64)):iW t 1 MH:=by
 intro H enc w base spare held fuel cs x h
 obtain ⟨n,rfl,_,hw⟩:=DataW.trod_int ht h
 have hb:-9223372036854775808 <= n /\ n <= 9223372036854775807:=by simpa [Lit.wf,IntKind.min,IntKind.max,IntKind.signed,IntKind.bits] using hw
 exact ⟨.int .i64 n,n,rfl,rfl,rfl,hb⟩
theorem JS {α:Type} {P:Nat -> α -> Prop} (n:Nat):(∀ i,i < n -> ∃ a,P i a) -> ∃ l:List α,l.length=n /\ ∀ i a,l[i]? = some a -> P i a:=by
 induction n with
 | zero=>exact fun _=>⟨[],rfl,fun i a h=>by simp at h⟩
 | succ n ih =>
  intro h
  obtain ⟨l,hl,hp⟩:=ih fun i hi=>h i (by omega)
  obtain ⟨a,ha⟩:=h n (by omega)
  refine ⟨l ++ [a],by simp [hl],fun i b hb=>?_⟩
  by_cases hi:i < n
  ·exact hp i b (by rwa [mV (by omega)] at hb)
  ·rw [oC (by omega)] at hb
   have:i - l.length=0:=by
    have:=(cg.1 hb).1
    simp at this
    omega
   rw [this] at hb
   simp at hb
   subst hb
   rwa [show i=n from by omega]
theorem Ad {α:Type} {t e:TypeId} {s:Nat} {R:World -> Value -> α -> Prop} (ht:Tryz.prog.underlying t=some (.slice e)) (hc:Tryz.prog.cellsOf e=s) (hs:0 < s) (he:iW e s R):iW t 1 (zB s R):=by
 intro H enc w base spare held fuel cs x h
 rcases DataW.trod_slice ht h with ⟨rfl,_⟩ | ⟨a,len,cap,elems,rest,n,_,rfl,_,_,hl,hm,hlen,hel,_⟩
 ·exact ⟨.slice none 0 0,[],rfl,rfl,none,0,0,rfl,rfl,bP _,cy _,fun _=>rfl,fun q a h=>by simp at h⟩
 ·rw [hc] at hel
  have each:∀ i,i < len -> ∃ y:α,∃ b o u,some a=some (⟨b,o,none⟩:Addr) /\ R w u y /\ u.cells.size=s /\ ∀ j c,u.cells[j]? = some c -> w.cell? ⟨b,o + i * s + j,none⟩=some c:=by
   intro i hi
   have h1:=hel i hi
   rw [cO (by omega)] at h1
   obtain ⟨cs',hcs,htr⟩:=Option.bind_eq_some_iff.1 h1
   obtain ⟨u,y,e1,e2,hR⟩:=he H enc w base spare held n cs' _ htr
   obtain ⟨_,hcl,hcell⟩:=World.cells?_some hcs
   have hsp:a.spot=none:=by
    have h0:=hcell 0 hs
    rw [cO (by omega)] at h0
    by_cases hz:i * s=0
    ·rw [hz] at h0
     simpa [Addr.add] using World.cell?_spot h0
    ·rcases a with ⟨b,o,sp⟩
     have hi0:i ≠ 0:=fun e=>by simp [e] at hz
     have hi1:i=i - 1 + 1:=by omega
     have h2:=hel 0 (by omega)
     rw [cO (by omega)] at h2
     obtain ⟨cs2,hcs2,_⟩:=Option.bind_eq_some_iff.1 h2
     obtain ⟨_,hcl2,hcell2⟩:=World.cells?_some hcs2
     have h3:=hcell2 0 hs
     rw [cO (by omega)] at h3
     simpa [Addr.add] using World.cell?_spot h3
   obtain ⟨b,o,sp⟩:=a
   simp only at hsp
   subst hsp
   refine ⟨y,b,o,u,rfl,hR,e2,fun j c hj=>?_⟩
   have hj':cs'[j]? = some c:=by rw [<- e1]; simpa using hj
   have hlt:j < s:=by rw [<- hcl]; exact (cg.1 hj').1
   have h5:=(hcell j hlt).trans hj'
   simpa [Addr.add_lit] using h5
  obtain ⟨l,hll,hp⟩:=JS len each
  exact ⟨.slice (some a) len cap,l,rfl,rfl,some a,len,cap,rfl,hll.symm,hl,hm,(fun h=>by cases h),hp⟩
def NY {α β:Type} (R:World -> Value -> α -> Prop) (S:World -> Value -> β -> Prop) (w:World) (v:Value) (a:α × β):Prop:=∃ x y,v=.agg #[x,y] /\ R w x a.1 /\ S w y a.2 /\ x.cells = #[x] /\ y.cells = #[y]
instance {α β:Type} {R:World -> Value -> α -> Prop} {S:World -> Value -> β -> Prop} [vW R] [vW S]:vW (NY R S):=
 ⟨fun ⟨x,y,hv,hR,hS,hx,hy⟩ hb=>⟨x,y,hv,vW.up hR hb,vW.up hS hb,hx,hy⟩⟩
def One {α:Type} (R:World -> Value -> α -> Prop):Prop:=∀ w v a,R w v a -> v.cells = #[v]
theorem yD : laidOutB Tryz.prog=true:=by kernel_rfl
theorem MS : ownKnob Tryz.prog.godebug=none:=by kernel_rfl
theorem rM {H:Type} {enc:TypeId × Value -> H} {w:World} {base:Nat} {spare:Nat -> Bool} {held:Bool} {t:TypeId} {v:Value} {d:DataW H} {p:List MemPlace} (h:DataW.Trod enc Tryz.prog w base spare held t v d p):∀ x ∈ p,x.block < w.heap.size:=by
 obtain ⟨m,hm⟩:=h
 exact DataW.trod_lt m _ _ _ hm
end
end Go.Proofs.YtmdbjpljlniloaaGreat
namespace Go.Proofs.YtmdbjpljlniloaaGreat
open Go.ChangeShapes Go.WideShapes Go.ChangeAt Go.RowKit
set_option maxRecDepth 100000
noncomputable section
def iU (t:TypeId) (S:World -> Value -> Prop):Prop:=
 ∀ (H:Type) (enc:TypeId × Value -> H) (w:World) (base:Nat) (spare:Nat -> Bool) (held:Bool) (fuel:Nat) (c:Value) (x:DataW H × List MemPlace),
  DataW.trod enc Tryz.prog w base spare held fuel t [c]=some x -> S w c /\ c.cells = #[c]
theorem iW.one {α:Type} {t:TypeId} {R:World -> Value -> α -> Prop} (h:iW t 1 R) (ho:One R):iU t (fun w c=>∃ a,R w c a):=by
 intro H enc w base spare held fuel c x hx
 obtain ⟨u,a,h1,_,hR⟩:=h H enc w base spare held fuel [c] x hx
 rw [ho w u a hR] at h1
 simp at h1
 subst h1
 exact ⟨⟨a,hR⟩,ho _ _ _ hR⟩
def MM (Ss:List (World -> Value -> Prop)) (w:World) (v:Value):Prop:=
 ∃ cs:List Value,v=.agg cs.toArray /\ cs.length=Ss.length /\ ∀ (i:Nat) (S:World -> Value -> Prop) (c:Value),Ss[i]? = some S -> cs[i]? = some c -> S w c /\ c.cells = #[c]
def lZ (fs:Array Field) (Ss:List (World -> Value -> Prop)):Prop:=fs.size=Ss.length /\ ∀ (i:Nat) (f:Field) (S:World -> Value -> Prop),fs[i]? = some f -> Ss[i]? = some S -> iU f.type S
theorem rF {t:TypeId} {fs:Array Field} {Ss:List (World -> Value -> Prop)} (ht:Tryz.prog.underlying t=some (.struct fs)) (hc:Tryz.prog.cellsOf t=fs.size) (hone:Go.Deep.oneCellFields Tryz.prog fs=true) (hS:lZ fs Ss) :
  iW t fs.size (fun w u (_:Unit)=>MM Ss w u):=by
 intro H enc w base spare held fuel cs x h
 obtain ⟨xs,n,_,_,hl,hlen,hf⟩:=DataW.trod_struct ht h
 rw [hc] at hl
 refine ⟨.agg cs.toArray,(),by simp only [Value.cells,List.toList_toArray],by simp [Value.cells,hl],cs,rfl,by rw [hl,hS.1],fun i S c h1 h2=>?_⟩
 have hi:i < fs.size:=by
  have:=(cg.1 h2).1
  omega
 obtain ⟨k0,k1⟩:=Go.Deep.hone_of hone i fs[i] (by simp [hi])
 have hx:=hf i fs[i] (by simp [hi])
 rw [cO (by omega)] at hx
 rw [k0,k1] at hx
 have e:(cs.drop i).take 1=[c]:=by
  have hi2:i < cs.length:=by omega
  rw [tU hi2]
  have:cs[i]=c:=by
   rw [cO hi2] at h2
   simpa using h2
  simp [this]
 rw [e] at hx
 exact hS.2 i fs[i] S (by simp [hi]) h1 H enc w base spare held n c _ hx
theorem iW.imp {α β:Type} {t:TypeId} {s:Nat} {R:World -> Value -> α -> Prop} {R':World -> Value -> β -> Prop} (h:iW t s R) (hi:∀ w u a,R w u a -> ∃ b,R' w u b):iW t s R':=by
 intro H enc w base spare held fuel cs x hx
 obtain ⟨u,a,h1,h2,hR⟩:=h H enc w base spare held fuel cs x hx
 obtain ⟨b,hb⟩:=hi w u a hR
 exact ⟨u,b,h1,h2,hb⟩
theorem n8 (l:List (Field × (World -> Value -> Prop))) (h:∀ x ∈ l,iU x.1.type x.2):lZ (l.map (·.1)).toArray (l.map (·.2)):=by
 refine ⟨by simp,fun i f S h1 h2=>?_⟩
 simp only [List.getElem?_toArray,cY] at h1 h2
 cases hl:l[i]? with
 | none=>simp [hl] at h1
 | some x =>
  simp [hl] at h1 h2
  subst h1 h2
  exact h x (dC hl)
theorem MO {f0:Field} {S0:World -> Value -> Prop} (h0:iU f0.type S0):lZ #[f0] [S0]:=
 n8 [(f0,S0)] (fun x hx=>by
  simp only [eh,mc,or_false] at hx
  rcases hx with rfl
  exact h0)
theorem J2 {f0 f1:Field} {S0 S1:World -> Value -> Prop} (h0:iU f0.type S0) (h1:iU f1.type S1):lZ #[f0,f1] [S0,S1]:=
 n8 [(f0,S0),(f1,S1)] (fun x hx=>by
  simp only [eh,mc,or_false] at hx
  rcases hx with rfl | rfl
  ·exact h0
  ·exact h1)
theorem J1 {f0 f1 f2:Field} {S0 S1 S2:World -> Value -> Prop} (h0:iU f0.type S0) (h1:iU f1.type S1) (h2:iU f2.type S2):lZ #[f0,f1,f2] [S0,S1,S2]:=
 n8 [(f0,S0),(f1,S1),(f2,S2)] (fun x hx=>by
  simp only [eh,mc,or_false] at hx
  rcases hx with rfl | rfl | rfl
  ·exact h0
  ·exact h1
  ·exact h2)
theorem J0 {f0 f1 f2 f3 f4:Field} {S0 S1 S2 S3 S4:World -> Value -> Prop} (h0:iU f0.type S0) (h1:iU f1.type S1) (h2:iU f2.type S2) (h3:iU f3.type S3) (h4:iU f4.type S4):lZ #[f0,f1,f2,f3,f4] [S0,S1,S2,S3,S4]:=
 n8 [(f0,S0),(f1,S1),(f2,S2),(f3,S3),(f4,S4)] (fun x hx=>by
  simp only [eh,mc,or_false] at hx
  rcases hx with rfl | rfl | rfl | rfl | rfl
  ·exact h0
  ·exact h1
  ·exact h2
  ·exact h3
  ·exact h4)
def RT {α:Type} (T:Ty α):World -> Value -> α -> Prop:=fun w u a=>(T.sv a).ok w.gh gS u
theorem JY {w:World} {p:Addr} {v:Value} (h:w.cell? p=some v):w.gh.cell p=some v:=by
 unfold World.cell? at h
 unfold Gh.cell World.gh
 exact h
theorem RT.slice {α:Type} {T:Ty α} {w:World} {v:Value} {l:List α} (h:zB T.s (RT T) w v l):RT (cB T) w v l:=by
 obtain ⟨ao,n,cap,rfl,rfl,h1,h2,h3,h4⟩:=h
 refine ⟨⟨⟨ao,l.length,cap,rfl,rfl,h1,h2,h3,fun q a hq=>?_⟩,ao,cap,rfl⟩,trivial⟩
 obtain ⟨b,o,u,k1,k2,k3,k4⟩:=h4 q a hq
 exact ⟨b,o,u,k1,k2,k3,fun j c hj=>JY (k4 j c hj)⟩
theorem Bw {t:TypeId} (ht:Tryz.prog.underlying t=some (.int .i64)):iW t 1 (RT aZ):=(Ex ht).imp fun w u a h=>⟨a,by obtain ⟨rfl,_⟩:=h; exact ⟨rfl,trivial⟩⟩
theorem pB {α:Type} {T:Ty α} {t e:TypeId} (ht:Tryz.prog.underlying t=some (.slice e)) (hc:Tryz.prog.cellsOf e=T.s) (hs:0 < T.s) (he:iW e T.s (RT T)):iW t 1 (RT (cB T)):=(Ad ht hc hs he).imp fun w u a h=>⟨a,RT.slice h⟩
theorem Mc {α:Type} {T:Ty α} (h:∀ a,∃ x,T.sv a=.one x /\ x ≠ .junk):One (RT T):=fun w v a hR=>by
 obtain ⟨x,h1,h2⟩:=h a
 unfold RT at hR
 rw [h1] at hR
 have:dR v:=by
  have h3:=hR.2
  cases x <;> first | exact h3 | exact absurd rfl h2
 exact this.cells
theorem nm : One (RT aZ):=Mc fun a=>⟨_,rfl,by simp⟩
theorem pJ {α:Type} {T:Ty α}:One (RT (cB T)):=Mc fun a=>⟨_,rfl,by simp⟩
theorem m6 {α:Type} {T:Ty α} {H:Type} {enc:TypeId × Value -> H} {w:World} {t:TypeId} {fs:Array Field} {r:Reach} {b base:Nat} {spare:Nat -> Bool} {held:Bool} {v:Value} {d:DataW H} {p:List MemPlace} (ht:Tryz.prog.underlying t=some (.struct fs))
  (hT:∀ a,∃ cells,T.sv a=.agg cells) (hr:iW t T.s (RT T)) (hv:Value.okWide Tryz.prog w r b t v) (h:DataW.Trod enc Tryz.prog w base spare held t v d p):∃ a,RT T w v a:=by
 obtain ⟨cs,rfl,_⟩:=okWide_struct ht hv
 obtain ⟨fuel,hf⟩:=h
 obtain ⟨u,a,h1,_,hR⟩:=hr H enc w base spare held fuel _ _ hf
 refine ⟨a,?_⟩
 obtain ⟨cells,hc⟩:=hT a
 have hR':=hR
 unfold RT at hR'
 rw [hc] at hR'
 obtain ⟨us,rfl,_⟩:=hR'
 have:cs=us.toArray:=by
  simp only [Value.cells] at h1
  exact (oO.1 h1).symm
 subst this
 exact hR
theorem j7.below {w w':World} {g':Gh} (h:j7 (nK 0 w w.gh) w' g'):Below w.heap.size w w':=⟨h.os,h.tape,h.output,h.grows,fun b hb=>h.frame b hb (fun h=>h)⟩
theorem Ct.row {f:Nat} {ins:List SC} {w:World} {args:List Value} (h:Ct f ins [] (fun (_:Unit)=>True) (fun _=>.sv (.one (B true)))) (ha:dN w.gh gS ins args):Calls Tryz.prog f args.toArray w (fun e w'=>e=.returned (.bool true) /\ Below w.heap.size w w'):=
 (h w w.gh gS args (JX w) ha (fun i it hi=>by simp at hi)).mono fun e w' ⟨v,g',_,h1,_,h2,h3⟩=>⟨by rw [h1]; congr 1; exact h2.1,h3.below⟩
end
end Go.Proofs.YtmdbjpljlniloaaGreat
namespace Go.Proofs.YtmdbjpljlniloaaGreat
open Go.RowKit Go.MapKept
set_option maxRecDepth 100000
noncomputable section
theorem Cd {g:Gh} {hs:Nat -> Value} {f:Nat -> Nat} {w:World} {v:Value} {it:br} (h:(it.mv f).ok g hs w v):it.ok g (fun i=>hs (f i)) w v:=by
 cases it with
 | box cells ty fz =>
  obtain ⟨b,cs,h1,h2,h3⟩:=h
  exact ⟨b,cs,h1,tE h2,h3⟩
 | row _ _ _ _=>exact h
 | map _=>exact h
 | iter _ _=>exact h
 | siter _ _=>exact h
 | ext _=>exact h
 | grid tyo ty s rows link =>
  obtain ⟨us,ocs,h1,h2,h3,h3',h4,h4',hk,h5⟩:=h
  refine ⟨us,ocs,h1,h2,h3,h3',h4,h4',fun p k hl=>?_,h5⟩
  subst hl
  exact hk p (f k) rfl
 | gone=>trivial
structure fT (may:Nat -> Prop) (lo:Nat) (M:List br) (g:Gh) (hs:Nat -> Value) (w:World):Prop where
 items:∀ (i:Nat) (it:br),M[i]? = some it -> it.ok g hs w (hs i)
 sep:∀ (i j:Nat) (it jt:br),i ≠ j -> M[i]? = some it -> M[j]? = some jt -> it.fz=false -> jt ≠ .gone -> ∀ b,fW (hs i) b -> ¬ fW (hs j) b
 mine:∀ (i:Nat) (it:br),M[i]? = some it -> it ≠ .gone -> ∀ b,fW (hs i) b -> b < w.heap.size /\ (it.fz=false -> (may b \/ lo <= b) /\ g b=none)
def oo (M:List br) (hs:Nat -> Value) (b:Nat):Prop:=∃ (i:Nat) (it:br),M[i]? = some it /\ it.fz=false /\ fW (hs i) b
def fj {β:Type} (f:Nat) (ins:List SC) (M:List br) (pin:List Nat) (post:β -> Prop) (out:β -> SC) (M':β -> List br):Prop:=∀ (w:World) (g:Gh) (hs:Nat -> Value) (args:List Value),pu g w -> dN g hs ins args -> fT (fun _=>True) 0 M g hs w ->
 Calls Tryz.prog f args.toArray w (fun en w'=>∃ v g' hs' r,en=.returned v /\ post r /\ (out r).ok g' hs' v /\ (∀ i ∈ pin,hs' i=hs i) /\ j7 (A0 0 w g (oo M hs)) w' g' /\ fT (oo M hs) w.heap.size (M' r) g' hs' w')
theorem fj.imp {β γ:Type} {f:Nat} {ins:List SC} {M:List br} {pin:List Nat} {post:β -> Prop} {post':γ -> Prop} {out:β -> SC} {out':γ -> SC} {M1:β -> List br} {M2:γ -> List br} (h:fj f ins M pin post out M1) (hp:∀ r,post r -> ∃ s,post' s /\ out' s=out r /\ M2 s=M1 r):fj f ins M pin post' out' M2:=fun w g hs args h1 h2 h3 =>
 (h w g hs args h1 h2 h3).mono fun e w' ⟨v,g',hs',r,e1,e2,e3,e4⟩=>by
  obtain ⟨s,s1,s2,s3⟩:=hp r e2
  exact ⟨v,g',hs',s,e1,s1,by rw [s2]; exact e3,by rw [s3]; exact e4⟩
def Lr (pin:List Nat) (B:Nat -> Nat):SC -> SC
 | .sv (.one (.ptr i off))=>bif pin.any (Nat.beq i) then .sv (.one (.pptr i off (B i))) else .sv (.one (.ptr i off))
 | x=>x
def Kt {β:Type} (c:eT) (rs:Array ResultVar) (pin:List Nat) (B:Nat -> Nat) (post:β -> Prop) (out:β -> SC) (M':β -> List br):Po:=fun a w=>a.defers=c.dfr /\ ∃ v g hs r,(vE rs a.tmps).run Tryz.prog w=.ok v w /\ post r /\ (out r).ok g hs v /\ (∀ i ∈ pin,hs i=.pointer (some ⟨B i,0,none⟩)) /\ j7 c w g /\ fT c.may c.w0.heap.size (M' r) g hs w
def pinned (pin:List Nat) (ins:List SC):Bool:=pin.all fun i=>ins.any fun x=>match x with
 | .sv (.one (.ptr j 0))=>Nat.beq i j
 | _=>false
theorem uH {g:Gh} {hs:Nat -> Value}:∀ {l:List SC} {us:List Value} {x:SC},dN g hs l us -> x ∈ l -> ∃ u,x.ok g hs u
 | [],_,_,_,h=>by simp at h
 | _ :: _,[],_,h,_=>h.elim
 | y :: l,u :: us,x,h,hx=>by
  rcases eh.1 hx with rfl | hx
  ·exact ⟨u,h.1⟩
  ·exact uH h.2 hx
theorem uG {g:Gh} {hs:Nat -> Value} {pin:List Nat} {B:Nat -> Nat} (hB:∀ i ∈ pin,hs i=.pointer (some ⟨B i,0,none⟩)):∀ {l:List SC} {us:List Value},dN g hs l us -> dN g hs (l.map (Lr pin B)) us
 | [],[],_=>trivial
 | [],_ :: _,h=>h.elim
 | _ :: _,[],h=>h.elim
 | x :: l,u :: us,h=>by
  refine ⟨?_,uG hB h.2⟩
  have h1:=h.1
  unfold Lr
  split
  ·rename_i i off
   cases hc:pin.any (Nat.beq i) with
   | false=>exact h1
   | true =>
    obtain ⟨j,hj,e⟩:=jH.1 hc
    have e:=dS e
    subst e
    obtain ⟨⟨b,h2,h3⟩,h4⟩:=h1
    have h5:=hB i hj
    rw [h2] at h5
    simp at h5
    subst h5
    exact ⟨⟨h2,h3⟩,h4⟩
  ·exact h1
theorem fj.body {β:Type} {f:Nat} {fn:Func} {code:Code} {n:Nat} {rs:Array ResultVar} {ins:List SC} {M:List br} {pin:List Nat} {post:β -> Prop} {out:β -> SC} {M':β -> List br} (hf:Tryz.prog.funcs[f]? = some fn) (hb:fn.body=some code) (hn:fn.ntmps=n) (hr:fn.results=rs)
  (hl:Nat.ble ins.length n=true) (hpin:pinned pin ins=true) (h:∀ (c:eT) (B:Nat -> Nat),c.n=n -> En c ⟨p6 0 (ins.map (Lr pin B)),M⟩ (cwp code (PQ c (Kt c rs pin B post out M') [] (Kt c rs pin B post out M')))):fj f ins M pin post out M':=fun w g hs args hp ha hm=>by
 have hl:=dM hl
 have hla:=f6 ha
 have hB:∀ i ∈ pin,hs i=.pointer (some ⟨(blk (hs i)).getD 0,0,none⟩):=fun i hi=>by
  obtain ⟨x,hx,e⟩:=jH.1 (cI.1 hpin i hi)
  split at e
  ·rename_i j
   have e:=dS e
   subst e
   obtain ⟨u,⟨b,h1,_⟩,_⟩:=uH ha hx
   rw [h1]
   rfl
  ·cases e
 refine calls_of_wp hf hb (Code.wp_mono (fun e a w' q=>?_) (h (A0 n w g (oo M hs)) (fun i=>(blk (hs i)).getD 0) rfl { tmps:=args.toArray ++ Array.replicate (fn.ntmps - args.toArray.size) undef,defers:=[] } w ⟨g,hs,?_⟩))
 ·have key:Kt (A0 n w g (oo M hs)) rs pin (fun i=>(blk (hs i)).getD 0) post out M' a w' -> a.defers=[] /\ ∃ v,(results fn a.tmps).run Tryz.prog w'=.ok v w' /\ ∃ v' g' hs' r,Ending.returned v=.returned v' /\ post r /\ (out r).ok g' hs' v' /\ (∀ i ∈ pin,hs' i=hs i) /\ j7 (A0 0 w g (oo M hs)) w' g' /\ fT (oo M hs) w.heap.size (M' r) g' hs' w':=fun ⟨h1,v,g',hs',r,h2,h3,h4,h5,h6,h7⟩=>by
   refine ⟨h1,v,?_,v,g',hs',r,rfl,h3,h4,fun i hi=>(h5 i hi).trans (hB i hi).symm,⟨h6.os,h6.tape,h6.output,h6.grows,h6.frame,h6.ghle,h6.ghnew,h6.pers⟩,h7⟩
   subst hr
   exact h2
  cases e <;> first | exact key q | exact (q:False).elim | exact (q.2:False).elim
 ·refine ⟨?_,rfl,⟨rfl,rfl,rfl,bP _,fun _ _ _=>rfl,Gh.le.refl g,fun b o e=>.inl e,hp⟩,fun t x hx=>?_,hm.items,hm.sep,fun i it hi hn b hb=>?_⟩
  ·simp [hn]
   omega
  ·obtain ⟨u,h1,_,h3⟩:=lR (uG hB ha) hx
   simp only [Nat.sub_zero] at h1
   have hlt:=(cg.1 h1).1
   have:(args.toArray ++ Array.replicate (fn.ntmps - args.toArray.size) undef).getD t undef=u:=by
    rw [gz,tW (by simpa using hlt)]
    simp [h1]
   rw [this]
   exact h3
  ·obtain ⟨h1,h2⟩:=hm.mine i it hi hn b hb
   exact ⟨h1,fun hf=>⟨.inl ⟨i,it,hi,hf,hb⟩,(h2 hf).2⟩⟩
section
variable {c:eT} {S S1:St} {a:Act} {w:World} {g:Gh} {hs:Nat -> Value} {co:gY} {n:Nat} {o:Oper} {ops:Array Oper} {rest L:List Oper} {N:Po}
theorem fp {β:Type} {post:β -> Prop} {out:β -> SC} {M':β -> List br} {rs:Array ResultVar} {pin:List Nat} {B:Nat -> Nat} (ts:List Nat) (ht:co.ok) (r:β) (hp:post r) (e:evR co S rs=some (out r)) (hM:(gW (M' r) S.M).1=(gW (M' r) S.M).2) (hB:ts.map (fun t=>look t S.F)=pin.map fun i=>some (.sv (.one (.pptr i 0 (B i))))):En c S (Kt c rs pin B post out M'):=fun a w ⟨g,hs,h⟩=>by
 obtain ⟨v,h1,h2⟩:=yM ht h e
 have hM:=nG hM
 have hm:∀ (i:Nat) (it:br),(M' r)[i]? = some it -> it ≠ .gone -> S.M[i]? = some it:=fun i it hi hn=>(hM i it hi).resolve_left hn
 refine ⟨h.defers,v,g,hs,r,h1,hp,h2,fun i hi=>?_,h.base,fun i it hi=>?_,fun i j it jt hij hi hj hfi hnj=>h.sep i j it jt hij (hm i it hi (dy hfi)) (hm j jt hj hnj) hfi hnj,fun i it hi hni=>h.mine i it (hm i it hi hni) hni⟩
 ·obtain ⟨j,hj⟩:=jI.1 hi
  have:=cZ (·[j]?) hB
  simp only [cY,hj,eO] at this
  cases ht:ts[j]? with
  | none=>rw [ht] at this; simp at this
  | some t =>
   rw [ht] at this
   simp only [eO,Option.some.injEq] at this
   exact (h.slots t _ (dZ this)).1.1
 ·rcases hM i it hi with rfl | h1
  ·trivial
  ·exact h.items i it h1
def Ch (c:eT) (S:St) (args:Array Operand) (caps:List Nat) (ins:List SC):Prop:=∀ a w g hs,dJ c S a w g hs -> dN g hs ins (args.toList.map a.eval ++ caps.map hs)
theorem eR {args:Array Operand} {caps:List Nat} {ins:List SC} (ha:(match rY S.F args.toList with | some l=>some (l ++ caps.map fun i=>.sv (.one (.ptr i 0))) | none=>none)=some ins) (hcb:caps.all (vU S)=true):Ch c S args caps ins:=fun a w g hs h=>by
 split at ha
 case h_2=>cases ha
 rename_i l hl
 simp only [Option.some.injEq] at ha
 have h1:=mE h hl
 have hcp:∀ i ∈ caps,∃ b,hs i=.pointer (some ⟨b,0,none⟩):=fun i hi=>by
  have:=cI.1 hcb i hi
  unfold vU at this
  cases hm:S.M[i]? with
  | none=>rw [hm] at this; cases this
  | some it =>
   rw [hm] at this
   cases it <;> try (cases this; done)
   obtain ⟨b,cs,h1,_⟩:=h.items i _ hm
   exact ⟨b,h1⟩
 have h2:dN g hs (caps.map fun i=>SC.sv (.one (.ptr i 0))) (caps.map hs):=by
  clear ha hcb
  induction caps with
  | nil=>trivial
  | cons i caps ih =>
   refine ⟨?_,ih (fun j hj=>hcp j (d7 _ hj))⟩
   obtain ⟨b,hb⟩:=hcp i (by simp)
   exact ⟨⟨b,hb,hb⟩,by rw [hb]; trivial⟩
 have h3:=f7 h1 h2
 rw [ha] at h3
 exact h3
def rnF (rn:List Nat) (m:Nat) (i:Nat):Nat:=bif Nat.blt i rn.length then rn.getD i 0 else m + (i - rn.length)
def iE (f:Nat -> Nat):List br -> List Nat -> List br -> List br
 | M,j :: rn,it :: l=>iE f (M.set j (it.mv f)) rn l
 | M,[],l=>M ++ l.map (br.mv f)
 | M,_,[]=>M
theorem pI {f:Nat -> Nat}:∀ {rn:List Nat} {l M:List br} {k:Nat} {jt:br},rn.length <= l.length -> rn.Nodup -> (∀ j ∈ rn,j < M.length) -> (iE f M rn l)[k]? = some jt ->
  (k ∉ rn /\ k < M.length /\ M[k]? = some jt) \/ ∃ i it,l[i]? = some it /\ jt=it.mv f /\ ((i < rn.length /\ rn[i]? = some k) \/ (rn.length <= i /\ k=M.length + (i - rn.length)))
 | [],l,M,k,jt,_,_,_,h=>by
  simp only [iE] at h
  rw [ru] at h
  split at h
  ·rename_i hlt
   exact .inl ⟨by simp,hlt,h⟩
  ·rename_i hge
   rw [cY] at h
   cases hx:l[k - M.length]? with
   | none=>rw [hx] at h; simp at h
   | some it =>
    rw [hx] at h
    simp at h
    exact .inr ⟨k - M.length,it,hx,h.symm, .inr ⟨by simp,by simp; omega⟩⟩
 | j :: rn,[],M,k,jt,h,_,_,_=>by simp at h
 | j :: rn,it :: l,M,k,jt,hl,hn,hr,h=>by
  simp only [iE] at h
  rw [oM] at hn
  rcases pI (by simpa using hl) hn.2 (fun x hx=>by rw [cK]; exact hr x (by simp [hx])) h with ⟨h1,h2,h3⟩ | ⟨i,it',h1,h2,h3⟩
  ·rw [cK] at h2
   rw [dT] at h3
   by_cases e:j=k
   ·subst e
    rw [if_pos rfl,if_pos h2] at h3
    simp at h3
    exact .inr ⟨0,it,rfl,h3.symm, .inl ⟨by simp,rfl⟩⟩
   ·rw [if_neg e] at h3
    exact .inl ⟨by simp; exact ⟨Ne.symm e,h1⟩,h2,h3⟩
  ·rw [cK] at h3
   refine .inr ⟨i + 1,it',by simpa using h1,h2,?_⟩
   rcases h3 with ⟨h4,h5⟩ | ⟨h4,h5⟩
   ·exact .inl ⟨by simpa using h4,by simpa using h5⟩
   ·exact .inr ⟨by simpa using h4,by simp only [dq]; omega⟩
def zw (S:St) (rn pin:List Nat):Bool:=
 S.F.all (fun x=>x.2.refs.all fun k=>Nat.blt k S.M.length && (!(rn.any (Nat.beq k)) || pin.any fun i=>Nat.beq (rn.getD i S.M.length) k)) && ((List.range S.M.length).zip S.M).all fun x=>rn.any (Nat.beq x.1) || x.2.refs.all fun k=>Nat.blt k S.M.length && (!(rn.any (Nat.beq k)) || pin.any fun i=>Nat.beq (rn.getD i S.M.length) k)
def CT (l:List br):Bool:=l.all fun it=>it.refs.all fun k=>Nat.blt k l.length
def KS (pin:List Nat) (M M':List br):Prop:=∀ (i:Nat) (it:br),M'[i]? = some it -> it ≠ .gone -> it.fz=true -> i ∈ pin /\ ∃ jt,M[i]? = some jt /\ jt.fz=true /\ jt ≠ .gone
theorem re {l:List Nat} {k:Nat}:l.any (Nat.beq k)=true ↔ k ∈ l:=by
 rw [jH]
 constructor
 ·rintro ⟨x,hx,e⟩
  have:=dS e
  subst this
  exact hx
 ·intro h
  exact ⟨k,h,by simp⟩
theorem dJ.backE (h:dJ c S a w g hs) {M M':List br} {rn pin:List Nat} {w':World} {g':Gh} {hs':Nat -> Value} (hM:M.map (fun it=>some (it.mv (rnF rn S.M.length)))=rn.map (fun j=>S.M[j]?)) (hnd:rn.Nodup) (hal:zw S rn pin=true) (hrf:CT M'=true) (hlen:M.length <= M'.length) (hbk:KS pin M M')
  (hpin:∀ i ∈ pin,hs' i=hs (rnF rn S.M.length i)) (hpl:∀ i ∈ pin,i < rn.length) (hb:j7 (A0 0 w g (oo M (fun i=>hs (rnF rn S.M.length i)))) w' g') (hi:fT (oo M (fun i=>hs (rnF rn S.M.length i))) w.heap.size M' g' hs' w') :
  ∃ hsN:Nat -> Value,dJ c ⟨S.F,iE (rnF rn S.M.length) S.M rn M'⟩ a w' g' hsN /\ ∀ i,i < M'.length -> hsN (rnF rn S.M.length i)=hs' i:=by
 classical
 obtain ⟨hal1,hal2⟩:=(cC _ _).mp hal
 have hlr:M.length=rn.length:=by have:=cZ List.length hM; simpa using this
 have hat:∀ (i:Nat) (it:br),M[i]? = some it -> ∃ j,rn[i]? = some j /\ S.M[j]? = some (it.mv (rnF rn S.M.length)):=fun i it hi=>by
  have:=cZ (·[i]?) hM
  simp only [cY,hi,eO] at this
  cases hr:rn[i]? with
  | none=>rw [hr] at this; simp at this
  | some j=>rw [hr] at this; simp at this; exact ⟨j,rfl,this.symm⟩
 have hrnlt:∀ j ∈ rn,j < S.M.length:=fun j hj=>by
  obtain ⟨i,hi⟩:=jI.1 hj
  have hlt:=(cg.1 hi).1
  obtain ⟨j',h1,h2⟩:=hat i (M[i]'(by omega)) (by simp)
  rw [hi] at h1
  cases h1
  exact (cg.1 h2).1
 have hrnF:∀ i j,rn[i]? = some j -> rnF rn S.M.length i=j:=fun i j hi=>by
  have hlt:=(cg.1 hi).1
  unfold rnF
  rw [show Nat.blt i rn.length=true from by simpa [mb] using hlt]
  simp [hi]
 have hrnG:∀ i,rn.length <= i -> rnF rn S.M.length i=S.M.length + (i - rn.length):=fun i hi=>by
  unfold rnF
  rw [show Nat.blt i rn.length=false from by cases hb:Nat.blt i rn.length with | false=>rfl | true=>rw [mb] at hb; omega]
  rfl
 let hsN:Nat -> Value:=fun k=>if hk:∃ i,rn[i]? = some k then hs' hk.choose else if S.M.length <= k then hs' (k - S.M.length + rn.length) else hs k
 have hin:∀ i k,rn[i]? = some k -> hsN k=hs' i:=fun i k hi=>by
  have hk:∃ i,rn[i]? = some k:=⟨i,hi⟩
  show (if hk:∃ i,rn[i]? = some k then hs' hk.choose else _)=_
  rw [dif_pos hk]
  congr 1
  have h1:=hk.choose_spec
  exact (List.getElem?_inj (cg.1 h1).1 hnd).1 (h1.trans hi.symm)
 have hout:∀ k,k ∉ rn -> k < S.M.length -> hsN k=hs k:=fun k hk hlt=>by
  show (if hk:∃ i,rn[i]? = some k then hs' hk.choose else _)=_
  rw [dif_neg (fun ⟨i,hi⟩=>hk (dC hi)),if_neg (by omega)]
 have hnew:∀ i,rn.length <= i -> hsN (S.M.length + (i - rn.length))=hs' i:=fun i hi=>by
  show (if hk:∃ j,rn[j]? = some (S.M.length + (i - rn.length)) then hs' hk.choose else _)=_
  rw [dif_neg (fun ⟨j,hj⟩=>by have:=hrnlt _ (dC hj); omega),if_pos (by omega)]
  congr 1
  omega
 have hcor:∀ i,i < M'.length -> hsN (rnF rn S.M.length i)=hs' i:=fun i hi=>by
  by_cases hlt:i < rn.length
  ·rw [hrnF i rn[i] (by simp)]
   exact hin i _ (by simp)
  ·rw [hrnG i (by omega)]
   exact hnew i (by omega)
 have hsafe:∀ k,(Nat.blt k S.M.length && (!(rn.any (Nat.beq k)) || pin.any fun i=>Nat.beq (rn.getD i S.M.length) k))=true -> hsN k=hs k:=fun k hk=>by
  obtain ⟨hlt,hk⟩:=(cC _ _).mp hk
  rw [mb] at hlt
  rw [fc] at hk
  rcases hk with hk | hk
  ·refine hout k (fun hm=>?_) hlt
   rw [re.2 hm] at hk
   cases hk
  ·obtain ⟨i,hi,e⟩:=jH.1 hk
   have e:=dS e
   have hil:=hpl i hi
   have hgi:rn[i]? = some rn[i]:=by simp
   have e2:rn[i]=k:=by rw [<- e]; simp [hil]
   rw [e2] at hgi
   rw [hin i k hgi,hpin i hi,hrnF i k hgi]
 have hmay:∀ b,oo M (fun i=>hs (rnF rn S.M.length i)) b -> ∃ j it,j ∈ rn /\ S.M[j]? = some it /\ it.fz=false /\ fW (hs j) b:=fun b ⟨i,it,h1,h2,h3⟩=>by
  obtain ⟨j,h4,h5⟩:=hat i it h1
  simp only [hrnF i j h4] at h3
  exact ⟨j,_,dC h4,h5,by rw [gE]; exact h2,h3⟩
 have hoth:∀ k jt b,k ∉ rn -> S.M[k]? = some jt -> jt ≠ .gone -> fW (hs k) b -> ¬ oo M (fun i=>hs (rnF rn S.M.length i)) b:=fun k jt b h1 h2 h3 h4 h5=>by
  obtain ⟨j,it,h6,h7,h8,h9⟩:=hmay b h5
  exact h.sep j k it jt (fun e=>h1 (e ▸ h6)) h7 h2 h8 h3 b h9 h4
 have hkM:∀ i k it,M'[i]? = some it -> ((i < rn.length /\ rn[i]? = some k) \/ (rn.length <= i /\ k=S.M.length + (i - rn.length))) -> hsN k=hs' i:=fun i k it h1 h2=>by
  rcases h2 with ⟨h2,h3⟩ | ⟨h2,rfl⟩
  ·exact hin i k h3
  ·exact hnew i h2
 have hget:=fun (k:Nat) (jt:br) (hk:(iE (rnF rn S.M.length) S.M rn M')[k]? = some jt)=>pI (f:=rnF rn S.M.length) (by omega) hnd hrnlt hk
 have hmine':∀ i it,M'[i]? = some it -> it ≠ .gone -> it.fz=false -> ∀ b,fW (hs' i) b -> (c.may b \/ c.w0.heap.size <= b) /\ g' b=none:=fun i it h1 h2 h3 b h4=>by
  obtain ⟨_,h5⟩:=hi.mine i it h1 h2 b h4
  obtain ⟨h6,h7⟩:=h5 h3
  refine ⟨?_,h7⟩
  rcases h6 with h6 | h6
  ·obtain ⟨j,jt,_,h8,h9,h10⟩:=hmay b h6
   exact ((h.mine j jt h8 (dy h9) b h10).2 h9).1
  ·exact .inr (dp h.base.grows h6)
 -- a piece that came back,and one that was not handed on,stand apart
 have hmix:∀ i it k jt b,M'[i]? = some it -> it ≠ .gone -> k ∉ rn -> S.M[k]? = some jt -> jt ≠ .gone -> (it.fz=false \/ jt.fz=false) -> fW (hs' i) b -> ¬ fW (hs k) b:=fun i it k jt b h1 h2 h3 h4 h5 h6 h7 h8=>by
  cases hf:it.fz with
  | false =>
   obtain ⟨_,h9⟩:=hi.mine i it h1 h2 b h7
   rcases (h9 hf).1 with h10 | h10
   ·exact hoth k jt b h3 h4 h5 h8 h10
   ·have:=(h.mine k jt h4 h5 b h8).1
    omega
  | true =>
   have hjf:jt.fz=false:=by rcases h6 with h6 | h6; (rw [hf] at h6; cases h6); exact h6
   obtain ⟨h9,mt,h10,h11,h12⟩:=hbk i it h1 h2 hf
   obtain ⟨j,h13,h14⟩:=hat i mt h10
   rw [hpin i h9,hrnF i j h13] at h7
   exact h.sep k j jt _ (fun e=>h3 (e ▸ dC h13)) h4 h14 hjf (fun e=>h12 (iY.1 e)) b h8 h7
 refine ⟨hsN,⟨h.size,h.defers,?_,fun t x hx=>?_,fun k jt hk=>?_,fun k l jt lt hkl hk hl hf hn b hb1=>?_,fun k jt hk hn b hb1=>?_⟩,hcor⟩
 ·refine ⟨hb.os.trans h.base.os,hb.tape.trans h.base.tape,hb.output.trans h.base.output,dp h.base.grows hb.grows,fun b hb1 hm=>?_,h.base.ghle.trans hb.ghle,fun b o e=>?_,hb.pers⟩
  ·refine (hb.frame b (gv hb1 h.base.grows) fun hm2=>?_).trans (h.base.frame b hb1 hm)
   obtain ⟨j,jt,_,h8,h9,h10⟩:=hmay b hm2
   rcases ((h.mine j jt h8 (dy h9) b h10).2 h9).1 with h11 | h11
   ·exact hm h11
   ·omega
  ·rcases hb.ghnew b o e with h1 | h1 | h1
   ·exact h.base.ghnew b o h1
   ·obtain ⟨j,jt,_,h8,h9,h10⟩:=hmay b h1
    exact .inr ((h.mine j jt h8 (dy h9) b h10).2 h9).1
   ·exact .inr (.inr (dp h.base.grows h1))
 ·refine SC.ok_hs (fun k hk=>hsafe k ?_) (SC.mono hb.ghle (h.slots t x hx))
  exact cI.1 (cI.1 hal1 _ hx) k hk
 ·rcases hget k jt hk with ⟨h1,h2,h3⟩ | ⟨i,it,h1,rfl,h3⟩
  ·by_cases hn:jt=.gone
   ·subst hn; trivial
   ·rw [hout k h1 h2]
    refine br.ok_hs (fun q hq=>hsafe q ?_) (br.same hb.ghle (fun b hb1=>hb.frame b (h.mine k jt h3 hn b hb1).1 (hoth k jt b h1 h3 hn hb1)) (h.items k jt h3))
    have:=cI.1 hal2 (k,jt) (jI.2 ⟨k,by rw [List.getElem?_zip_eq_some]; exact ⟨by simp [h2],h3⟩⟩)
    rw [fc] at this
    rcases this with h5 | h5
    ·exact absurd (re.1 h5) h1
    ·exact cI.1 h5 q hq
  ·rw [hkM i k it h1 h3]
   refine vr (br.ok_hs (fun q hq=>hcor q ?_) (hi.items i it h1))
   have:=cI.1 (cI.1 hrf it (dC h1)) q hq
   rwa [mb] at this
 ·rcases hget k jt hk with ⟨h1,h2,h3⟩ | ⟨i,it,h1,rfl,h3⟩ <;> rcases hget l lt hl with ⟨k1,k2,k3⟩ | ⟨i',it',k1,rfl,k3⟩
  ·rw [hout k h1 h2] at hb1
   rw [hout l k1 k2]
   exact h.sep k l jt lt hkl h3 k3 hf hn b hb1
  ·rw [hout k h1 h2] at hb1
   rw [hkM i' l it' k1 k3]
   intro e
   exact hmix i' it' k jt b k1 (fun e=>hn (by rw [e]; rfl)) h1 h3 (dy hf) (.inr hf) e hb1
  ·rw [hkM i k it h1 h3] at hb1
   rw [hout l k1 k2]
   rw [gE] at hf
   exact hmix i it l lt b h1 (dy hf) k1 k3 hn (.inl hf) hb1
  ·rw [hkM i k it h1 h3] at hb1
   rw [hkM i' l it' k1 k3]
   rw [gE] at hf
   refine hi.sep i i' it it' (fun e=>?_) h1 k1 hf (fun e=>hn (by rw [e]; rfl)) b hb1
   subst e
   rcases h3 with ⟨h3,h4⟩ | ⟨h3,h4⟩ <;> rcases k3 with ⟨k3,k4⟩ | ⟨k3,k4⟩
   ·rw [h4] at k4; exact hkl (Option.some.inj k4)
   ·omega
   ·omega
   ·exact hkl (h4.trans k4.symm)
 ·rcases hget k jt hk with ⟨h1,h2,h3⟩ | ⟨i,it,h1,rfl,h3⟩
  ·rw [hout k h1 h2] at hb1
   obtain ⟨m1,m2⟩:=h.mine k jt h3 hn b hb1
   refine ⟨gv m1 hb.grows,fun hf=>⟨(m2 hf).1,?_⟩⟩
   cases hg:g' b with
   | none=>rfl
   | some o =>
    rcases hb.ghnew b o hg with h5 | h5 | h5
    ·have h6:=(m2 hf).2
     have h5:g b=some o:=h5
     rw [h6] at h5; cases h5
    ·exact absurd h5 (hoth k jt b h1 h3 hn hb1)
    ·have:w.heap.size <= b:=h5
     omega
  ·rw [hkM i k it h1 h3] at hb1
   have hn':it ≠ .gone:=fun e=>hn (by rw [e]; rfl)
   refine ⟨(hi.mine i it h1 hn' b hb1).1,fun hf=>?_⟩
   rw [gE] at hf
   exact hmine' i it h1 hn' hf b hb1
def BN : br -> Bool
 | .gone=>true
 | _=>false
def Dv (pin:List Nat) (M M':List br):Bool:=((List.range M'.length).zip M').all fun x=>BN x.2 || !x.2.fz || (pin.any (Nat.beq x.1) && match M[x.1]? with
 | some jt=>jt.fz && !BN jt
 | none=>false)
theorem A4 {pin:List Nat} {M M':List br} (h:Dv pin M M'=true):KS pin M M':=fun i it hi hn hf=>by
 have hlt:=(cg.1 hi).1
 have:=cI.1 h (i,it) (jI.2 ⟨i,by rw [List.getElem?_zip_eq_some]; exact ⟨by simp [hlt],hi⟩⟩)
 have hg:BN it=false:=by cases it <;> first | rfl | exact absurd rfl hn
 simp only [hg,hf,Bool.not_true,Bool.or_self,Bool.false_or,cC] at this
 obtain ⟨h1,h2⟩:=this
 refine ⟨re.1 h1,?_⟩
 split at h2
 ·rename_i jt hj
  obtain ⟨h3,h4⟩:=(cC _ _).mp h2
  exact ⟨jt,hj,h3,fun e=>by subst e; cases h4⟩
 ·cases h2
theorem AG (h:dJ c S a w g hs) {M:List br} {rn:List Nat} (hM:M.map (fun it=>some (it.mv (rnF rn S.M.length)))=rn.map (fun j=>S.M[j]?)) (hnd:rn.Nodup):fT (fun _=>True) 0 M g (fun i=>hs (rnF rn S.M.length i)) w:=by
 have hat:∀ (i:Nat) (it:br),M[i]? = some it -> ∃ j,rn[i]? = some j /\ rnF rn S.M.length i=j /\ S.M[j]? = some (it.mv (rnF rn S.M.length)):=fun i it hi=>by
  have:=cZ (·[i]?) hM
  simp only [cY,hi,eO] at this
  cases hr:rn[i]? with
  | none=>rw [hr] at this; simp at this
  | some j =>
   rw [hr] at this
   simp at this
   have hlt:=(cg.1 hr).1
   refine ⟨j,rfl,?_,this.symm⟩
   unfold rnF
   rw [show Nat.blt i rn.length=true from by simpa [mb] using hlt]
   simp [hr]
 refine ⟨fun i it hi=>?_,fun i j it jt hij hi hj hf hn b hb=>?_,fun i it hi hn b hb=>?_⟩
 ·obtain ⟨j,h1,h2,h3⟩:=hat i it hi
  rw [h2]
  exact Cd (h.items j _ h3)
 ·obtain ⟨k,h1,h2,h3⟩:=hat i it hi
  obtain ⟨l,k1,k2,k3⟩:=hat j jt hj
  simp only [h2] at hb
  simp only [k2]
  refine h.sep k l _ _ (fun e=>hij ?_) h3 k3 (by rw [gE]; exact hf) (fun e=>hn (iY.1 e)) b hb
  subst e
  exact (List.getElem?_inj (cg.1 h1).1 hnd).1 (h1.trans k1.symm)
 ·obtain ⟨k,h1,h2,h3⟩:=hat i it hi
  simp only [h2] at hb
  obtain ⟨m1,m2⟩:=h.mine k _ h3 (fun e=>hn (iY.1 e)) b hb
  exact ⟨m1,fun hf=>⟨.inl trivial,(m2 (by rw [gE]; exact hf)).2⟩⟩
theorem Ia {β:Type} {f:Nat} {ins:List SC} {M:List br} {pin:List Nat} {post:β -> Prop} {out:β -> SC} {M':β -> List br} (ct:fj f ins M pin post out M') (en:∀ args w,(callFunc f args).run Tryz.prog w=.ok (.enter f args) w) {caps:List Nat} (rn:List Nat) {fo:Operand} {args:Array Operand} {ats:Array TypeId}
  (hn:c.n=n) (hw:dX ops S.F o=some true) (ho:o.op=.call ⟨.value fo,args,ats⟩) (hf:eL S.F fo=some (.sv (.one (.fn f caps)))) (ha:Ch c S args caps (ins.map (SC.ren (rnF rn S.M.length))))
  (hM:M.map (fun it=>some (it.mv (rnF rn S.M.length)))=rn.map (fun j=>S.M[j]?)) (hnd:rn.Nodup) (hal:zw S rn pin=true) (hpl:pin.all (fun i=>Nat.blt i rn.length)=true)
  (h:∀ r,post r -> (CT (M' r) && Nat.ble M.length (M' r).length && Dv pin M (M' r) && (out r).refs.all (fun i=>Nat.blt i (M' r).length))=true /\ ∃ S1,iA n o.dst ((out r).ren (rnF rn S.M.length)) ⟨S.F,iE (rnF rn S.M.length) S.M rn (M' r)⟩=some S1 /\ WL c ops rest S1 N):WL c ops (o :: rest) S N:=fun a w ⟨g,hs,hk⟩=>by
 unfold wpList
 rw [if_pos (dU hk hw)]
 refine .inl ?_
 unfold Oper.wp
 have hfv:a.eval fo=.func (.func f) #[] (caps.map hs).toArray:=(bV hk hf).1
 have hrun:(execOp a.eval o).run Tryz.prog w=.ok (.enter f ((args.toList.map a.eval) ++ caps.map hs).toArray) w:=by
  unfold execOp
  simp only [ho,resolve,hfv,Deferred.ofValue,bW,db,ce,invoke]
  rw [show (#[] ++ Array.map a.eval args ++ (List.map hs caps).toArray:Array Value)=(args.toList.map a.eval ++ caps.map hs).toArray by simp]
  exact en _ _
 rw [hrun]
 refine (ct w g (fun i=>hs (rnF rn S.M.length i)) _ hk.base.pers (ig (ha a w g hs hk)) (AG hk hM hnd)).mono ?_
 rintro e' w' ⟨v,g',hs',r,rfl,hq,h3,h4,h5,h6⟩
 obtain ⟨hc,S1,hp,hW⟩:=h r hq
 simp only [cC] at hc
 obtain ⟨⟨⟨c1,c2⟩,c3⟩,c4⟩:=hc
 obtain ⟨hsN,n1,n2⟩:=hk.backE hM hnd hal c1 (dM c2) (A4 c3) h4 (fun i hi=>by have:=cI.1 hpl i hi; rwa [mb] at this) h5 h6
 refine hW _ _ ⟨g',hsN,fR n1 hn (SC.ren_ok (SC.ok_hs (fun i hi=>n2 i ?_) h3)) hp⟩
 have:=cI.1 c4 i hi
 rwa [mb] at this
end
theorem cG.take {α:Type} {T:Ty α} {l:List α} {g:Gh} {cs:List Value} (h:cG T l g cs) (k:Nat):cG T (l.take k) g (cs.take (k * T.s)):=by
 obtain ⟨us,rfl,h2,h3⟩:=h
 have hs:=js h2 h3
 refine ⟨us.take k,?_,by simp [h2],fun q u a hu ha=>?_⟩
 ·clear h2 h3
  induction us generalizing k with
  | nil=>simp
  | cons u us ih =>
   cases k with
   | zero=>simp
   | succ k =>
    have h0:u.cells.toList.length=T.s:=by simpa using hs u (by simp)
    rw [jP,List.take_succ_cons,jP,List.take_append,h0,f8 (by rw [h0,mS]; omega),show (k + 1) * T.s - T.s=k * T.s by rw [mS]; omega,ih k (fun v hv=>hs v (by simp [hv]))]
 ·rw [gP] at hu ha
  split at hu
  ·rename_i hlt
   rw [if_pos hlt] at ha
   exact h3 q u a hu ha
  ·cases hu
theorem dd {α:Type} {l:List α} {i:Int} {a:α} (h:cq l i=some a):i.toNat < l.length:=by
 have:=bs h
 omega
section
variable {c:eT} {S S1:St} {a:Act} {w:World} {g:Gh} {hs:Nat -> Value} {co:gY} {n:Nat} {o:Oper} {ops:Array Oper} {rest L:List Oper} {N:Po}
theorem EY {α:Type} {T:Ty α} {l:List α} {i p t el:Nat} {ti te:TI} {x q:Operand} {hv:Int} (ht:co.ok) (ho:o.op=.slice t x none (some q) none) (h1:co t=some ti) (h2:ti.sl=some el) (h3:co el=some te) (h4:te.size=T.s)
  (hx:eL S.F x=some (.sv (.one (.own i)))) (hm:S.M[i]? = some (bf el T l)) (hhi:evK S.F q=some (.int .i64 hv)) (h5:0 <= hv /\ hv <= (l.length:Int)):MT c S o (.sv (.one (.own p))) [i] (some (p,bf el T (l.take hv.toNat))):=fun a w g hs h N Z hN=>by
 obtain ⟨h6,h7⟩:=h5
 have hu:=fY ((ht t ti h1).sl.trans h2)
 have hv0:a.eval x=hs i:=(bV h hx).1
 obtain ⟨cs,⟨hl0,r1⟩,r2⟩:=h.items i _ hm
 have hmine:=h.mine i _ hm (by simp)
 have hlen:(l.take hv.toNat).length=hv.toNat:=by simp; omega
 obtain ⟨ao,cap,e1,hcap,hao⟩:∃ ao cap,hs i=.slice ao l.length cap /\ (l.length:Int) <= cap /\ (∀ b,ao=some b -> ∃ gb of,b=⟨gb,of,none⟩):=by
  rcases r1 with ⟨e3,e4⟩ | ⟨gb,of,cap,cur,e3,e4,e5,_⟩
  ·exact ⟨none,0,by rw [e3,e4],by rw [e4]; simp,fun b hb=>by cases hb⟩
  ·exact ⟨_,cap,e3,by omega,fun b hb=>⟨gb,of,by cases hb; rfl⟩⟩
 have hb:(Instr.sliceBounds true l.length cap none (some (a.eval q)) none).run Tryz.prog w=.ok (0,hv.toNat,cap) w:=by
  unfold Instr.sliceBounds
  simp only [bW,db,ce,Instr.sliceBound,eQ h hhi,asIntOf]
  rw [if_pos (by omega)]
  simp
 have hrun:(execOp a.eval o).run Tryz.prog w=.ok (.value (.slice ao hv.toNat cap)) w:=by
  have:execOp a.eval o=(do pure (.value (<- Instr.sliceAt t (a.eval x) none (some (a.eval q)) none)):Sem Next):=by unfold execOp; rw [ho]; rfl
  rw [this]
  refine cX ?_
  simp only [Instr.sliceAt,Instr.slice,bW,run_underlying hu,ce,hv0,e1,hb,(ht el te h3).run_size,db,h4]
  congr 2
  cases ao with
  | none=>simp
  | some b =>
   obtain ⟨gb,of,rfl⟩:=hao _ rfl
   simp [Addr.add]
 unfold Oper.wp
 rw [hrun]
 refine hN _ _ g (.slice ao hv.toNat cap) ⟨rfl,rfl,rfl,bP _,fun _ _ _=>rfl,Gh.le.refl g,fun _ _ e=>.inl e,h.base.pers⟩ ⟨?_,trivial⟩ ⟨⟨cs.take (hv.toNat * T.s),⟨?_,?_⟩,r2.take hv.toNat⟩,fun b hb=>?_⟩
 ·show _=(if p=p then _ else hs p)
  rw [if_pos rfl]
 ·rw [hlen,eU,hl0]
  exact mQ (dL _ (by omega))
 ·rw [hlen]
  rcases r1 with ⟨e3,e4⟩ | ⟨gb,of,cap',cur,e3,e4,e5,e6,e7,e8⟩
  ·rw [e3] at e1
   simp only [Value.slice.injEq] at e1
   obtain ⟨rfl,_,rfl⟩:=e1
   left
   exact ⟨by congr 1; omega,by omega⟩
  ·rw [e3] at e1
   simp only [Value.slice.injEq] at e1
   obtain ⟨rfl,_,rfl⟩:=e1
   refine .inr ⟨gb,of,cap',cur,rfl,e4,by omega,e6,e7,?_⟩
   rw [<- e8,List.take_take]
   congr 1
   exact (mQ (dL _ (by omega))).symm
 ·have hb':fW (hs i) b:=by
   rw [e1]
   cases ao with
   | none=>cases hb
   | some q=>exact hb
  obtain ⟨m1,m2⟩:=hmine b hb'
  exact ⟨m1,fun _=>(m2 rfl).2, .inr ⟨i,by simp,hb'⟩⟩
theorem dY {α:Type} {T:Ty α} {l:List α} {i k t el:Nat} {y:α} {ti:TI} {x v:Operand} (ht:co.ok) (ho:o.op=.store t x v) (h1:co t=some ti) (h2:ti.size=T.s) (hT:T.solid)
  (hx:eL S.F x=some (.sv (.one (.oe i k T.s)))) (hm:S.M[i]? = some (bf el T l)) (hk:k < l.length) (hv:eL S.F v=some (.sv (T.sv y))) (hz:(cF (T.sv y)).length=T.s) (hc:(T.sv y).refs=[]):MU c S o i (bf el T (l.set k y)):=fun a w g hs hh N Z hN=>by
 unfold Oper.wp
 obtain ⟨⟨b,of,nn,cap,e1,e2⟩,_⟩:=bV hh hx
 obtain ⟨cs,⟨hl0,r1⟩,r2⟩:=hh.items i _ hm
 have htk:=ht t ti h1
 have hval:(T.sv y).ok g hs (a.eval v):=bV hh hv
 have hval0:(T.sv y).ok g gS (a.eval v):=SV.ok_hs (fun i hi=>by rw [hc] at hi; cases hi) hval
 have hcells:=jw (hT y) hval0
 have hlen:(a.eval v).cells.toList.length=T.s:=by rw [<- dF hcells]; exact hz
 rcases r1 with ⟨e3,e4⟩ | ⟨gb,of',cap',cur,e3,e4,e5,e6,e7,e8⟩
 ·omega
 ·rw [e1] at e3
  simp at e3
  obtain ⟨⟨rfl,rfl⟩,rfl,rfl⟩:=e3
  have hkl:k * T.s + T.s <= l.length * T.s:=by rw [<- mS]; exact dL _ hk
  have hlc:of + l.length * T.s <= cur.size:=dp (kY (dL _ e5) _) e7
  have hst:=run_storeCells_at (P:=Tryz.prog) b (of + k * T.s) el (a.eval v).cells.toList 0 cur w e4 (by rw [hlen,eG,ft]; exact dp (kY hkl _) hlc) (fun u hu=>(kd hcells u hu).one)
  simp only [eG] at hst
  have hrun:(execOp a.eval o).run Tryz.prog w=.ok .skip (w.setRow b (cur.toList.take (of + k * T.s) ++ (a.eval v).cells.toList ++ cur.toList.drop (of + k * T.s + (a.eval v).cells.toList.length)).toArray):=by
   have:execOp a.eval o=(do Instr.storeAt t (a.eval x) (a.eval v); pure .skip:Sem Next):=by unfold execOp; rw [ho]
   rw [this]
   simp only [Instr.storeAt,e2,Instr.sureAddr,storeVar,bW,db,ce,htk.run_size]
   rw [if_neg (by rw [h2]; simp at hlen; simp [hlen])]
   simp only [hst,ce,db]
  rw [hrun]
  refine hN undef _ ?_ ?_
  ·rw [e1]
   exact ⟨rfl,rfl,rfl,by simp,fun q hq hne=>setRow_other w b q _ (fun e=>hne (by rw [e]; rfl))⟩
  ·have hset:=r2.set hk hval0 (by rw [<- hlen]; simp)
   refine ⟨_,⟨hset.length.trans (by simp), .inr ⟨b,of,cap,_,by rw [e1]; simp,setRow_heap w b _ _ _ _ e4,by simpa using e5,e6,?_,?_⟩⟩,hset⟩
   ·simp only [f9,di,eU,kj,fq] at hlen ⊢
    omega
   ·simp only [cK]
    show (List.drop of (_ ++ (a.eval v).cells.toList ++ _)).take _=_
    rw [nF _ _ (by rw [fq]; exact dp (kY (dp (Nat.le_add_right _ _) hkl) _) hlc),<- e8,hlen]
    exact pz (cur.toList.drop of) (a.eval v).cells.toList (k * T.s) T.s (l.length * T.s) hlen hkl (by rw [kj,fq]; exact Nat.le_sub_of_add_le (by rw [mU]; exact hlc))
def yl : At -> Bool
 | .v _=>true
 | _=>false
def uy : SV -> Bool
 | .one a=>yl a
 | .agg l=>l.all yl
def yk : SC -> Bool
 | .sv s=>uy s
 | .tup l=>l.all uy
theorem wC {g g':Gh} {hs hs':Nat -> Value} {x:At} {u:Value} (hp:yl x=true) (h:x.ok g hs u):x.ok g' hs' u:=by
 cases x <;> first | (cases hp; done) | exact h
theorem wB {g g':Gh} {hs hs':Nat -> Value}:∀ {l:List At} {us:List Value},l.all yl=true -> oks g hs l us -> oks g' hs' l us
 | [],[],_,_=>trivial
 | [],_ :: _,_,h=>h.elim
 | _ :: _,[],_,h=>h.elim
 | _ :: _,_ :: _,hp,h=>by
  rw [oQ,cC] at hp
  exact ⟨wC hp.1 h.1,h.2.1,wB hp.2 h.2.2⟩
theorem rK {g g':Gh} {hs hs':Nat -> Value} {x:SV} {u:Value} (hp:uy x=true) (h:x.ok g hs u):x.ok g' hs' u:=by
 cases x with
 | one a=>exact wC hp h
 | agg l =>
  obtain ⟨cs,h1,h2⟩:=h
  exact ⟨cs,h1,wB hp h2⟩
theorem wA {g g':Gh} {hs hs':Nat -> Value}:∀ {l:List SV} {us:List Value},l.all uy=true -> fy g hs l us -> fy g' hs' l us
 | [],[],_,_=>trivial
 | [],_ :: _,_,h=>h.elim
 | _ :: _,[],_,h=>h.elim
 | _ :: _,_ :: _,hp,h=>by
  rw [oQ,cC] at hp
  exact ⟨rK hp.1 h.1,wA hp.2 h.2⟩
theorem rL {g g':Gh} {hs hs':Nat -> Value} {x:SC} {u:Value} (hp:yk x=true) (h:x.ok g hs u):x.ok g' hs' u:=by
 cases x with
 | sv s=>exact rK hp h
 | tup l =>
  obtain ⟨us,h1,h2⟩:=h
  exact ⟨us,h1,wA hp h2⟩
theorem Eff.back {w':World} {g2 g':Gh} (he:Eff hs [] w g2 w' g') (hp:pu g w):Eff hs [] w g w' g:=
 ⟨he.os,he.tape,he.output,he.size,he.block,Gh.le.refl g,fun _ _ e=>.inl e,fun b o e=>(he.block b (hp.lt e) (fun k hk=>by simp at hk)).trans (hp b o e)⟩
theorem JN {α:Type} {T:Ty α} {l:List α} {e:Nat} {x:SC} (i:Nat) (hm:S.M[i]? = some (bf e T l)) (hp:yk x=true) (h:MT c (ws S i (LS T l)) o x [] none):MT c S o x [] none:=fun a w g hs hk N Z hN=>by
 obtain ⟨g2,hk2⟩:=hk.seal hm
 exact h a w g2 hs hk2 N Z fun v w' g' h' h1 h2 _=>hN v w' g h' (h1.back hk.base.pers) (rL hp h2) trivial
def GT (it:br):Prop:=∀ g g' hs hs' w v,it.ok g hs w v -> it.ok g' hs' w v
theorem EH {α:Type} {T:Ty α} {l:List α} {e:Nat} (hT:∀ a,uy (T.sv a)=true):GT (bf e T l):=fun g g' hs hs' w v ⟨cs,h1,us,h2,h3,h4⟩=>⟨cs,h1,us,h2,h3,fun q u a hu ha=>⟨rK (hT a) (h4 q u a hu ha).1,(h4 q u a hu ha).2⟩⟩
theorem G8 {α:Type} {T:Ty α} {l:List α} {e p:Nat} {it:br} (i:Nat) (hm:S.M[i]? = some (bf e T l)) (hp:GT it) (h:MT c (ws S i (LS T l)) o (.sv (.one (.own p))) [] (some (p,it))):MT c S o (.sv (.one (.own p))) [] (some (p,it)):=fun a w g hs hk N Z hN=>by
 obtain ⟨g2,hk2⟩:=hk.seal hm
 refine h a w g2 hs hk2 N Z fun v w' g' h' h1 h2 h3=>hN v w' g h' (h1.back hk.base.pers) ⟨h2.1,h2.2⟩ ⟨hp _ _ _ _ _ _ h3.1,fun b hb=>?_⟩
 obtain ⟨m1,m2,m3⟩:=h3.2 b hb
 refine ⟨m1,fun _=>?_,m3⟩
 rcases m3 with m3 | ⟨k,hk,_⟩
 ·cases hg:g b with
  | none=>rfl
  | some o=>have:=hk.base.pers.lt hg; omega
 ·simp at hk
theorem lP {x:SC} (l:List Nat) {M':List br} (e:rW S.M l=some M') (hp:yk x=true) (h:MT c ⟨S.F,M'⟩ o x [] none):MT c S o x [] none:=fun a w g hs hk N Z hN=>by
 obtain ⟨g2,hk2⟩:=tI (F:=S.F) e hk
 exact h a w g2 hs hk2 N Z fun v w' g' h' h1 h2 _=>hN v w' g h' (h1.back hk.base.pers) (rL hp h2) trivial
theorem nq {x:SC} {K:List Nat} {p:Option (Nat × br)} (t:Nat) {y:SC} (y':SC) (hl:look t S.F=some y) (hx:∀ a w g hs,dJ c S a w g hs -> ∀ u,y.ok g hs u -> y'.ok g hs u) (h:MT c ⟨(t,y') :: S.F,S.M⟩ o x K p):MT c S o x K p:=fun a w g hs hk N Z hN=>by
 refine h a w g hs ⟨hk.size,hk.defers,hk.base,fun t' z hz=>?_,hk.items,hk.sep,hk.mine⟩ N Z hN
 rcases eh.1 hz with hz | hz
 ·cases hz
  exact hx a w g hs hk _ (hk.slots t _ (dZ hl))
 ·exact hk.slots t' z hz
theorem nU {x y:Operand} {b:TypeId} {t:Nat} {op:BinOp} {k k':IntKind} {u v r:Int} (ho:o.op=.binOp op t x y b) (hx:eL S.F x=some (.sv (.one (.v (.int k u))))) (hy:eL S.F y=some (.sv (.one (.v (.int k' v))))) (h0:0 <= v) (hop:(op=.shl /\ r=k.wrap (u * 2 ^ (min v.toNat k.bits))) \/ (op=.shr /\ r=u.fdiv (2 ^ (min v.toNat k.bits)))):Val c S o (.sv (.one (.v (.int k r)))):=fun a w g hs h=>by
 have h1:a.eval x=.int k u:=(bV h hx).1
 have h2:a.eval y=.int k' v:=(bV h hy).1
 refine ⟨_,?_,rfl,trivial⟩
 have e:execOp a.eval o=(do pure (.value (<- (do eqGuard op t x y (a.eval x) (a.eval y); binOp op t (a.eval x) (a.eval y):Sem Value))):Sem Next):=by unfold execOp; rw [ho]
 rw [e]
 refine cX ?_
 rw [h1,h2]
 obtain ⟨m,rfl⟩:∃ m:Nat,v=m:=⟨v.toNat,by omega⟩
 have hne:¬ ((m:Int) < 0):=by omega
 rcases hop with ⟨rfl,rfl⟩ | ⟨rfl,rfl⟩
 ·have hg:(eqGuard .shl t x y (.int k u) (.int k' m)).run Tryz.prog w=.ok () w:=by simp [eqGuard]
  rw [bW,hg,ce]
  simp [binOp,Op.shift,hne]
 ·have hg:(eqGuard .shr t x y (.int k u) (.int k' m)).run Tryz.prog w=.ok () w:=by simp [eqGuard]
  rw [bW,hg,ce]
  simp [binOp,Op.shift,hne]
theorem uV {α β:Type} {ins:α -> List SC} {out:β -> SC} {dom:α -> Prop} {φ:α -> β} {f:Nat} (ct:∀ x,dom x -> Ct f (ins x) [] (fun (_:Unit)=>True) (fun _=>out (φ x))) (en:∀ args w,(callFunc f args).run Tryz.prog w=.ok (.enter f args) w) :
  ∀ (g:Gh) (hs:Nat -> Value) (u:Value),SC.ok g hs (.sv (.one (.fn f []))) u -> SC.ok g hs (.sv (.one (.rd (fvR ins out dom φ)))) u:=fun g hs u hu =>
 ⟨⟨f,#[],hu.1,en,fun x hx w' g' args _ hp ha=>by simpa using ct x hx w' g' gS args hp ha (fun i it h=>by simp at h)⟩,hu.2⟩
def vB (l' l:List SC):Prop:=∀ (g:Gh) (hs:Nat -> Value) (us:List Value),dN g hs l' us -> dN g hs l us
theorem sg : vB [] []:=fun _ _ _ h=>h
theorem jn {x:SC} {l' l:List SC} (h:vB l' l):vB (x :: l') (x :: l):=fun g hs us k=>by
 cases us with
 | nil=>exact k.elim
 | cons u us=>exact ⟨k.1,h g hs us k.2⟩
theorem vk {x' x:SC} {l' l:List SC} (hx:∀ (g:Gh) (hs:Nat -> Value) (u:Value),x'.ok g hs u -> x.ok g hs u) (h:vB l' l):vB (x' :: l') (x :: l):=fun g hs us k=>by
 cases us with
 | nil=>exact k.elim
 | cons u us=>exact ⟨hx g hs u k.1,h g hs us k.2⟩
theorem Ct.args {β:Type} {f:Nat} {ins ins':List SC} {M:List br} {post:β -> Prop} {out:β -> SC} (h:Ct f ins M post out) (hle:vB ins' ins):Ct f ins' M post out:=fun w g hs args h1 h2 h3=>h w g hs args h1 (hle _ _ _ h2) h3
theorem uD {g:Gh} {hs:Nat -> Value} {x y:At} (hx:∀ u,x.ok g hs u -> y.ok g hs u):∀ {l:List At} {us:List Value} (j:Nat),l[j]? = some x -> oks g hs l us -> oks g hs (l.set j y) us
 | [],_,_,e,_=>by simp at e
 | _ :: _,[],_,_,h=>h.elim
 | a :: _,u :: _,0,e,h=>by
  simp at e
  subst e
  exact ⟨hx u h.1,h.2.1,h.2.2⟩
 | _ :: _,_ :: _,j + 1,e,h=>⟨h.1,h.2.1,uD hx j (by simpa using e) h.2.2⟩
theorem BF {α:Type} {i j p e ty:Nat} {T:Ty α} {cells:List At} (hm:S.M[i]? = some (.box cells ty false)) (hj:cells[j]? = some (.v (.slice none 0 0))) (hp:(my S.M [] (some (p,bf e T [])))[i]? = some (.box cells ty false)) (hr:S.refsAll (fun i=>!(Nat.beq i p))=true) (hk:dJ c S a w g hs) :
  ∃ hs',dJ c ⟨S.F,(my S.M [] (some (p,bf e T []))).set i (.box (cells.set j (.own p)) ty false)⟩ a w g hs':=by
 have he:=hk.eff (K:=[]) (p:=some (p,bf e T [])) (h':=.slice none 0 0) (Eff.refl hk.base) ⟨⟨[],World.ownsAt_nil _ _ _,cG.nil⟩,fun b hb=>by cases hb⟩ hr rfl
 refine ⟨_,he.retell (it':=.box (cells.set j (.own p)) ty false) hp rfl rfl ?_⟩
 obtain ⟨b,cs,h1,h2,h3⟩:=he.items i _ hp
 refine ⟨b,cs,h1,uD (fun u hu=>?_) j hj h2,h3⟩
 have:u=.slice none 0 0:=hu.1
 subst this
 refine ⟨?_,trivial⟩
 show _=(if p=p then _ else hs p)
 rw [if_pos rfl]
theorem fA {α:Type} {T:Ty α} {cells:List At} {ty:Nat} (i j p e:Nat) (hm:S.M[i]? = some (.box cells ty false)) (hj:cells[j]? = some (.v (.slice none 0 0))) (hp:(my S.M [] (some (p,bf e T ([]:List α))))[i]? = some (.box cells ty false)) (hr:S.refsAll (fun i=>!(Nat.beq i p))=true)
  (h:En c ⟨S.F,(my S.M [] (some (p,bf e T []))).set i (.box (cells.set j (.own p)) ty false)⟩ N):En c S N:=fun a w ⟨g,_,hk⟩=>by
 obtain ⟨hs',hk'⟩:=BF hm hj hp hr hk
 exact h a w ⟨g,hs',hk'⟩
theorem eY {t i off ty:Nat} {ti:TI} {x y:Operand} {s:SV} {cells r:List At} (ht:co.ok) (ho:o.op=.store t x y) (h1:co t=some ti) (hx:eL S.F x=some (.sv (.one (.ptr i off)))) (hm:S.M[i]? = some (.box cells ty false)) (hy:eL S.F y=some (.sv s)) (hj:s ≠ .one .junk)
  (hb:(Nat.beq (cF s).length ti.size && Nat.ble (off + (cF s).length) cells.length)=true) (hr:cells.take off ++ cF s ++ cells.drop (off + (cF s).length)=r):MU c S o i (.box r ty false):=hr ▸ G6 ht ho h1 hx hm hy hj hb
end
def d5 (l:List Int):ByteArray:=l.foldl (fun r n=>r.push (UInt8.ofNat n.toNat)) ByteArray.empty
theorem Ao (l:List Int):∀ s:ByteArray,(l.foldl (fun r n=>r.push (UInt8.ofNat n.toNat)) s).data.toList=s.data.toList ++ l.map fun n=>UInt8.ofNat n.toNat:=by
 induction l with
 | nil=>intro s; simp
 | cons n l ih=>intro s; rw [List.foldl_cons,ih]; simp [ByteArray.push]
theorem A2 {l m:List Int} (hl:∀ x ∈ l,0 <= x /\ x < 256) (hm:∀ x ∈ m,0 <= x /\ x < 256) (h:d5 l=d5 m):l=m:=by
 have e:=cZ (fun s:ByteArray=>s.data.toList) h
 simp only [d5,Ao] at e
 have e0:ByteArray.empty.data.toList=[]:=rfl
 rw [e0,List.nil_append,List.nil_append] at e
 clear h e0
 induction l generalizing m with
 | nil =>
  cases m with
  | nil=>rfl
  | cons y m=>simp at e
 | cons x l ih =>
  cases m with
  | nil=>simp at e
  | cons y m =>
   simp only [gu,List.cons.injEq] at e
   have h1:=hl x fD
   have h2:=hm y fD
   have h3:x.toNat=y.toNat:=by
    have:=cZ UInt8.toNat e.1
    simp only [UInt8.toNat_ofNat'] at this
    omega
   rw [ih (fun z hz=>hl z (d7 _ hz)) (fun z hz=>hm z (d7 _ hz)) e.2,show x=y by omega]
theorem cG.bytes {l:List Int} {g:Gh} {cs:List Value} {k:IntKind} (h:cG (ky k) l g cs):cs=l.map (Value.int k):=by
 obtain ⟨us,rfl,h2,h3⟩:=h
 have:us=l.map (Value.int k):=by
  refine mX fun q=>?_
  rw [cY]
  cases hu:us[q]? with
  | none =>
   have:=List.getElem?_eq_none_iff.1 hu
   rw [ko (by omega)]
   rfl
  | some u =>
   have hq:=(cg.1 hu).1
   have ha:l[q]? = some (l[q]'(by omega)):=cO (by omega)
   rw [ha]
   have:=(h3 q u _ hu ha).1.1
   show some u=some _
   rw [show u=_ from this]
 rw [this]
 clear this h2 h3
 induction l with
 | nil=>rfl
 | cons x l ih=>simp only [gu,jP,ih]; rfl
section
variable {c:eT} {S S1:St} {a:Act} {w:World} {g:Gh} {hs:Nat -> Value} {co:gY} {n:Nat} {o:Oper} {ops:Array Oper} {rest L:List Oper} {N:Po}
theorem Lb {α:Type} {T:Ty α} {es:List α} {y:Operand} {i e:Nat} (hT:T.solid) (hy:eL S.F y=some (.sv (.one (.own i)))) (hm:S.M[i]? = some (bf e T es)):DE c S y T es:=fun a w g hs h=>by
 have hv:a.eval y=hs i:=(bV h hy).1
 obtain ⟨cs,⟨hl0,r1⟩,r2⟩:=h.items i _ hm
 refine ⟨cs,?_,r2⟩
 rw [hv]
 rcases r1 with ⟨e1,e2⟩ | ⟨gb,of,cap,cur,e1,e4,_,_,_,e5⟩
 ·refine ⟨none,0,by rw [e1,e2],fun _=>⟨rfl,e2⟩,hl0,fun j u hj=>?_,fun u hu=>(r2.cells hT u hu).one⟩
  have:=(cg.1 hj).1
  rw [hl0,e2] at this
  omega
 ·refine ⟨some ⟨gb,of,none⟩,cap,e1,(fun h=>by cases h),hl0,fun j u hj=>⟨gb,of,rfl,?_⟩,fun u hu=>(r2.cells hT u hu).one⟩
  unfold World.cell?
  rw [<- e5,gP] at hj
  split at hj
  ·rw [iC] at hj
   simp only [e4]
   simpa using hj
  ·cases hj
theorem IK {l:List Int} {src t e:Nat} {x:Operand} (ho:o.op=.convert src t x) (h1:Tryz.prog.underlying src=some (.slice e)) (h2:Tryz.prog.underlying e=some (.int .u8)) (h3:Tryz.prog.underlying t=some .string) (hx:DE c S x (ky .u8) l):Val c S o (.sv (.one (.v (.string (d5 l))))):=fun a w g hs h=>by
 obtain ⟨cs,⟨ao,cp,e1,e2,e3,e4,e5⟩,r⟩:=hx a w g hs h
 obtain rfl:=r.bytes
 refine ⟨.string (d5 l),?_,rfl,trivial⟩
 have:(execOp a.eval o)=(do pure (.value (<- convert src t (a.eval x))):Sem Next):=by unfold execOp; rw [ho]
 rw [this]
 refine cX ?_
 rw [e1,run_convert_bytes_string w src t e ao _ cp h1 h2 h3]
 cases ao with
 | none =>
  obtain ⟨_,h0⟩:=e2 rfl
  obtain rfl:=tV h0
  rfl
 | some ad =>
  refine run_bytesToString w ad _ cp l ?_
  have:=run_loadCells_list (P:=Tryz.prog) (w:=w) ad (l.map (Value.int .u8)) fun j v hj=>by
   obtain ⟨b,of,h4,h5⟩:=e4 j v hj
   cases h4
   rw [gF]
   exact h5
  rw [df] at this
  exact this
theorem oc (u v:ByteArray):(u == v)=decide (u=v):=by
 cases u with
 | mk a =>
  cases v with
  | mk b =>
   show (a == b)=_
   by_cases e:a=b
   ·subst e; simp
   ·rw [show (a == b)=false from beq_eq_false_iff_ne.2 e]
    simp [e]
theorem tZ {κ α:Type} [DecidableEq κ] {enc:κ -> Value} {T:Ty α} {D:List (κ × α)} {x:Operand} {t i kt e:Nat} {r:Rl (Array MapEntry × Nat)} (ho:o.op=.call ⟨.builtin .len,#[x],#[t]⟩) (ht:Tryz.prog.underlying t=some (.map kt e)) (hx:eL S.F x=some (.sv (.one (.own i)))) (hm:S.M[i]? = some (.map r)) (hr:DG enc T D r):Val c S o (.sv (.one (I (D.length:Int)))):=fun a w g hs h=>by
 obtain ⟨m,D0,h1,⟨es,clock,h2,h3,_⟩,h4,_⟩:=uK h hm hr
 have hv:a.eval x=.map (some m):=(bV h hx).1.trans h1
 have hl:es.size=D.length:=by
  have e1:=cZ List.length h3
  have e2:=cZ List.length h4
  simp only [df,fq] at e1 e2
  omega
 have hrun:(execOp a.eval o).run Tryz.prog w=.ok (.value (.int .i64 (D.length:Int))) w:=by
  have:execOp a.eval o=(do pure (.value (<- Builtin.len_ #[t] o.type #[a.eval x])):Sem Next):=by
   unfold execOp
   rw [ho]
   simp [resolve,invoke,builtin]
  rw [this,hv]
  refine cX ?_
  simp [Builtin.len_,run_underlying ht,MapKept.run_getObj_map h2,hl,goInt,Result.andThen]
 exact ⟨_,hrun,rfl,trivial⟩
theorem rT (p:Nat) (t:Nat) {ti:TI} {cells:List At} (ht:co.ok) (ho:o.op=.alloc t) (h1:co t=some ti) (hz:ti.zero.map .v=cells):MT c S o (.sv (.one (.ptr p 0))) [] (some (p, .box cells t false)):=hz ▸ Hb p ht ho h1
end
end
end Go.Proofs.YtmdbjpljlniloaaGreat
namespace Go.Proofs.YtmdbjpljlniloaaGreat
open Go.ChangeShapes Go.WideShapes Go.ChangeAt Go.RowKit
set_option maxRecDepth 100000
noncomputable section
end
end Go.Proofs.YtmdbjpljlniloaaGreat
namespace Go.Proofs.YtmdbjpljlniloaaGreat
open Go.RowKit
set_option maxRecDepth 100000
noncomputable section
def fI {α:Type} (p:α -> Bool) (l:List α):Int:=match l.findIdx? p with | some k=>k | none=>-1
theorem jX {α:Type} (p:α -> Bool) (l:List α):decide (0 <= fI p l)=l.any p:=by
 unfold fI
 cases h:l.findIdx? p with
 | none =>
  rw [List.findIdx?_eq_none_iff] at h
  have:l.any p=false:=by
   rw [oL]
   intro x hx
   simp [h x hx]
  rw [this]
  rfl
 | some k =>
  obtain ⟨hk,hp,_⟩:=List.findIdx?_eq_some_iff_getElem.1 h
  have:l.any p=true:=jH.2 ⟨_,dK hk,hp⟩
  rw [this]
  simp
theorem wM {α:Type} [Inhabited α] {p:α -> Bool} {l:List α} {k:Nat} (d:α) (hk:k < l.length) (hp:p (l.getD k d)=true) (hn:∀ j,j < k -> p (l.getD j d)=false):fI p l=k:=by
 unfold fI
 have:l.findIdx? p=some k:=by
  rw [List.findIdx?_eq_some_iff_getElem]
  refine ⟨hk,by simpa [hk] using hp,fun j hj=>?_⟩
  have:=hn j hj
  simp [show j < l.length by omega] at this
  simp [this]
 rw [this]
theorem uS {α:Type} {p:α -> Bool} {l:List α} (d:α) (hn:∀ j,j < l.length -> p (l.getD j d)=false):fI p l = -1:=by
 unfold fI
 have:l.findIdx? p=none:=by
  rw [List.findIdx?_eq_none_iff]
  intro x hx
  obtain ⟨j,hj,rfl⟩:=List.mem_iff_getElem.1 hx
  have:=hn j hj
  simpa [hj] using this
 rw [this]
end
end Go.Proofs.YtmdbjpljlniloaaGreat
namespace Go.Proofs.YtmdbjpljlniloaaGreat
open Go.RowKit Go.MapKept
set_option maxRecDepth 100000
noncomputable section
theorem nt {α:Type} [Inhabited α] (l:List α) (dom:α -> Prop) (φ:α -> Bool) (hd:∀ x ∈ l,dom x):l.length <= 9223372036854775807 -> (∃ (Inv:Int -> Prop) (mu:Int -> Nat),Inv 0 /\
 ∀ x8,Inv x8 -> (cv (decide (x8 < (l.length:Int))) (∃ e,cq l x8=some e /\ dom e /\ cv (φ e) (x8=fI φ l) (Inv (wr (x8 + 1)) /\ mu (wr (x8 + 1)) < mu x8)) (-1=fI φ l))):=by
 intro hl
 refine ⟨fun x=>∃ k:Nat,x=k /\ k <= l.length /\ ∀ j e,j < k -> l[j]? = some e -> φ e=false,fun x=>l.length - x.toNat,⟨0,rfl,cy _,fun j e hj=>absurd hj (e9 _)⟩,?_⟩
 rintro x ⟨k,rfl,hk,hp⟩
 refine ⟨fun hb=>?_,fun hb=>?_⟩
 ·have hlt:k < l.length:=by simpa using hb
  refine ⟨l[k],by simp [cq,hlt],hd _ (dK hlt),fun h1=>?_,fun h1=>?_⟩
  ·exact (wM l[k] hlt (by simpa [hlt] using h1) (fun j hj=>by
    have hjl:j < l.length:=by omega
    simpa [hjl] using hp j _ hj (cO hjl))).symm
  ·rw [bL (by omega) (by omega)]
   refine ⟨⟨k + 1,by omega,by omega,fun j e hj he=>?_⟩,by simp only; omega⟩
   by_cases ej:j=k
   ·subst ej
    simp [hlt] at he
    subst he
    exact h1
   ·exact hp j e (by omega) he
 ·have e:k=l.length:=by simp at hb; omega
  by_cases h0:l=[]
  ·subst h0; rfl
  ·have h1:0 < l.length:=List.length_pos_iff.2 h0
   exact (uS (l[0]) fun j hj=>by simpa [hj] using hp j _ (by omega) (cO hj)).symm
def CtS {β:Type} (f:Nat) (ins:List SC) (M:List br) (post:β -> Prop) (out:β -> SC) (itf:β -> br):Prop:=∀ (w:World) (g:Gh) (hs:Nat -> Value) (args:List Value),pu g w -> dN g hs ins args -> (∀ (i:Nat) (it:br),M[i]? = some it -> E8 g hs (hs i) it) ->
 Calls Tryz.prog f args.toArray w (fun en w'=>∃ v g' r h',en=.returned v /\ post r /\ j7 (nK 0 w g) w' g' /\ (out r).ok g' (fun _=>h') v /\ (itf r).ok g' gS w' h' /\ ∀ b,fW h' b -> b < w'.heap.size /\ w.heap.size <= b /\ g' b=none)
def Kr {β:Type} (c:eT) (rs:Array ResultVar) (post:β -> Prop) (out:β -> SC) (itf:β -> br):Po:=fun a w=>a.defers=c.dfr /\ ∃ v g' r h',(vE rs a.tmps).run Tryz.prog w=.ok v w /\ post r /\ j7 c w g' /\ (out r).ok g' (fun _=>h') v /\ (itf r).ok g' gS w h' /\ ∀ b,fW h' b -> b < w.heap.size /\ c.w0.heap.size <= b /\ g' b=none
section
variable {c:eT} {S S1:St} {a:Act} {w:World} {g:Gh} {hs:Nat -> Value} {co:gY} {o:Oper}
theorem CtS.body {β:Type} {post:β -> Prop} {out:β -> SC} {itf:β -> br} {f:Nat} {fn:Func} {code:Code} {n:Nat} {rs:Array ResultVar} {ins:List SC} {M:List br} (hf:Tryz.prog.funcs[f]? = some fn) (hb:fn.body=some code) (hn:fn.ntmps=n) (hr:fn.results=rs)
  (hl:Nat.ble ins.length n=true) (h:∀ c:eT,c.n=n -> c.may=(fun _=>False) -> En c ⟨p6 0 ins,M⟩ (cwp code (PQ c (Kr c rs post out itf) [] (Kr c rs post out itf)))):CtS f ins M post out itf:=fun w g hs args hp ha hm=>by
 have hl:=dM hl
 have hla:=f6 ha
 refine calls_of_wp hf hb (Code.wp_mono (fun ex a w' q=>?_) (h (nK n w g) rfl rfl { tmps:=args.toArray ++ Array.replicate (fn.ntmps - args.toArray.size) undef,defers:=[] } w ⟨g,hs,?_⟩))
 ·have key:Kr (nK n w g) rs post out itf a w' -> a.defers=[] /\ ∃ v,(results fn a.tmps).run Tryz.prog w'=.ok v w' /\ ∃ v' g' r' h',Ending.returned v=.returned v' /\ post r' /\ j7 (nK 0 w g) w' g' /\ (out r').ok g' (fun _=>h') v' /\ (itf r').ok g' gS w' h' /\ ∀ b,fW h' b -> b < w'.heap.size /\ w.heap.size <= b /\ g' b=none:=fun ⟨h1,v,g',r',h',h2,h4,h5,h6,h7,h8⟩=>by
   refine ⟨h1,v,?_,v,g',r',h',rfl,h4,⟨h5.os,h5.tape,h5.output,h5.grows,h5.frame,h5.ghle,h5.ghnew,h5.pers⟩,h6,h7,h8⟩
   subst hr
   exact h2
  cases ex <;> first | exact key q | exact (q:False).elim | exact (q.2:False).elim
 ·refine ⟨?_,rfl,⟨rfl,rfl,rfl,bP _,fun _ _ _=>rfl,Gh.le.refl g,fun b o e=>.inl e,hp⟩,fun t x hx=>?_,fun i it hi=>?_,?_,?_⟩
  ·simp [nK,hn]
   omega
  ·obtain ⟨u,h1,_,h3⟩:=lR ha hx
   simp only [Nat.sub_zero] at h1
   have hlt:=(cg.1 h1).1
   have:(args.toArray ++ Array.replicate (fn.ntmps - args.toArray.size) undef).getD t undef=u:=by
    rw [gz,tW (by simpa using hlt)]
    simp [h1]
   rw [this]
   exact h3
  ·have:=hm i it hi
   cases it <;> try exact this.elim
   rename_i cells ty fz
   cases fz
   ·exact this.elim
   ·obtain ⟨b,cs,h1,h2,h3⟩:=this
    exact ⟨b,cs,h1,h2,hp _ _ h3,fun _=>h3⟩
  ·intro i j it jt _ hi _ hfi
   have:=hm i it hi
   cases it <;> try exact this.elim
   rename_i cells ty fz
   cases fz
   ·exact this.elim
   ·cases hfi
  ·intro i it hi hnn b hb
   clear hnn
   have:=hm i it hi
   cases it <;> try exact this.elim
   rename_i cells ty fz
   cases fz
   ·exact this.elim
   ·obtain ⟨b',cs,h1,h2,h3⟩:=this
    rw [h1] at hb
    cases hb
    exact ⟨hp.lt h3,fun h=>by cases h⟩
theorem Be {β:Type} {post:β -> Prop} {out:β -> SC} {itf:β -> br} {rs:Array ResultVar} (ht:co.ok) (p:Nat) (r:β) (hmay:c.may=fun _=>False) (hp:post r) (e:evR co S rs=some ((out r).ren fun _=>p)) (hm:S.M[p]? = some (itf r)) (hz:(itf r).fz=false) (hr:(itf r).refs=[]):En c S (Kr c rs post out itf):=fun a w ⟨g,hs,h⟩=>by
 obtain ⟨v,h1,h2⟩:=yM ht h e
 refine ⟨h.defers,v,g,r,hs p,h1,hp,h.base,SC.ok_ren h2,br.ok_hs (fun j hj=>by rw [hr] at hj; cases hj) (h.items p _ hm),fun b hb=>?_⟩
 obtain ⟨m1,m2⟩:=h.mine p _ hm (dy hz) b hb
 obtain ⟨m3,m4⟩:=m2 hz
 rw [hmay] at m3
 exact ⟨m1,m3.resolve_left (fun h=>h),m4⟩
theorem dJ.boxTurn {i j ty:Nat} {cells:List At} {fz:Bool} {x y:At} (hk:dJ c S a w g hs) (hm:S.M[i]? = some (.box cells ty fz)) (hj:cells[j]? = some x) (hx:∀ u,x.ok g hs u -> y.ok g hs u):dJ c ⟨S.F,S.M.set i (.box (cells.set j y) ty fz)⟩ a w g hs:=by
 have hlt:=(cg.1 hm).1
 have hold:∀ (k:Nat) (it:br),(S.M.set i (.box (cells.set j y) ty fz))[k]? = some it -> ∃ jt,S.M[k]? = some jt /\ jt.fz=it.fz /\ (it ≠ .gone -> jt ≠ .gone):=fun k it h=>by
  rw [dT] at h
  by_cases e:i=k
  ·subst e
   rw [if_pos rfl,if_pos hlt] at h
   cases h
   exact ⟨_,hm,rfl,fun _ h=>by cases h⟩
  ·rw [if_neg e] at h
   exact ⟨it,h,rfl,fun h=>h⟩
 refine ⟨hk.size,hk.defers,hk.base,hk.slots,fun k it h=>?_,fun k l it jt hkl h1 h2 h3 h4=>?_,fun k it h hn=>?_⟩
 ·rw [dT] at h
  by_cases e:i=k
  ·subst e
   rw [if_pos rfl,if_pos hlt] at h
   cases h
   obtain ⟨b,cs,e1,e2,e3,e4⟩:=hk.items i _ hm
   exact ⟨b,cs,e1,uD hx j hj e2,e3,e4⟩
  ·rw [if_neg e] at h
   exact hk.items k it h
 ·obtain ⟨kt,k1,k2,_⟩:=hold k it h1
  obtain ⟨lt,l1,_,l3⟩:=hold l jt h2
  exact hk.sep k l kt lt hkl k1 l1 (k2.trans h3) (l3 h4)
 ·obtain ⟨kt,k1,k2,k3⟩:=hold k it h
  intro b hb
  obtain ⟨m1,m2⟩:=hk.mine k kt k1 (k3 hn) b hb
  exact ⟨m1,fun hf=>m2 (k2.trans hf)⟩
theorem vz {N:Po} {ty:Nat} {cells:List At} {fz:Bool} {x:At} (y:At) (i j:Nat) (hm:S.M[i]? = some (.box cells ty fz)) (hj:cells[j]? = some x) (hx:∀ a w g hs,dJ c S a w g hs -> ∀ u,x.ok g hs u -> y.ok g hs u) (h:En c ⟨S.F,S.M.set i (.box (cells.set j y) ty fz)⟩ N):En c S N:=fun a w ⟨g,hs,hk⟩ =>
 h a w ⟨g,hs,hk.boxTurn hm hj (hx a w g hs hk)⟩
theorem B7 {N:Po} {ops:Array Oper} {L:List Oper} {ty:Nat} {cells:List At} {fz:Bool} {x:At} (y:At) (i j:Nat) (hm:S.M[i]? = some (.box cells ty fz)) (hj:cells[j]? = some x) (hx:∀ a w g hs,dJ c S a w g hs -> ∀ u,x.ok g hs u -> y.ok g hs u) (h:WL c ops L ⟨S.F,S.M.set i (.box (cells.set j y) ty fz)⟩ N):WL c ops L S N:=fun a w ⟨g,hs,hk⟩ =>
 h a w ⟨g,hs,hk.boxTurn hm hj (hx a w g hs hk)⟩
theorem AK {r:Rd} {x:At} (h:∀ a w g hs,dJ c S a w g hs -> ∀ u,SC.ok g hs (.sv (.one x)) u -> SC.ok g hs (.sv (.one (.rd r))) u):∀ a w g hs,dJ c S a w g hs -> ∀ u,x.ok g hs u -> At.ok g hs (.rd r) u:=h
theorem dc (i off q:Nat) {t m el sz:Nat} {te:TI} {x ix:Operand} {ik:IntKind} {k:Int} (ht:co.ok) (ho:o.op=.indexAddr t x ix) (hu:Tryz.prog.underlying t=some (.array m el)) (h3:co el=some te) (h4:te.size=sz) (hx:eL S.F x=some (.sv (.one (.ptr i off)))) (hi:evK S.F ix=some (.int ik k)) (h0:0 <= k /\ k < (m:Int)) (hq:off + k.toNat * sz=q):Val c S o (.sv (.one (.ptr i q))):=fun a w g hs h=>by
 subst hq
 obtain ⟨⟨b,hb,hv⟩,_⟩:=bV h hx
 refine ⟨.pointer (some ⟨b,off + k.toNat * sz,none⟩),?_,⟨b,hb,rfl⟩,trivial⟩
 have:(execOp a.eval o)=(do pure (.value (<- Instr.indexAt t (a.eval x) (a.eval ix))):Sem Next):=by unfold execOp; rw [ho]
 rw [this]
 refine cX ?_
 have hv':a.eval x=.pointer (some ⟨b,off,none⟩):=hv
 simp only [Instr.indexAt,eQ h hi,asIntOf,hv',Instr.sureAddr,bW,db,ce,run_underlying hu,if_pos h0,(ht el te h3).run_size,h4,gF]
end
def cW (l:List Int) (k:Int):Int:=l.getD k.toNat 0
def gn (k:Int) (j:Nat) (v e:Int):Int:=if k=(j:Int) then v else e
def vD (k v:Int):Nat -> List Int -> List Int
 | _,[]=>[]
 | j,e :: es=>gn k j v e :: vD k v (j + 1) es
theorem z9 {k v:Int}:∀ (l:List Int) (j:Nat),k < (j:Int) -> vD k v j l=l
 | [],_,_=>rfl
 | e :: es,j,h=>by
  rw [vD,z9 es (j + 1) (by omega),gn,if_neg (by omega)]
theorem CF {k v:Int}:∀ (l:List Int) (j q:Nat),k=((j + q:Nat):Int) -> q < l.length -> (l.map I).take q ++ [I v] ++ (l.map I).drop (q + 1)=(vD k v j l).map I
 | [],_,_,_,h=>absurd h (e9 _)
 | e :: es,j,0,hk,_=>by
  rw [vD,z9 es (j + 1) (by omega),gn,if_pos (by omega)]
  rfl
 | e :: es,j,q + 1,hk,h=>by
  rw [vD,show gn k j v e=e from if_neg (by omega)]
  have:=CF (k:=k) (v:=v) es (j + 1) q (by omega) (by simpa using h)
  rw [gu,gu,<- this]
  rfl
theorem IZ (l:List Int) {k v:Int} (h:0 <= k /\ k < (l.length:Int)):(l.map I).take k.toNat ++ [I v] ++ (l.map I).drop (k.toNat + 1)=(vD k v 0 l).map I:=
 CF l 0 k.toNat (by omega) (by omega)
theorem zt (l:List Int) {k:Int} (h:0 <= k /\ k < (l.length:Int)):(l.map I)[k.toNat]? = some (I (cW l k)):=by
 have:k.toNat < l.length:=by omega
 unfold cW
 rw [cY,er,cO this]
 rfl
theorem wG {cells:List At} {q:Nat} {y:At} (h:cells[q]? = some y):iG cells q 1 false=some (.one y):=by
 unfold iG
 rw [h]
section
variable {c:eT} {S S1:St} {o:Oper} {co:gY} {n:Nat} {ops:Array Oper} {rest:List Oper} {N:Po}
end
section
variable {c:eT} {S S1:St} {a:Act} {w:World} {g:Gh} {hs:Nat -> Value} {co:gY} {n:Nat} {o:Oper} {ops:Array Oper} {rest L:List Oper} {N:Po}
theorem Ay {x:SC} {K:List Nat} {p:Option (Nat × br)} {ty:Nat} {cells:List At} {fz:Bool} {u0:At} (y:At) (i j:Nat) (hm:S.M[i]? = some (.box cells ty fz)) (hj:cells[j]? = some u0) (hx:∀ a w g hs,dJ c S a w g hs -> ∀ u,u0.ok g hs u -> y.ok g hs u) (h:MT c ⟨S.F,S.M.set i (.box (cells.set j y) ty fz)⟩ o x K p):MT c S o x K p:=fun a w g hs hk =>
 h a w g hs (hk.boxTurn hm hj (hx a w g hs hk))
end
section
variable {c:eT} {S S1:St} {a:Act} {w:World} {g:Gh} {hs:Nat -> Value} {co:gY} {n:Nat} {o:Oper} {ops:Array Oper} {rest L:List Oper} {N:Po}
end
def Cw (l:List Oper) (m:Nat):Bool:=(List.range l.length).all fun k=>Nat.blt k m || (List.range k).all fun j=>(onI l k).contains j || (ra l k (onI l k)).contains j
theorem mG {l:List Oper} {L:Nat -> Bool} (hc:i6 l L):∀ (n:Nat) {s:List Nat},(∀ j ∈ s,L j=true) -> ∀ j ∈ ra l n s,L j=true
 | 0,s,h,j,hj=>h j hj
 | n + 1,s,h,j,hj=>by
  unfold ra at hj
  split at hj
  ·rename_i hm
   refine mG hc n (fun k hk=>?_) j hj
   rcases gO.1 hk with hk | hk
   ·exact h k hk
   ·exact (hc n (h n (gN.1 hm))).2 k hk
  ·exact mG hc n h j hj
theorem zU {l:List Oper} {m:Nat} (ht:Cw l m=true) {L:Nat -> Bool} (hc:i6 l L) {i:Nat} {o:Oper} (hi:l[i]? = some o) (hm:m <= i) (hon:∀ j ∈ onE o,L j=true):∀ j,j < i -> L j=true:=fun j hj=>by
 have hlt:=(cg.1 hi).1
 have h1:=cI.1 ht i (d6.2 hlt)
 rw [fc] at h1
 rcases h1 with h1 | h1
 ·have:=dM h1
  omega
 ·have h2:=cI.1 h1 j (d6.2 hj)
  rw [uB hi,fc] at h2
  rcases h2 with h2 | h2
  ·exact hon j (gN.1 h2)
  ·exact mG hc i hon j (gN.1 h2)
theorem gL {a b:Nat}:Nat.blt a b=true ↔ a < b:=⟨fun h=>dM h,fun h=>Nat.ble_eq_true_of_le h⟩
section
variable {c:eT} {C:eK} {l:List Oper} {n m:Nat} {N:Po}
theorem Cv (hb:∀ (i:Nat) (o:Oper),l[i]? = some o -> ∀ j ∈ onE o,j < i) (ht:Cw l m=true):∀ (fuel k:Nat) (listed:Array Bool) (a:Act) (w:World),k + fuel=l.length -> m <= k -> listed.size=l.length -> LB listed=(fun i=>Nat.blt i k) -> wpList Tryz.prog l.toArray (gm c N) (l.drop k) a w -> wpAny Tryz.prog .any l.toArray (gm c N) fuel listed a w:=by
 have hcl:∀ k,k <= l.length -> i6 l (fun i=>Nat.blt i k):=fun k hk i hi=>by
  have hi:=gL.1 hi
  refine ⟨by omega,fun j hj=>gL.2 ?_⟩
  have ho:l[i]? = some (l[i]'(by omega)):=cO (by omega)
  rw [uB ho] at hj
  have:=hb i _ ho j hj
  omega
 intro fuel
 induction fuel with
 | zero =>
  intro k listed a w hk hm hsz hL hw
  have hk:k=l.length:=by omega
  subst hk
  rw [List.drop_length] at hw
  refine ⟨?_,hw⟩
  cases hr:Region.ready .any l.toArray listed with
  | nil=>rfl
  | cons i r =>
   obtain ⟨o,ho,hF,_⟩:=lH hsz (i:=i) (by rw [hr]; simp)
   have hF2:Nat.blt i l.length=false:=by rw [hL] at hF; exact hF
   have:Nat.blt i l.length=true:=gL.2 (cg.1 ho).1
   rw [this] at hF2
   cases hF2
 | succ fuel ih =>
  intro k listed a w hk hm hsz hL hw
  have hkl:k < l.length:=by omega
  refine ⟨fun hr=>?_,fun i hi=>?_⟩
  ·have:=rE hsz hb hr k hkl
   rw [hL] at this
   have:=gL.1 this
   omega
  ·obtain ⟨o,ho,hF,hon⟩:=lH hsz hi
   have hik:k <= i:=by
    refine rp fun hc=>?_
    have:LB listed i=true:=by rw [hL]; exact gL.2 (by omega)
    rw [this] at hF
    cases hF
   have hik:i=k:=by
    refine rp fun hc=>?_
    have hcl':=hcl k (by omega)
    rw [hL] at hon
    have:=gL.1 (zU ht hcl' ho (by omega) hon k (by omega))
    omega
   subst hik
   have hset:=Cc (listed:=listed) (i:=i) (by omega)
   have hnext:∀ a' w',wpList Tryz.prog l.toArray (gm c N) (l.drop (i + 1)) a' w' -> wpAny Tryz.prog .any l.toArray (gm c N) fuel (listed.setIfInBounds i true) a' w':=fun a' w' h'=>by
    refine ih (i + 1) _ a' w' (by omega) (by omega) (by simpa using hsz) ?_ h'
    rw [hset,hL]
    funext j
    unfold i7
    by_cases e:j=i
    ·rw [if_pos e]
     exact (gL.2 (by omega)).symm
    ·rw [if_neg e]
     show Nat.blt j i=Nat.blt j (i + 1)
     cases h1:Nat.blt j i with
     | true=>exact (gL.2 (by have:=gL.1 h1; omega)).symm
     | false =>
      cases h2:Nat.blt j (i + 1) with
      | false=>rfl
      | true =>
       have:=gL.1 h2
       have:Nat.blt j i=true:=gL.2 (by omega)
       rw [h1] at this
       cases this
   have hd:l.drop i=o :: l.drop (i + 1):=by
    rw [tU hkl]
    congr 1
    rw [cO hkl] at ho
    exact Option.some.inj ho
   rw [hd] at hw
   unfold wpList at hw
   unfold wpOp
   have ho':l.toArray[i]? = some o:=by simpa using ho
   rw [ho']
   simp only
   split
   ·rename_i hwant
    rw [if_pos hwant] at hw
    rcases hw with hw | hw
    ·exact .inl (Oper.wp_mono hnext hw)
    ·exact .inr hw
   ·rename_i hwant
    rw [if_neg hwant] at hw
    exact hnext _ _ hw
theorem Kp (hk:Chk C l) (hn:c.n=n) (hd:(l.all fun o=>match o.dst with | some d=>Nat.blt d n | none=>true)=true) (hml:m <= l.length) (ht:Cw l m=true) (hs:kS c C l 0 (l.take m))
  (hN:∀ a w,Ok c ⟨C.FL l (fun i=>Nat.blt i m),C.ML (fun i=>Nat.blt i m)⟩ a w -> wpList Tryz.prog l.toArray (gm c N) (l.drop m) a w) :
  ∀ (fuel:Nat) (listed:Array Bool) (a:Act) (w:World),listed.size=l.length -> i6 l (LB listed) -> (∀ i,LB listed i=true -> i < m) -> (listed.toList.filter id).length + fuel=l.length -> Ok c ⟨C.FL l (LB listed),C.ML (LB listed)⟩ a w -> wpAny Tryz.prog .any l.toArray (gm c N) fuel listed a w:=by
 have full:∀ listed:Array Bool,(∀ i,LB listed i=true -> i < m) -> (∀ i,i < m -> LB listed i=true) -> LB listed=fun i=>Nat.blt i m:=fun listed h1 h2=>by
  funext i
  cases hL:LB listed i with
  | true=>exact (gL.2 (h1 i hL)).symm
  | false =>
   cases hb:Nat.blt i m with
   | false=>rfl
   | true=>rw [h2 i (gL.1 hb)] at hL; cases hL
 have cnt:∀ (q:List Bool) (r:Nat),r <= q.length -> (∀ i,i < q.length -> q.getD i false=Nat.blt i r) -> (q.filter id).length=r:=by
  intro q
  induction q with
  | nil=>intro r h _; simp at h; simp [h]
  | cons x q ih =>
   intro r h hq
   have h0:=hq 0 (by simp)
   rw [List.getD_cons_zero] at h0
   cases r with
   | zero =>
    have hx:x=false:=h0
    have:=ih 0 (cy _) fun i hi=>by
     have h2:=hq (i + 1) (by simp; omega)
     rw [List.getD_cons_succ] at h2
     rw [h2]
     rfl
    subst hx
    simpa using this
   | succ r =>
    have hx:x=true:=h0
    have:=ih r (by simpa using h) fun i hi=>by
     have h2:=hq (i + 1) (by simp; omega)
     rw [List.getD_cons_succ] at h2
     rw [h2]
     rfl
    subst hx
    simpa using this
 intro fuel
 induction fuel with
 | zero =>
  intro listed a w hsz hcl hlt hcnt hok
  have hall:∀ i,i < l.length -> LB listed i=true:=fun i hi=>by
   have hlen:listed.toList.length=l.length:=by simpa using hsz
   have:=wZ listed.toList (by omega) (listed[i]'(by omega)) (by simp)
   unfold LB
   rw [gz]
   simp [hsz,hi,this]
  have hme:m=l.length:=by
   refine rp fun hc=>?_
   have:=hlt m (hall m (by omega))
   omega
  have hf:=full listed hlt fun i hi=>hall i (by omega)
  exact Cv hk.below ht 0 m listed a w (by omega) (bP _) hsz hf (hN a w (hf ▸ hok))
 | succ fuel ih =>
  intro listed a w hsz hcl hlt hcnt hok
  by_cases hA:∀ i,i < m -> LB listed i=true
  ·have hf:=full listed hlt hA
   have hc:(listed.toList.filter id).length=m:=cnt listed.toList m (by simpa [hsz] using hml) fun i hi=>by
    have:=congrFun hf i
    unfold LB at this
    rw [<- this,gz,er]
    simp
   exact Cv hk.below ht (fuel + 1) m listed a w (by omega) (bP _) hsz hf (hN a w (hf ▸ hok))
  ·obtain ⟨i0,h0⟩:=Classical.not_forall.1 hA
   obtain ⟨h0m,h0L⟩:=Classical.not_imp.1 h0
   refine ⟨fun hr=>absurd (rE hsz hk.below hr i0 (by omega)) h0L,fun i hi=>?_⟩
   obtain ⟨o,ho,hL,hon⟩:=lH hsz hi
   have hltl:=(cg.1 ho).1
   have him:i < m:=by
    refine rp fun hc=>h0L ?_
    exact zU ht hcl ho (by omega) hon i0 (by omega)
   have hst:=m7 hs i o (by rw [List.getElem?_take_of_lt him]; exact ho)
   rw [gt] at hst
   have hset:=Cc (listed:=listed) (i:=i) (by omega)
   have hnext:∀ a' w',Ok c ⟨C.FL l (i7 (LB listed) i),C.ML (i7 (LB listed) i)⟩ a' w' -> wpAny Tryz.prog .any l.toArray (gm c N) fuel (listed.setIfInBounds i true) a' w':=fun a' w' h'=>by
    refine ih _ a' w' (by simpa using hsz) ?_ ?_ ?_ (by rw [hset]; exact h')
    ·rw [hset]
     intro j hj
     unfold i7 at hj ⊢
     by_cases e:j=i
     ·subst e
      refine ⟨hltl,fun k hk'=>?_⟩
      rw [uB ho] at hk'
      split
      ·rfl
      ·exact hon k hk'
     ·rw [if_neg e] at hj
      obtain ⟨h1,h2⟩:=hcl j hj
      refine ⟨h1,fun k hk'=>?_⟩
      split
      ·rfl
      ·exact h2 k hk'
    ·rw [hset]
     intro j hj
     unfold i7 at hj
     by_cases e:j=i
     ·omega
     ·rw [if_neg e] at hj
      exact hlt j hj
    ·rw [Array.toList_setIfInBounds,count_set]
     ·omega
     ·unfold LB at hL
      rw [gz] at hL
      have:listed[i]? = some listed[i]:=by simp [hsz,hltl]
      rw [this] at hL
      simp at hL
      rw [mW,this,hL]
   have:=CC (Z:=N) hk hcl hn hd ho hL hon hst hok hnext
   unfold wpOp
   have ho':l.toArray[i]? = some o:=by simpa using ho
   rw [ho']
   simp only
   split
   ·rename_i hw
    rw [if_pos hw] at this
    exact .inl this
   ·rename_i hw
    rw [if_neg hw] at this
    exact this
theorem dt {S:St} {id:Nat} {E:List (Nat × Po)} {R:Po} (C:eK) (m:Nat) (fin:St) (hm:Tryz.prog.follows .mixedOrders=true) (hn:c.n=n) (hml:Nat.ble m l.length=true) (ht:Cw l m=true) (hk:Fl C l=true) (hd:(l.all fun o=>match o.dst with | some d=>Nat.blt d n | none=>true)=true)
  (h0:jf ⟨C.FL l (fun _=>false),C.ML (fun _=>false)⟩ S=je ⟨C.FL l (fun _=>false),C.ML (fun _=>false)⟩) (hs:kS c C l 0 (l.take m))
  (h1:jf fin ⟨C.FL l (fun i=>Nat.blt i m),C.ML (fun i=>Nat.blt i m)⟩=je fin) (h2:WL c l.toArray (l.drop m) fin N):En c S (cwp (.region id l.toArray true) (PQ c N E R)):=fun a w ⟨g,hs',hok⟩=>by
 have hok1:dJ c S a w.drew g hs':=hok.grown (o9 w)
 have hL:LB (Array.replicate l.length false)=fun _=>false:=by
  funext i
  unfold LB
  rw [gz,Array.getElem?_replicate]
  split <;> rfl
 refine Code.wp_mono (fun e a w q=>?_) (wp_region_any (Q:=gm c N) hm (Kp (HQ hk) hn hd (dM hml) ht hs (fun a w h=>h2 a w (sub_ok h1 a w h)) l.toArray.size _ a w.drew (by simp) ?_ ?_ ?_ ?_))
 ·cases e <;> first | exact q | exact (q:False).elim
 ·intro i hi
  simp only [f9] at hi
  rw [hL] at hi
  cases hi
 ·intro i hi
  simp only [f9] at hi
  rw [hL] at hi
  cases hi
 ·simp only [f9,Array.toList_replicate]
  rw [List.filter_replicate_of_neg (by simp)]
  simp
 ·simp only [f9]
  rw [hL]
  exact sub_ok h0 a w.drew ⟨g,hs',hok1⟩
end
end
end Go.Proofs.YtmdbjpljlniloaaGreat
namespace Go.Proofs.YtmdbjpljlniloaaGreat
open Go.RowKit Go.MapKept Go.ChangeMaps
set_option maxRecDepth 100000
noncomputable section
section
variable {κ α:Type} [DecidableEq κ]
end
section
variable {κ α:Type} [DecidableEq κ] {enc:κ -> Value} {T:Ty α} {D:List (κ × α)} {es:Array MapEntry} {ck:Nat}
variable {c:eT} {S S1:St} {n:Nat} {o:Oper} {ops:Array Oper} {rest L:List Oper} {N:Po}
end
end
end Go.Proofs.YtmdbjpljlniloaaGreat
namespace Go.Proofs.YtmdbjpljlniloaaGreat
open Go.RowKit Go.MapKept
set_option maxRecDepth 100000
noncomputable section
def Ls (pin:List Nat) (V:Nat -> Value):SC -> SC
 | .sv (.one (.own i))=>bif pin.any (Nat.beq i) then .sv (.one (.pown i (V i))) else .sv (.one (.own i))
 | x=>x
def Ks {β:Type} (c:eT) (rs:Array ResultVar) (pin:List Nat) (V:Nat -> Value) (post:β -> Prop) (out:β -> SC) (M':β -> List br):Po:=fun a w=>a.defers=c.dfr /\ ∃ v g hs r,(vE rs a.tmps).run Tryz.prog w=.ok v w /\ post r /\ (out r).ok g hs v /\ (∀ i ∈ pin,hs i=V i) /\ j7 c w g /\ fT c.may c.w0.heap.size (M' r) g hs w
theorem sG {g:Gh} {hs:Nat -> Value} {pin:List Nat}:∀ {l:List SC} {us:List Value},dN g hs l us -> dN g hs (l.map (Ls pin hs)) us
 | [],[],_=>trivial
 | [],_ :: _,h=>h.elim
 | _ :: _,[],h=>h.elim
 | x :: l,u :: us,h=>by
  refine ⟨?_,sG h.2⟩
  have h1:=h.1
  unfold Ls
  split
  ·rename_i i
   cases hc:pin.any (Nat.beq i) with
   | false=>exact h1
   | true =>
    obtain ⟨h2,h3⟩:=h1
    exact ⟨⟨rfl,h2⟩,h3⟩
  ·exact h1
theorem eZ {β:Type} {f:Nat} {fn:Func} {code:Code} {n:Nat} {rs:Array ResultVar} {ins:List SC} {M:List br} {pin:List Nat} {post:β -> Prop} {out:β -> SC} {M':β -> List br} (hf:Tryz.prog.funcs[f]? = some fn) (hb:fn.body=some code) (hn:fn.ntmps=n) (hr:fn.results=rs)
  (hl:Nat.ble ins.length n=true) (h:∀ (c:eT) (V:Nat -> Value),c.n=n -> En c ⟨p6 0 (ins.map (Ls pin V)),M⟩ (cwp code (PQ c (Ks c rs pin V post out M') [] (Ks c rs pin V post out M')))):fj f ins M pin post out M':=fun w g hs args hp ha hm=>by
 have hl:=dM hl
 have hla:=f6 ha
 refine calls_of_wp hf hb (Code.wp_mono (fun e a w' q=>?_) (h (A0 n w g (oo M hs)) hs rfl { tmps:=args.toArray ++ Array.replicate (fn.ntmps - args.toArray.size) undef,defers:=[] } w ⟨g,hs,?_⟩))
 ·have key:Ks (A0 n w g (oo M hs)) rs pin hs post out M' a w' -> a.defers=[] /\ ∃ v,(results fn a.tmps).run Tryz.prog w'=.ok v w' /\ ∃ v' g' hs' r,Ending.returned v=.returned v' /\ post r /\ (out r).ok g' hs' v' /\ (∀ i ∈ pin,hs' i=hs i) /\ j7 (A0 0 w g (oo M hs)) w' g' /\ fT (oo M hs) w.heap.size (M' r) g' hs' w':=fun ⟨h1,v,g',hs',r,h2,h3,h4,h5,h6,h7⟩=>by
   refine ⟨h1,v,?_,v,g',hs',r,rfl,h3,h4,h5,⟨h6.os,h6.tape,h6.output,h6.grows,h6.frame,h6.ghle,h6.ghnew,h6.pers⟩,h7⟩
   subst hr
   exact h2
  cases e <;> first | exact key q | exact (q:False).elim | exact (q.2:False).elim
 ·refine ⟨?_,rfl,⟨rfl,rfl,rfl,bP _,fun _ _ _=>rfl,Gh.le.refl g,fun b o e=>.inl e,hp⟩,fun t x hx=>?_,hm.items,hm.sep,fun i it hi hn b hb=>?_⟩
  ·simp [hn]
   omega
  ·obtain ⟨u,h1,_,h3⟩:=lR (sG ha) hx
   simp only [Nat.sub_zero] at h1
   have hlt:=(cg.1 h1).1
   have:(args.toArray ++ Array.replicate (fn.ntmps - args.toArray.size) undef).getD t undef=u:=by
    rw [gz,tW (by simpa using hlt)]
    simp [h1]
   rw [this]
   exact h3
  ·obtain ⟨h1,h2⟩:=hm.mine i it hi hn b hb
   exact ⟨h1,fun hf=>⟨.inl ⟨i,it,hi,hf,hb⟩,(h2 hf).2⟩⟩
section
variable {c:eT} {S S1:St} {co:gY}
theorem d4 {β:Type} {post:β -> Prop} {out:β -> SC} {M':β -> List br} {rs:Array ResultVar} {pin:List Nat} {V:Nat -> Value} (ts:List Nat) (ht:co.ok) (r:β) (hp:post r) (e:evR co S rs=some (out r)) (hM:(gW (M' r) S.M).1=(gW (M' r) S.M).2) (hB:ts.map (fun t=>look t S.F)=pin.map fun i=>some (.sv (.one (.pown i (V i))))):En c S (Ks c rs pin V post out M'):=fun a w ⟨g,hs,h⟩=>by
 obtain ⟨v,h1,h2⟩:=yM ht h e
 have hM:=nG hM
 have hm:∀ (i:Nat) (it:br),(M' r)[i]? = some it -> it ≠ .gone -> S.M[i]? = some it:=fun i it hi hn=>(hM i it hi).resolve_left hn
 refine ⟨h.defers,v,g,hs,r,h1,hp,h2,fun i hi=>?_,h.base,fun i it hi=>?_,fun i j it jt hij hi hj hfi hnj=>h.sep i j it jt hij (hm i it hi (dy hfi)) (hm j jt hj hnj) hfi hnj,fun i it hi hni=>h.mine i it (hm i it hi hni) hni⟩
 ·obtain ⟨j,hj⟩:=jI.1 hi
  have:=cZ (·[j]?) hB
  simp only [cY,hj,eO] at this
  cases ht:ts[j]? with
  | none=>rw [ht] at this; simp at this
  | some t =>
   rw [ht] at this
   simp only [eO,Option.some.injEq] at this
   exact (h.slots t _ (dZ this)).1.1
 ·rcases hM i it hi with rfl | h1
  ·trivial
  ·exact h.items i it h1
end
theorem IJ : ∀ n:Int,0 <= n -> n < 2 ^ 62 -> IntKind.i64.wrap n=n:=fun n h0 h1=>bL (by omega) (by omega)
theorem MF {a b:Nat} (ha:a < 2 ^ 62) (hb:b < 2 ^ 62):bR .and .i64 (a:Int) (b:Int)=((a &&& b:Nat):Int):=(bits_nat .i64 62 (by decide) IJ a b ha hb).1
theorem bor {a b:Nat} (ha:a < 2 ^ 62) (hb:b < 2 ^ 62):bR .or .i64 (a:Int) (b:Int)=((a ||| b:Nat):Int):=(bits_nat .i64 62 (by decide) IJ a b ha hb).2
theorem Ki {a b:Nat} (ha:a < 2 ^ 62) (hb:b < 2 ^ 62):bR .andNot .i64 (a:Int) (b:Int)=((a ^^^ (a &&& b):Nat):Int):=by
 have key:(BitVec.ofInt 64 (a:Int) &&& ~~~(BitVec.ofInt 64 (b:Int))).toNat=a ^^^ (a &&& b):=by
  refine Nat.eq_of_testBit_eq fun i=>?_
  rw [BitVec.testBit_toNat,BitVec.getLsbD_and,BitVec.getLsbD_not,BitVec.ofInt_natCast,BitVec.ofInt_natCast,BitVec.getLsbD_ofNat,BitVec.getLsbD_ofNat,Nat.testBit_xor,Nat.testBit_and]
  by_cases hi:i < 64
  ·simp only [hi,decide_true,mT]
   cases a.testBit i <;> cases b.testBit i <;> rfl
  ·have h1:a.testBit i=false:=Nat.testBit_lt_two_pow (gv ha (Nat.pow_le_pow_right (by decide) (by omega)))
   simp [hi,h1]
 show IntKind.i64.wrap ((BitVec.ofInt 64 (a:Int) &&& ~~~(BitVec.ofInt 64 (b:Int))).toNat:Nat)=_
 rw [key]
 refine IJ _ (Int.natCast_nonneg _) ?_
 have:a ^^^ (a &&& b) < 2 ^ 62:=Nat.xor_lt_two_pow ha (Nat.and_lt_two_pow _ hb)
 exact_mod_cast this
theorem NV (a:Nat) {p:Nat} (hp:p <= 64):Int.fdiv (a:Int) (2 ^ (min p 64))=((a >>> p:Nat):Int):=by
 rw [mQ hp,Nat.shiftRight_eq_div_pow,xn _ (Int.pow_nonneg (by decide))]
 simp
theorem NW {p:Nat} (hp:p < 62):wr (1 * 2 ^ (min p 64))=((2 ^ p:Nat):Int):=by
 rw [mQ (by omega),Int.one_mul]
 have h:(2:Nat) ^ p < 2 ^ 62:=Nat.pow_lt_pow_right (by decide) hp
 rw [show ((2:Int) ^ p)=((2 ^ p:Nat):Int) by simp]
 exact IJ _ (Int.natCast_nonneg _) (by exact_mod_cast h)
theorem MD {a p:Nat} (ha:a < 2 ^ 62) (hp:p <= 64):bR .and .i64 (Int.fdiv (a:Int) (2 ^ (min p 64))) 1=if a.testBit p then 1 else 0:=by
 rw [NV a hp]
 have h1:a >>> p < 2 ^ 62:=by
  rw [Nat.shiftRight_eq_div_pow]
  exact Nat.lt_of_le_of_lt (Nat.div_le_self _ _) ha
 have:=MF (a:=a >>> p) (b:=1) h1 (by decide)
 rw [show ((1:Nat):Int)=1 from rfl] at this
 rw [this]
 rw [Nat.and_one_is_mod,Nat.testBit_eq_decide_div_mod_eq,Nat.shiftRight_eq_div_pow]
 have:=Nat.mod_two_eq_zero_or_one (a / 2 ^ p)
 rcases this with h | h <;> simp [h]
def cM (s p:Int):Bool:=s.toNat.testBit p.toNat
theorem LJ {s p:Int} (hs:0 <= s /\ s < 4611686018427387904) (hp:0 <= p /\ p <= 64):bR .and .i64 (Int.fdiv s (2 ^ (min p.toNat 64))) 1=if cM s p then 1 else 0:=by
 obtain ⟨a,rfl⟩:=kX hs.1
 obtain ⟨q,rfl⟩:=kX hp.1
 unfold cM
 rw [bE,bE]
 exact MD (by omega) (by omega)
theorem dlt {k n:Nat} (h:decide ((k:Int) < (n:Int))=true):k < n:=by
 have:=ca h
 omega
theorem dge {k n:Nat} (h:decide ((k:Int) < (n:Int))=false):n <= k:=by
 have:=cx h
 omega
theorem dj {k:Nat} (h:k < 9223372036854775807):wr ((k:Int) + 1)=((k + 1:Nat):Int):=by
 rw [bL (by omega) (by omega)]
 rfl
theorem dQ {n k:Nat} (h:k < n) (hk:k < 9223372036854775807):n - (wr ((k:Int) + 1)).toNat < n - (k:Int).toNat:=by
 rw [dj hk,bE,bE]
 omega
theorem eP {α:Type} {l:List α} {k:Nat} (h:k < l.length):cq l (k:Int)=some l[k]:=by simp [cq,h]
theorem yG {α:Type} {l:List α} {i:Int} (z:α) (h0:0 <= i) (h1:i < (l.length:Int)):cq l i=some (l.getD i.toNat z):=by
 have h:i.toNat < l.length:=by omega
 unfold cq
 rw [if_pos h0,er,cO h]
 rfl
theorem zT {α β:Type} {l:List α} {k:Nat} (h:k < l.length) (f:α -> β):(l.take (k + 1)).map f=(l.take k).map f ++ [f l[k]]:=by
 rw [ia,jJ,cO h]
 rfl
theorem eI {n m b:Nat} (h:(n + m) * b <= 140737488355328):ed n m b:=h
section
variable {X:Type} [Inhabited X]
def gx (R:List X) (i:Nat):X:=R.getD i default
def sw (R:List X) (i j:Nat):List X:=(R.set i (gx R j)).set j (gx R i)
theorem Gv {R:List X} {i j:Nat}:(sw R i j).length=R.length:=by unfold sw; rw [cK,cK]
theorem bB {R:List X} {i:Int} (h0:0 <= i) (h:i < R.length):cq R i=some (gx R i.toNat):=by
 have h1:i.toNat < R.length:=by omega
 have:=eP h1
 rw [dB h0] at this
 rw [this]
 unfold gx
 rw [er,cO h1]
 rfl
theorem fS {R:List X} {i k:Nat} {x:X} (hi:i < R.length):gx (R.set i x) k=if k=i then x else gx R k:=by
 unfold gx
 rw [er,dT]
 by_cases h:i=k
 ·subst h
  rw [if_pos rfl,if_pos hi,if_pos rfl]
  rfl
 ·rw [if_neg h,if_neg (Ne.symm h),er]
theorem fB {R:List X} {i j k:Nat} (hi:i < R.length) (hj:j < R.length):gx (sw R i j) k=if k=j then gx R i else if k=i then gx R j else gx R k:=by
 unfold sw
 rw [fS (by rw [cK]; exact hj),fS hi]
theorem eS {R:List X} {i:Nat} (h:i < R.length):gx R i=R[i]:=by
 unfold gx
 rw [er,cO h]
 rfl
theorem IU {R:List X} {i j:Nat} (hi:i < R.length) (hj:j < R.length):(sw R i j).Perm R:=by
 unfold sw
 rw [eS hi,eS hj]
 by_cases h:i=j
 ·subst h
  rw [List.set_getElem_self,List.set_getElem_self]
 ·exact List.set_set_perm hi hj
structure dW (a b:Nat) (R R':List X):Prop where
 len:R'.length=R.length
 out:∀ k,k < a \/ b <= k -> gx R' k=gx R k
 all:∀ p:X -> Prop,(∀ k,a <= k -> k < b -> p (gx R k)) -> ∀ k,a <= k -> k < b -> p (gx R' k)
 perm:R'.Perm R
theorem dW.refl {a b:Nat} {R:List X}:dW a b R R:=⟨rfl,fun _ _=>rfl,fun _ h=>h, .refl _⟩
theorem dW.trans {a b:Nat} {R S T:List X} (h:dW a b R S) (k:dW a b S T):dW a b R T:=⟨k.len.trans h.len,fun i hi=>(k.out i hi).trans (h.out i hi),fun p hp=>k.all p (h.all p hp),k.perm.trans h.perm⟩
theorem gM {a b i j:Nat} {R:List X} (hi:a <= i /\ i < b) (hj:a <= j /\ j < b) (hb:b <= R.length):dW a b R (sw R i j):=by
 refine ⟨Gv,fun k hk=>?_,fun p hp k h1 h2=>?_,IU (by omega) (by omega)⟩
 ·rw [fB (by omega) (by omega),if_neg (by omega),if_neg (by omega)]
 ·rw [fB (by omega) (by omega)]
  split
  ·exact hp i hi.1 hi.2
  ·split
   ·exact hp j hj.1 hj.2
   ·exact hp k h1 h2
theorem dW.widen {a b a' b':Nat} {R S:List X} (h:dW a b R S) (ha:a' <= a) (hb:b <= b'):dW a' b' R S:=by
 refine ⟨h.len,fun k hk=>h.out k (by omega),fun p hp k h1 h2=>?_,h.perm⟩
 by_cases c:a <= k /\ k < b
 ·exact h.all p (fun q q1 q2=>hp q (by omega) (by omega)) k c.1 c.2
 ·rw [h.out k (by omega)]
  exact hp k h1 h2
structure Ord (φ:X × X -> Int):Prop where
 asym:∀ x y,φ (x,y) < 0 -> ¬ φ (y,x) < 0
 tr:∀ x y z,¬ φ (y,x) < 0 -> ¬ φ (z,y) < 0 -> ¬ φ (z,x) < 0
def le (φ:X × X -> Int) (x y:X):Prop:=¬ φ (y,x) < 0
variable {φ:X × X -> Int}
theorem Ord.refl (h:Ord φ) (x:X):le φ x x:=fun e=>h.asym x x e e
theorem Ord.lt (h:Ord φ) {x y:X} (e:φ (x,y) < 0):le φ x y:=h.asym x y e
theorem Ord.le_tr (h:Ord φ) {x y z:X} (e:le φ x y) (f:le φ y z):le φ x z:=h.tr x y z e f
def Srt (φ:X × X -> Int) (a b:Nat) (R:List X):Prop:=∀ i j,a <= i -> i < j -> j < b -> le φ (gx R i) (gx R j)
theorem Srt.join {a m b:Nat} {R:List X} (h1:Srt φ a m R) (h2:Srt φ m b R) (h:∀ i j,a <= i -> i < m -> m <= j -> j < b -> le φ (gx R i) (gx R j)):Srt φ a b R:=fun i j hi hij hj=>by
 rcases dA j m with c | c
 ·exact h1 i j hi hij c
 ·rcases dA i m with d | d
  ·exact h i j hi d c hj
  ·exact h2 i j d hij hj
theorem Srt.same {a b:Nat} {R S:List X} (h:Srt φ a b R) (he:∀ k,a <= k -> k < b -> gx S k=gx R k):Srt φ a b S:=fun i j hi hij hj=>by
 rw [he i hi (by omega),he j (by omega) hj]
 exact h i j hi hij hj
structure oB (dom:X × X -> Prop) (φ:X × X -> Int) (R:List X) (a b:Int):Prop where
 dom:∀ z,dom z
 ord:Ord φ
 a0:0 <= a
 ab:a <= b
 bl:b <= R.length
 len:R.length <= 1000000
def SQ (φ:X × X -> Int) (R:List X) (a b:Int) (R':List X):Prop:=dW a.toNat b.toNat R R' /\ Srt φ a.toNat b.toNat R'
end
abbrev fZ {α:Type} (tyo ty:Nat) (T:Ty α) (L:List (List α)):br:=.grid tyo ty T.s (L.map fun l=>some (ug T l,l.length)) none
section
variable {c:eT} {S S1:St} {a:Act} {w:World} {g:Gh} {hs:Nat -> Value} {co:gY} {n:Nat} {o:Oper} {ops:Array Oper} {rest:List Oper} {N:Po}
theorem Hr {α:Type} {T:Ty α} {L:List (List α)} {tyo ty:Nat} {v:Value} (h:(fZ tyo ty T L).ok g hs w v) {p:Nat} {l:List α} (hp:L[p]? = some l):∃ cs,w.ownsAt ty T.s (cR v (p + 1)) l.length cs /\ cG T l g cs:=by
 obtain ⟨us,ocs,_,_,_,_,h4,_⟩:=h
 exact (h4 p (ug T l) l.length (by rw [cY,hp]; rfl)).2
theorem xX {t el s e:Nat} {ti te:TI} {v iv:Value} {ik:IntKind} {k:Int} {m:Nat} {cs:List Value} (ht:co.ok) (h1:co t=some ti) (h2:ti.sl=some el) (h3:co el=some te) (h4:te.size=s) (h5:0 < s)
  (hv:w.ownsAt e s v m cs) (hi:iv=.int ik k) (hk:0 <= k /\ k < (m:Int)):∃ b of cap,v=.slice (some ⟨b,of,none⟩) m cap /\ (Instr.indexAt t v iv).run Tryz.prog w=.ok (.pointer (some ⟨b,of + k.toNat * s,none⟩)) w:=by
 have hu:=fY ((ht t ti h1).sl.trans h2)
 obtain ⟨hl0,r1⟩:=hv
 subst hi
 rcases r1 with ⟨e1,e2⟩ | ⟨gb,of,cap,cur,e1,_⟩
 ·omega
 ·refine ⟨gb,of,cap,e1,?_⟩
  simp only [Instr.indexAt,asIntOf,e1,bW,db,ce,run_underlying hu,if_pos hk,(ht el te h3).run_size,h4,gF]
theorem G1 {e s:Nat} {v:Value} {m:Nat} {cs:List Value} (hv:w.ownsAt e s v m cs) {b of cap q:Nat} (e1:v=.slice (some ⟨b,of,none⟩) m cap) {k j:Nat} {u:Value} (hj:cs[k * s + j]? = some u):w.cell? ((⟨b,of + k * s,none⟩:Addr).add j)=some u:=by
 obtain ⟨hl0,r1⟩:=hv
 rw [gF]
 rcases r1 with ⟨e3,_⟩ | ⟨gb,of',cap',cur,e3,e4,_,_,_,e5⟩
 ·rw [e1] at e3; cases e3
 ·rw [e1] at e3
  simp at e3
  obtain ⟨⟨rfl,rfl⟩,rfl⟩:=e3
  unfold World.cell?
  rw [e4]
  rw [<- e5,gP] at hj
  split at hj
  ·rw [iC] at hj
   simpa [ft] using hj
  ·cases hj
theorem xU {α:Type} {T:Ty α} {l:List α} {t e:Nat} {ti:TI} {v pv uv:Value} {k:Nat} {y:α} {cs:List Value} (htk:TI.ok t ti) (h2:ti.size=T.s) (hT:T.solid) (r:w.ownsAt e T.s v l.length cs) (r2:cG T l g cs) {b of nn cap:Nat} (e1:v=.slice (some ⟨b,of,none⟩) nn cap) (e2:pv=.pointer (some ⟨b,of + k * T.s,none⟩)) (hk:k < l.length)
  (hval0:(T.sv y).ok g gS uv) (hz:(cF (T.sv y)).length=T.s):∃ w',(Instr.storeAt t pv uv).run Tryz.prog w=.ok () w' /\ w.grownBy w' (some b) /\ ∃ cs',w'.ownsAt e T.s v l.length cs' /\ cG T (l.set k y) g cs':=by
 obtain ⟨hl0,r1⟩:=r
 have hcells:=jw (hT y) hval0
 have hlen:uv.cells.toList.length=T.s:=by rw [<- dF hcells]; exact hz
 rcases r1 with ⟨e3,e4⟩ | ⟨gb,of',cap',cur,e3,e4,e5,e6,e7,e8⟩
 ·omega
 ·rw [e1] at e3
  simp at e3
  obtain ⟨⟨rfl,rfl⟩,rfl,rfl⟩:=e3
  have hkl:k * T.s + T.s <= l.length * T.s:=by rw [<- mS]; exact dL _ hk
  have hlc:of + l.length * T.s <= cur.size:=dp (kY (dL _ e5) _) e7
  have hst:=run_storeCells_at (P:=Tryz.prog) b (of + k * T.s) e uv.cells.toList 0 cur w e4 (by rw [hlen,eG,ft]; exact dp (kY hkl _) hlc) (fun u hu=>(kd hcells u hu).one)
  simp only [eG] at hst
  refine ⟨w.setRow b (cur.toList.take (of + k * T.s) ++ uv.cells.toList ++ cur.toList.drop (of + k * T.s + uv.cells.toList.length)).toArray,?_,?_,?_⟩
  ·simp only [Instr.storeAt,e2,Instr.sureAddr,storeVar,bW,db,ce,htk.run_size]
   rw [if_neg (by rw [h2]; simp at hlen; simp [hlen])]
   simp only [hst,ce,db]
  ·exact ⟨rfl,rfl,rfl,by simp,fun q hq hne=>setRow_other w b q _ (fun e=>hne (by rw [e]))⟩
  ·have hset:=r2.set hk hval0 (by rw [<- hlen]; simp)
   refine ⟨_,⟨by have:=hset.length; rw [cK] at this; exact this, .inr ⟨b,of,cap,_,by rw [e1],setRow_heap w b _ _ _ _ e4,e5,e6,?_,?_⟩⟩,hset⟩
   ·simp only [f9,di,eU,kj,fq] at hlen ⊢
    omega
   ·show (List.drop of (_ ++ uv.cells.toList ++ _)).take _=_
    rw [nF _ _ (by rw [fq]; exact dp (kY (dp (Nat.le_add_right _ _) hkl) _) hlc),<- e8,hlen]
    exact pz (cur.toList.drop of) uv.cells.toList (k * T.s) T.s (l.length * T.s) hlen hkl (by rw [kj,fq]; exact Nat.le_sub_of_add_le (by rw [mU]; exact hlc))
end
def At.subG (a:At) (i:Nat) (b:At):At:=match a with
 | .gs j 0=>match Nat.beq j i with
  | true=>b
  | false=>.gs j 0
 | a=>a
def SV.subG (s:SV) (i:Nat) (b:At):SV:=match s with
 | .one a=>.one (a.subG i b)
 | .agg l=>.agg (l.map (·.subG i b))
def SC.subG (x:SC) (i:Nat) (b:At):SC:=match x with
 | .sv s=>.sv (s.subG i b)
 | .tup l=>.tup (l.map (·.subG i b))
def br.subG (it:br) (i:Nat) (b:At):br:=match it with
 | .box cells ty fz=>.box (cells.map (·.subG i b)) ty fz
 | it=>it
section
variable {g:Gh} {hs:Nat -> Value} {i:Nat} {b:At}
theorem At.subG_ok (hb:b.ok g hs (cR (hs i) 0)) {a:At} {u:Value} (h:a.ok g hs u):(a.subG i b).ok g hs u:=by
 unfold At.subG
 split
 ·rename_i j
  cases hj:Nat.beq j i with
  | true =>
   have:=dS hj
   subst this
   have:u=cR (hs j) 0:=h.1
   subst this
   exact hb
  | false=>exact h
 ·exact h
theorem uE (hb:b.ok g hs (cR (hs i) 0)):∀ {l:List At} {us:List Value},oks g hs l us -> oks g hs (l.map (·.subG i b)) us
 | [],[],_=>trivial
 | [],_ :: _,h=>h.elim
 | _ :: _,[],h=>h.elim
 | _ :: _,_ :: _,h=>⟨At.subG_ok hb h.1,h.2.1,uE hb h.2.2⟩
theorem SV.subG_ok (hb:b.ok g hs (cR (hs i) 0)) {a:SV} {u:Value} (h:a.ok g hs u):(a.subG i b).ok g hs u:=by
 cases a with
 | one a=>exact At.subG_ok hb h
 | agg l =>
  obtain ⟨cs,h1,h2⟩:=h
  exact ⟨cs,h1,uE hb h2⟩
theorem zV (hb:b.ok g hs (cR (hs i) 0)):∀ {l:List SV} {us:List Value},fy g hs l us -> fy g hs (l.map (·.subG i b)) us
 | [],[],_=>trivial
 | [],_ :: _,h=>h.elim
 | _ :: _,[],h=>h.elim
 | _ :: _,_ :: _,h=>⟨SV.subG_ok hb h.1,zV hb h.2⟩
theorem SC.subG_ok (hb:b.ok g hs (cR (hs i) 0)) {a:SC} {u:Value} (h:a.ok g hs u):(a.subG i b).ok g hs u:=by
 cases a with
 | sv s=>exact SV.subG_ok hb h
 | tup l =>
  obtain ⟨cs,h1,h2⟩:=h
  exact ⟨cs,h1,zV hb h2⟩
end
section
variable {c:eT} {S S1:St} {a:Act} {w:World} {g:Gh} {hs:Nat -> Value} {co:gY} {n:Nat} {o:Oper} {ops:Array Oper} {rest L:List Oper} {N:Po}
theorem JW {α:Type} {T:Ty α} {L:List (List α)} {tyo ty:Nat} {v:Value} {g':Gh} (h:(fZ tyo ty T L).ok g hs w v) (hle:Gh.le g g') (hb:∀ b,fW v b -> g' b=w.heap[b]?):(LS (cB T) L).ok g' hs (cR v 0):=by
 have hrow:=fun p l hp=>Hr h (p:=p) (l:=l) hp
 obtain ⟨us,ocs,hv,h2,h3,hsl,h4,_,_,h5⟩:=h
 rw [df] at h2 h3
 have hg:∀ k,k < us.length -> ∀ b,(cR v k).ownBlock=some b -> g' b=w.heap[b]? := fun k hk b e=>hb b (fW.part hv hk (jv e))
 have hlo:ocs.length=L.length:=by have:=h3.1; omega
 have hd:∀ p u,ocs[p]? = some u -> p < L.length /\ u=cR v (p + 1):=fun p u hp=>by
  have hlt:=(cg.1 hp).1
  have hlt':p < L.length:=by omega
  refine ⟨hlt',?_⟩
  have:=(h4 p (ug T L[p]) L[p].length (by rw [cY,cO hlt']; rfl)).1
  rw [hp] at this
  exact Option.some.inj this
 have hcell:∀ u ∈ ocs,u.cells = #[u]:=fun u hu=>by
  obtain ⟨ao,m,cp,e⟩:=hsl u hu
  rw [e]
  rfl
 have h3':w.ownsAt tyo (cB T).s (cR v 0) L.length ocs:=h3
 refine xY h3' (g:=g') ⟨ocs,?_,hlo,fun k u l hu hl=>?_⟩ (fun _ _ e=>e) (hg 0 (by omega))
 ·have:∀ l:List Value,(∀ u ∈ l,u.cells = #[u]) -> l=l.flatMap fun u=>u.cells.toList:=fun l=>by
   induction l with
   | nil=>intro _; rfl
   | cons u l ih =>
    intro hc
    rw [jP,hc u fD,<- ih fun x hx=>hc x (d7 _ hx)]
    rfl
  exact this _ hcell
 ·obtain ⟨h6,rfl⟩:=hd k u hu
  obtain ⟨cs,r1,r2⟩:=hrow k l hl
  refine ⟨xY r1 r2 hle (hg (k + 1) (by omega)),?_⟩
  rw [hcell _ (dC hu)]
  rfl
def sealG (S:St) (i:Nat) (b:At):St:=⟨S.F.map fun e=>(e.1,e.2.subG i b),(S.M.set i .gone).map (·.subG i b)⟩
theorem dJ.sealG' {α:Type} {T:Ty α} {L:List (List α)} {tyo ty i:Nat} (h:dJ c S a w g hs) (hm:S.M[i]? = some (fZ tyo ty T L)):∃ g',Gh.le g g' /\ (∀ b,fW (hs i) b -> g' b=w.heap[b]?) /\ dJ c (sealG S i (LS (cB T) L)) a w g' hs:=by
 classical
 have hit:=h.items i _ hm
 have hmine:=h.mine i _ hm (by simp)
 let g':Gh:=fun x=>if fW (hs i) x then w.heap[x]? else g x
 have hle:Gh.le g g':=fun x o e=>by
  show (if fW (hs i) x then _ else g x)=some o
  by_cases hx:fW (hs i) x
  ·have:=(hmine x hx).2 rfl
   rw [this.2] at e
   cases e
  ·rw [if_neg hx]; exact e
 have hb:(LS (cB T) L).ok g' hs (cR (hs i) 0):=JW hit hle (fun b hb=>if_pos hb)
 have hset:∀ (j:Nat) (jt:br),((S.M.set i .gone).map (·.subG i (LS (cB T) L)))[j]? = some jt -> jt ≠ .gone -> ∃ kt,j ≠ i /\ S.M[j]? = some kt /\ jt=kt.subG i (LS (cB T) L) /\ kt ≠ .gone /\ jt.fz=kt.fz:=fun j jt hj hn=>by
  rw [cY,dT] at hj
  by_cases e:i=j
  ·rw [if_pos e] at hj
   split at hj
   ·simp [br.subG] at hj
    exact absurd hj.symm hn
   ·cases hj
  ·rw [if_neg e] at hj
   cases hk:S.M[j]? with
   | none=>rw [hk] at hj; cases hj
   | some kt =>
    rw [hk] at hj
    simp at hj
    refine ⟨kt,Ne.symm e,rfl,hj.symm,fun e=>?_,?_⟩
    ·subst e; exact hn hj.symm
    ·rw [<- hj]; cases kt <;> rfl
 refine ⟨g',hle,fun b hb=>if_pos hb,h.size,h.defers,⟨h.base.os,h.base.tape,h.base.output,h.base.grows,h.base.frame,h.base.ghle.trans hle,fun x o e=>?_,fun x o e=>?_⟩,fun t x hx=>?_,fun j jt hj=>?_,fun j k jt kt hjk hj hk hfj hnk x hx=>?_,fun j jt hj hnj x hx=>?_⟩
 ·by_cases hx:fW (hs i) x
  ·exact .inr ((hmine x hx).2 rfl).1
  ·rw [show g' x=g x from if_neg hx] at e
   exact h.base.ghnew x o e
 ·by_cases hx:fW (hs i) x
  ·rw [show g' x=w.heap[x]? from if_pos hx] at e
   exact e
  ·rw [show g' x=g x from if_neg hx] at e
   exact h.base.pers x o e
 ·obtain ⟨y,hy,e⟩:=cP.1 hx
  cases e
  exact SC.subG_ok hb (SC.mono hle (h.slots _ _ hy))
 ·by_cases hn:jt=.gone
  ·subst hn; trivial
  ·obtain ⟨kt,h1,h2,rfl,h3,_⟩:=hset j jt hj hn
   have h4:=br.mono hle (h.items j kt h2)
   cases kt with
   | box cells ty fz =>
    obtain ⟨b,us,k1,k2,k3,k4⟩:=h4
    exact ⟨b,us,k1,uE hb k2,k3,k4⟩
   | _=>exact h4
 ·obtain ⟨jt',h1,h2,rfl,h3,h4⟩:=hset j jt hj (dy hfj)
  obtain ⟨kt',k1,k2,rfl,k3,k4⟩:=hset k kt hk hnk
  exact h.sep j k jt' kt' hjk h2 k2 (by rw [<- h4]; exact hfj) k3 x hx
 ·obtain ⟨jt',h1,h2,rfl,h3,h4⟩:=hset j jt hj hnj
  obtain ⟨m1,m2⟩:=h.mine j jt' h2 h3 x hx
  refine ⟨m1,fun hf=>?_⟩
  rw [h4] at hf
  refine ⟨(m2 hf).1,?_⟩
  have hx':¬ fW (hs i) x:=fun e=>h.sep j i jt' _ h1 h2 hm hf (by simp) x hx e
  rw [show g' x=g x from if_neg hx']
  exact (m2 hf).2
theorem dJ.sealG {α:Type} {T:Ty α} {L:List (List α)} {tyo ty i:Nat} (h:dJ c S a w g hs) (hm:S.M[i]? = some (fZ tyo ty T L)):∃ g',dJ c (Proofs.YtmdbjpljlniloaaGreat.sealG S i (LS (cB T) L)) a w g' hs:=by
 obtain ⟨g',_,_,h'⟩:=h.sealG' hm
 exact ⟨g',h'⟩
theorem H4 {α:Type} {T:Ty α} {L':List (List α)} {tyo ty:Nat} (i:Nat) (hm:S.M[i]? = some (fZ tyo ty T L')) (h:WL c ops L (sealG S i (LS (cB T) L')) N):WL c ops L S N:=fun a w ⟨g,hs,hk⟩=>by
 obtain ⟨g',hk'⟩:=hk.sealG hm
 exact h a w ⟨g',hs,hk'⟩
theorem Ip {α:Type} {T:Ty α} {L':List (List α)} {tyo ty:Nat} (i:Nat) (hm:S.M[i]? = some (fZ tyo ty T L')) (h:En c (Proofs.YtmdbjpljlniloaaGreat.sealG S i (LS (cB T) L')) N):En c S N:=fun a w ⟨g,hs,hk⟩=>by
 obtain ⟨g',hk'⟩:=hk.sealG hm
 exact h a w ⟨g',hs,hk'⟩
theorem wH {e:TypeId} {s m:Nat} {v:Value} {cs:List Value} (h:w.ownsAt e s v m cs):∃ ao cap,v=.slice ao m cap:=by
 obtain ⟨_,h⟩:=h
 rcases h with ⟨rfl,rfl⟩ | ⟨gb,of,cap,cur,rfl,_⟩
 ·exact ⟨none,0,rfl⟩
 ·exact ⟨_,cap,rfl⟩
def Lw : Ty Unit:=⟨1,fun _=>.one (.v (.slice none 0 0))⟩
theorem EX {k:Nat} {cs:List Value} (h:cG Lw (List.replicate k ()) g cs):cs=List.replicate k (.slice none 0 0):=by
 obtain ⟨us,rfl,h2,h3⟩:=h
 have hu:∀ u ∈ us,u=.slice none 0 0:=fun u hu=>by
  obtain ⟨q,hq⟩:=jI.1 hu
  have hlt:=(cg.1 hq).1
  rw [h2,jb] at hlt
  exact (h3 q u () hq (by simp [hlt])).1.1
 have e:us=List.replicate k (.slice none 0 0):=List.eq_replicate_iff.2 ⟨by rw [h2,jb],hu⟩
 subst e
 clear hu h2 h3
 induction k with
 | zero=>rfl
 | succ k ih =>
  rw [List.replicate_succ,jP,ih]
  rfl
theorem Ax {α:Type} (T:Ty α) (ty:Nat) {zv:Value} (p:Nat) {t e:Nat} {ti te:TI} {x y:Operand} {k1 k2:IntKind} {l cp:Int} (ht:co.ok) (ho:o.op=.makeSlice t x y) (h1:co t=some ti) (h2:ti.sl=some e) (h3:co e=some te) (h4:te.size=1)
  (hx:evK S.F x=some (.int k1 l)) (hy:evK S.F y=some (.int k2 cp)) (hl0:0 <= l) (hlc:l <= cp) (hb:cp * te.bytes <= 140737488355328) (hb2:cp <= 140737488355328) (hzc:zv.cells.toList=te.zero) (hz:zv=.slice none 0 0) :
  MT c S o (.sv (.one (.gs p 0))) [] (some (p,fZ e ty T (List.replicate l.toNat []))):=fun a w g hs h N Z hN =>
 kN (T:=Lw) () p ht ho h1 h2 h3 h4 (by decide) hx hy hl0 hlc hb hb2 hzc (fun _=>by subst hz; exact ⟨rfl,trivial⟩) a w g hs h N Z fun v w' g' h' m1 m2 m3=>by
  obtain ⟨⟨cs,k1,k2⟩,k3⟩:=m3
  have hcs:=EX k2
  subst hcs
  rw [jb] at k1
  have hv:v=h':=by
   have:=m2.1
   have e:uI hs (some (p,bf e Lw (List.replicate l.toNat ()))) h' p=h':=by simp [uI]
   exact this.trans e
  refine hN v w' g' (.tuple (h' :: List.replicate l.toNat (.slice none 0 0)).toArray) m1 ⟨?_,m2.2⟩ ⟨⟨_,List.replicate l.toNat (.slice none 0 0),rfl,?_,?_,fun u hu=>⟨none,0,0,List.eq_of_mem_replicate hu⟩,fun q r n hq=>?_,fun q hq=>?_,(fun p k e=>by cases e),fun q q' b hq hq' hne hb1 hb2=>?_⟩,fun b hb1=>?_⟩
  ·show v=cR (if p=p then _ else hs p) 0
   rw [if_pos rfl,hv]
   rfl
  ·simp
  ·rw [df,jb]
   exact k1
  ·rw [cY,mh] at hq
   split at hq
   ·rename_i hlt
    simp only [eO,Option.some.injEq,Prod.mk.injEq] at hq
    obtain ⟨rfl,rfl⟩:=hq
    have:cR (.tuple (h' :: List.replicate l.toNat (.slice none 0 0)).toArray) (q + 1)=.slice none 0 0:=by
     show (h' :: List.replicate l.toNat (.slice none 0 0)).getD (q + 1) undef=_
     simp [hlt]
    rw [this]
    refine ⟨by simp [hlt],[],?_,cG.nil⟩
    exact World.ownsAt_nil _ _ _
   ·cases hq
  ·rw [cY,mh] at hq
   split at hq <;> simp at hq
  ·have hnil:∀ q,q < l.toNat + 1 -> q ≠ 0 -> blk (cR (.tuple (h' :: List.replicate l.toNat (.slice none 0 0)).toArray) q)=none:=fun q hq h0=>by
    obtain ⟨k,rfl⟩:∃ k,q=k + 1:=⟨q - 1,by omega⟩
    show blk ((h' :: List.replicate l.toNat (.slice none 0 0)).getD (k + 1) undef)=none
    have:k < l.toNat:=by omega
    simp [this,blk]
   simp only [dq,jb] at hq hq'
   by_cases e1:q=0
   ·rw [hnil q' hq' (by omega)] at hb2
    cases hb2
   ·rw [hnil q hq e1] at hb1
    cases hb1
  ·obtain ⟨u,hu,hub⟩:=hb1
   rcases eh.1 hu with rfl | hu
   ·exact k3 b (sx hub)
   ·rw [List.eq_of_mem_replicate hu] at hub
    cases hub
end
end
end Go.Proofs.YtmdbjpljlniloaaGreat
