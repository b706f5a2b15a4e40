/- Lemmas towards the statement: mirrors of functions, and plain laws. No condition. -/
import Derived.Laws.CopyRow
import Derived.Laws.IdiomCopy
import Derived.Recover
import Derived.Laws.BytesString
import Derived.Lib.Builder
import Derived.Lib.UnsafeStr
import Derived.Laws.Externs
import Derived.Test.YtmdbjpljlniloaaGreatPackSafraTwice2
set_option linter.unusedSectionVars false
set_option linter.unusedSimpArgs false
set_option linter.unusedVariables false
namespace Go.Proofs.YtmdbjpljlniloaaGreat
open Go.RowKit Go.MapKept
set_option maxRecDepth 100000
noncomputable section
def At.keepG (i j:Nat):At -> Bool
 | .gs k q=>!(Nat.beq k j) && (!(Nat.beq k i) || Nat.beq q 0)
 | .ge k q _ _=>!(Nat.beq k j) && (!(Nat.beq k i) || Nat.beq q 0)
 | a=>a.refs.all fun k=>!(Nat.beq k j) && !(Nat.beq k i)
def SV.keepG (i j:Nat):SV -> Bool
 | .one a=>a.keepG i j
 | .agg l=>l.all (·.keepG i j)
def SC.keepG (i j:Nat):SC -> Bool
 | .sv s=>s.keepG i j
 | .tup l=>l.all (·.keepG i j)
def br.keepG (i j:Nat):br -> Bool
 | .box cells _ _=>cells.all (·.keepG i j)
 | .iter k _=>!(Nat.beq k j) && !(Nat.beq k i)
 | .grid _ _ _ _ (some (_,k))=>!(Nat.beq k j) && !(Nat.beq k i)
 | _=>true
def AW (i j:Nat) (F:List (Nat × SC)):List (Nat × SC):=F.filter fun e=>e.2.keepG i j
theorem nM {a b:Nat} (h:(!(Nat.beq a b))=true):a ≠ b:=fun e=>by subst e; simp at h
section
variable {g:Gh} {hs hs':Nat -> Value} {i j:Nat}
theorem At.keepG_ok (h0:cR (hs' i) 0=cR (hs i) 0) (h1:∀ k,k ≠ i -> k ≠ j -> hs' k=hs k) {a:At} {u:Value} (hk:a.keepG i j=true) (h:a.ok g hs u):a.ok g hs' u:=by
 have gen:∀ a:At,(a.refs.all fun k=>!(Nat.beq k j) && !(Nat.beq k i))=true -> a.ok g hs u -> a.ok g hs' u:=fun a hk h=>At.ok_hs (fun k hk'=>by
  have:=cI.1 hk k hk'
  rw [cC] at this
  exact h1 k (nM this.2) (nM this.1)) h
 have gp:∀ k q,(!(Nat.beq k j) && (!(Nat.beq k i) || Nat.beq q 0))=true -> cR (hs' k) q=cR (hs k) q:=fun k q hk=>by
  rw [cC,fc] at hk
  by_cases e:k=i
  ·subst e
   rcases hk.2 with h2 | h2
   ·exact absurd rfl (nM h2)
   ·have:=dS h2
    subst this
    exact h0
  ·rw [h1 k e (nM hk.1)]
 cases a with
 | gs k q =>
  obtain ⟨h2,h3⟩:=h
  refine ⟨?_,h3⟩
  show u=cR (hs' k) q
  rw [gp k q hk]
  exact h2
 | ge k q m s =>
  obtain ⟨⟨b,o,n,cap,h2,h3⟩,h4⟩:=h
  exact ⟨⟨b,o,n,cap,by rw [gp k q hk]; exact h2,h3⟩,h4⟩
 | _=>exact gen _ hk h
theorem rP (h0:cR (hs' i) 0=cR (hs i) 0) (h1:∀ k,k ≠ i -> k ≠ j -> hs' k=hs k):∀ {l:List At} {us:List Value},l.all (·.keepG i j)=true -> oks g hs l us -> oks g hs' l us
 | [],[],_,_=>trivial
 | [],_ :: _,_,h=>h.elim
 | _ :: _,[],_,h=>h.elim
 | _ :: _,_ :: _,hk,h=>by
  rw [oQ,cC] at hk
  exact ⟨At.keepG_ok h0 h1 hk.1 h.1,h.2.1,rP h0 h1 hk.2 h.2.2⟩
theorem SV.keepG_ok (h0:cR (hs' i) 0=cR (hs i) 0) (h1:∀ k,k ≠ i -> k ≠ j -> hs' k=hs k) {a:SV} {u:Value} (hk:a.keepG i j=true) (h:a.ok g hs u):a.ok g hs' u:=by
 cases a with
 | one a=>exact At.keepG_ok h0 h1 hk h
 | agg l =>
  obtain ⟨cs,h2,h3⟩:=h
  exact ⟨cs,h2,rP h0 h1 hk h3⟩
theorem v7 (h0:cR (hs' i) 0=cR (hs i) 0) (h1:∀ k,k ≠ i -> k ≠ j -> hs' k=hs k):∀ {l:List SV} {us:List Value},l.all (·.keepG i j)=true -> fy g hs l us -> fy g hs' l us
 | [],[],_,_=>trivial
 | [],_ :: _,_,h=>h.elim
 | _ :: _,[],_,h=>h.elim
 | _ :: _,_ :: _,hk,h=>by
  rw [oQ,cC] at hk
  exact ⟨SV.keepG_ok h0 h1 hk.1 h.1,v7 h0 h1 hk.2 h.2⟩
theorem SC.keepG_ok (h0:cR (hs' i) 0=cR (hs i) 0) (h1:∀ k,k ≠ i -> k ≠ j -> hs' k=hs k) {a:SC} {u:Value} (hk:a.keepG i j=true) (h:a.ok g hs u):a.ok g hs' u:=by
 cases a with
 | sv s=>exact SV.keepG_ok h0 h1 hk h
 | tup l =>
  obtain ⟨us,h2,h3⟩:=h
  exact ⟨us,h2,v7 h0 h1 hk h3⟩
theorem br.keepG_ok (h0:cR (hs' i) 0=cR (hs i) 0) (h1:∀ k,k ≠ i -> k ≠ j -> hs' k=hs k) {w:World} {x:Value} {it:br} (hk:it.keepG i j=true) (h:it.ok g hs w x):it.ok g hs' w x:=by
 cases it with
 | box cells ty fz =>
  obtain ⟨b,cs,h2,h3,h4⟩:=h
  exact ⟨b,cs,h2,rP h0 h1 hk h3,h4⟩
 | iter k r =>
  obtain ⟨rb,m,clock,seen,h2,h3,h4⟩:=h
  rw [br.keepG,cC] at hk
  exact ⟨rb,m,clock,seen,h2,(h1 k (nM hk.2) (nM hk.1)).trans h3,h4⟩
 | grid tyo ty s rows link =>
  obtain ⟨us,ocs,u1,u2,u3,u4,u5,u6,u7,u8⟩:=h
  refine ⟨us,ocs,u1,u2,u3,u4,u5,u6,fun p k hl=>?_,u8⟩
  subst hl
  rw [br.keepG,cC] at hk
  rw [h1 k (nM hk.2) (nM hk.1)]
  exact u7 p k rfl
 | _=>exact h
end
def Jt : Ty Value:=⟨1,fun v=>.one (.v v)⟩
theorem Bx : Jt.solid:=fun a e=>by cases e
theorem Ey {g:Gh} {l cs:List Value} (h:cG Jt l g cs):cs=l:=by
 obtain ⟨us,rfl,h2,h3⟩:=h
 induction us generalizing l with
 | nil=>cases l with
  | nil=>rfl
  | cons _ _=>simp at h2
 | cons u us ih =>
  cases l with
  | nil=>simp at h2
  | cons v l =>
   obtain ⟨⟨h4,h5⟩,_⟩:=h3 0 u v rfl rfl
   have h4:u=v:=h4
   subst h4
   rw [jP,dR.cells h5,ih (by simpa using h2) fun q x y hx hy=>h3 (q + 1) x y (by simpa using hx) (by simpa using hy)]
   rfl
theorem GE {g:Gh} {l:List Value} (h:∀ u ∈ l,∃ ao m cap,u=.slice ao m cap):cG Jt l g l:=by
 have hc:∀ u ∈ l,dR u:=fun u hu=>by obtain ⟨_,_,_,rfl⟩:=h u hu; trivial
 clear h
 refine ⟨l,?_,rfl,fun q u v hu hv=>?_⟩
 ·induction l with
  | nil=>rfl
  | cons u l ih =>
   rw [jP,dR.cells (hc u fD),<- ih fun x hx=>hc x (d7 _ hx)]
   rfl
 ·rw [hu] at hv
  cases hv
  have h1:=hc u (dC hu)
  exact ⟨⟨rfl,h1⟩,by rw [dR.cells h1]; rfl⟩
theorem nv {us:List Value} {k:Nat} {v:Value} (h:k < us.length):cR (.tuple (us.set k v).toArray) k=v:=by
 show (us.set k v).getD k undef=v
 simp [h]
theorem jY {us:List Value} {k q:Nat} {v:Value} (h:q ≠ k):cR (.tuple (us.set k v).toArray) q=cR (.tuple us.toArray) q:=by
 show (us.set k v).getD q undef=us.getD q undef
 simp [er,dT,Ne.symm h]
theorem KB {us:List Value} {k b:Nat} {v:Value} (h:fW (.tuple (us.set k v).toArray) b):fW (.tuple us.toArray) b \/ blk v=some b:=by
 obtain ⟨u,hu,e⟩:=h
 rcases List.mem_or_eq_of_mem_set hu with h1 | h1
 ·exact .inl ⟨u,h1,e⟩
 ·exact .inr (h1 ▸ e)
section
variable {c:eT} {S S1:St} {a:Act} {w:World} {g:Gh} {hs:Nat -> Value} {co:gY} {n:Nat} {o:Oper} {ops:Array Oper} {rest:List Oper} {N:Po}
theorem dJ.putG (h:dJ c S a w g hs) {i j p tyo ty s m:Nat} {rows:List (Option (Rl (List Value) × Nat))} {link:Option (Nat × Nat)} {r:Rl (List Value)} (hm:S.M[i]? = some (.grid tyo ty s rows link)) (hj:S.M[j]? = some (.row ty s r m)) (hp:p < rows.length)
  {b of nn cap:Nat} (e1:cR (hs i) 0=.slice (some ⟨b,of,none⟩) nn cap) {t:Nat} {ti:TI} (htk:TI.ok t ti) (hts:ti.size=1) (hkM:S.M.all (·.keepG i j)=true) :
  ∃ w' hs',(Instr.storeAt t (.pointer (some ⟨b,of + p * 1,none⟩)) (hs j)).run Tryz.prog w=.ok () w' /\ dJ c ⟨AW i j S.F,(S.M.set i (.grid tyo ty s (rows.set p (some (r,m))) none)).set j .gone⟩ a w' g hs':=by
 have hij:i ≠ j:=fun e=>by subst e; rw [hm] at hj; cases hj
 have hit:=h.items i _ hm
 obtain ⟨csj,hcj,hrj⟩:=h.items j _ hj
 obtain ⟨us,ocs,u1,u2,u3,u3',u4,u4',uk,u5⟩:=hit
 have hlo:ocs.length=rows.length:=by have:=u3.1; omega
 have hslj:=wH hcj
 have hcvj:dR (hs j):=by obtain ⟨_,_,e⟩:=hslj; rw [e]; trivial
 have hcj1:=dR.cells hcvj
 rw [<- hlo] at u3
 obtain ⟨w',k1,k2,cs',k3,k4⟩:=xU (T:=Jt) (l:=ocs) (y:=hs j) (k:=p) (g:=g) (t:=t) (nn:=nn) (cap:=cap) (pv:=.pointer (some ⟨b,of + p * 1,none⟩)) htk (by rw [hts]; rfl) Bx u3 (GE u3') e1 rfl (by omega) ⟨rfl,hcvj⟩ rfl
 have:=Ey k4
 subst this
 have hbi:fW (hs i) b:=fW.part u1 (k:=0) (by omega) (by rw [e1]; rfl)
 have hl0:p + 1 < us.length:=by omega
 let hs':Nat -> Value:=fun k=>if k=i then .tuple (us.set (p + 1) (hs j)).toArray else hs k
 have hsi:hs' i=.tuple (us.set (p + 1) (hs j)).toArray:=if_pos rfl
 have hsk:∀ k,k ≠ i -> hs' k=hs k:=fun k hk=>if_neg hk
 have hg0:cR (hs' i) 0=cR (hs i) 0:=by rw [hsi,jY (by omega),u1]
 have hgp:cR (hs' i) (p + 1)=hs j:=by rw [hsi,nv hl0]
 have hgq:∀ q,q ≠ p + 1 -> cR (hs' i) q=cR (hs i) q:=fun q hq=>by rw [hsi,jY hq,u1]
 have hbj:∀ b',blk (hs j)=some b' -> ¬ fW (hs i) b':=fun b' e=>h.sep j i _ _ (Ne.symm hij) hj hm rfl (by simp) b' (sx e)
 have hbs:∀ b',fW (hs' i) b' -> fW (hs i) b' \/ blk (hs j)=some b':=fun b' hb=>by
  rw [hsi] at hb
  rw [u1]
  exact KB hb
 have hne:∀ q,q < us.length -> q ≠ 0 -> (cR (hs i) q).ownBlock=none \/ (cR (hs i) q).ownBlock ≠ some b:=fun q hq hq0=>by
  cases hb:(cR (hs i) q).ownBlock with
  | none=>exact .inl rfl
  | some b'=>exact .inr (fun e=>by cases e; exact u5 0 q b (by omega) hq (fun e=>hq0 e.symm) (by rw [e1]; rfl) (jv hb))
 have hset:∀ (k:Nat) (kt:br),(((S.M.set i (.grid tyo ty s (rows.set p (some (r,m))) none)).set j .gone))[k]? = some kt -> kt ≠ .gone -> (k=i /\ kt=.grid tyo ty s (rows.set p (some (r,m))) none) \/ (k ≠ i /\ k ≠ j /\ S.M[k]? = some kt):=fun k kt hk hn=>by
  rw [dT] at hk
  by_cases ej:j=k
  ·rw [if_pos ej] at hk
   split at hk
   ·simp at hk; exact absurd hk.symm hn
   ·cases hk
  ·rw [if_neg ej,dT] at hk
   by_cases ei:i=k
   ·rw [if_pos ei] at hk
    split at hk
    ·simp at hk; exact .inl ⟨ei.symm,hk.symm⟩
    ·cases hk
   ·rw [if_neg ei] at hk
    exact .inr ⟨Ne.symm ei,Ne.symm ej,hk⟩
 refine ⟨w',hs',k1,h.size,h.defers,h.base.kept k2 (fun b' e=>by cases e; exact (h.mine i _ hm (by simp) b hbi).2 rfl),fun t x hx=>?_,fun k kt hk=>?_,fun k l kt lt hkl hk hl hf hn b' hb=>?_,fun k kt hk hn b' hb=>?_⟩
 ·obtain ⟨hx1,hx2⟩:=ga.1 hx
  exact SC.keepG_ok hg0 (fun k hk _=>hsk k hk) hx2 (h.slots t x hx1)
 ·by_cases hn:kt=.gone
  ·subst hn; trivial
  ·rcases hset k kt hk hn with ⟨rfl,rfl⟩ | ⟨h1,h2,h3⟩
   ·refine ⟨us.set (p + 1) (hs j),ocs.set p (hs j),hsi,by simp [u2],?_,fun u hu=>?_,fun q r' n' hq=>?_,fun q hq=>?_,(fun p k e=>by cases e),fun q q' b' hq hq' hqq hb1 hb2=>?_⟩
    ·rw [hg0,cK,<- hlo]
     exact k3
    ·rcases List.mem_or_eq_of_mem_set hu with hu | hu
     ·exact u3' u hu
     ·obtain ⟨ao,cp,e⟩:=hslj
      exact ⟨ao,m,cp,hu.trans e⟩
    ·rw [dT] at hq
     by_cases e:p=q
     ·subst e
      rw [if_pos rfl,if_pos hp] at hq
      simp only [Option.some.injEq,Prod.mk.injEq] at hq
      obtain ⟨rfl,rfl⟩:=hq
      rw [hgp]
      refine ⟨by rw [ro (by omega)],csj,hcj.kept k2 ?_,hrj⟩
      cases hb:(hs j).ownBlock with
      | none=>exact .inl rfl
      | some b'=>exact .inr (fun e=>by cases e; exact hbj b (jv hb) hbi)
     ·rw [if_neg e] at hq
      have hql:=(cg.1 hq).1
      obtain ⟨k5,cs2,k6,k7⟩:=u4 q r' n' hq
      rw [hgq (q + 1) (by omega)]
      exact ⟨by rw [mP e]; exact k5,cs2,k6.kept k2 (hne (q + 1) (by omega) (by omega)),k7⟩
    ·rw [dT] at hq
     by_cases e:p=q
     ·rw [if_pos e] at hq
      split at hq <;> simp at hq
     ·rw [if_neg e] at hq
      rw [hgq (q + 1) (by omega)]
      exact u4' q hq
    ·rw [cK] at hq hq'
     by_cases e:q=p + 1
     ·subst e
      rw [hgp] at hb1
      rw [hgq q' (Ne.symm hqq)] at hb2
      exact hbj b' hb1 (fW.part u1 hq' hb2)
     ·rw [hgq q e] at hb1
      by_cases e':q'=p + 1
      ·subst e'
       rw [hgp] at hb2
       exact hbj b' hb2 (fW.part u1 hq hb1)
      ·rw [hgq q' e'] at hb2
       exact u5 q q' b' hq hq' hqq hb1 hb2
   ·rw [hsk k h1]
    refine br.keepG_ok hg0 (fun k hk _=>hsk k hk) (cI.1 hkM kt (dC h3)) ?_
    exact br.kept k2 (h:=h.items k kt h3) fun b' hb=>⟨(h.mine k kt h3 hn b' hb).1,fun e=>by cases e; exact h.sep i k _ kt (Ne.symm h1) hm h3 rfl hn b hbi hb⟩
 ·rcases hset k kt hk (dy hf) with ⟨rfl,rfl⟩ | ⟨h1,h2,h3⟩
  ·rcases hset l lt hl hn with ⟨rfl,rfl⟩ | ⟨l1,l2,l3⟩
   ·exact absurd rfl hkl
   ·rw [hsk l l1]
    rcases hbs b' hb with h4 | h4
    ·exact h.sep k l _ lt hkl hm l3 rfl hn b' h4
    ·exact h.sep j l _ lt (Ne.symm l2) hj l3 rfl hn b' (sx h4)
  ·rw [hsk k h1] at hb
   rcases hset l lt hl hn with ⟨rfl,rfl⟩ | ⟨l1,l2,l3⟩
   ·intro hb2
    rcases hbs b' hb2 with h4 | h4
    ·exact h.sep k l kt _ hkl h3 hm hf (by simp) b' hb h4
    ·exact h.sep k j kt _ h2 h3 hj hf (by simp) b' hb (sx h4)
   ·rw [hsk l l1]
    exact h.sep k l kt lt hkl h3 l3 hf hn b' hb
 ·rcases hset k kt hk hn with ⟨rfl,rfl⟩ | ⟨h1,h2,h3⟩
  ·rcases hbs b' hb with h4 | h4
   ·obtain ⟨m1,m2⟩:=h.mine k _ hm (by simp) b' h4
    exact ⟨gv m1 k2.size,fun _=>m2 rfl⟩
   ·obtain ⟨m1,m2⟩:=h.mine j _ hj (by simp) b' (sx h4)
    exact ⟨gv m1 k2.size,fun _=>m2 rfl⟩
  ·rw [hsk k h1] at hb
   obtain ⟨m1,m2⟩:=h.mine k kt h3 hn b' hb
   exact ⟨gv m1 k2.size,m2⟩
abbrev kO {α:Type} (tyo ty:Nat) (T:Ty α) (L:List (List α)) (p:Nat) (link:Option (Nat × Nat)):br:=.grid tyo ty T.s ((L.map fun l=>some (ug T l,l.length)).set p none) link
theorem H6 {i j p tyo ty s m t:Nat} {rows:List (Option (Rl (List Value) × Nat))} {link:Option (Nat × Nat)} {r:Rl (List Value)} {ti:TI} {x v:Operand} {S1:St} (ht:co.ok) (hn:c.n=n) (hw:dX ops S.F o=some true) (ho:o.op=.store t x v) (h1:co t=some ti) (h2:ti.size=1)
  (hx:eL S.F x=some (.sv (.one (.ge i 0 p 1)))) (hv:eL S.F v=some (.sv (.one (.own j)))) (hm:S.M[i]? = some (.grid tyo ty s rows link)) (hj:S.M[j]? = some (.row ty s r m)) (hp:p < rows.length) (hkM:S.M.all (·.keepG i j)=true)
  (e:iA n o.dst (.tup []) ⟨AW i j S.F,(S.M.set i (.grid tyo ty s (rows.set p (some (r,m))) none)).set j .gone⟩=some S1) (h:WL c ops rest S1 N):WL c ops (o :: rest) S N:=fun a w ⟨g,hs,hh⟩=>by
 unfold wpList
 rw [if_pos (dU hh hw)]
 refine .inl ?_
 unfold Oper.wp
 obtain ⟨⟨b,of,nn,cap,e1,e2⟩,_⟩:=bV hh hx
 have hvj:a.eval v=hs j:=(bV hh hv).1
 obtain ⟨w',hs',k1,k2⟩:=hh.putG hm hj hp e1 (ht t ti h1) h2 hkM
 have hrun:(execOp a.eval o).run Tryz.prog w=.ok .skip w':=by
  have:execOp a.eval o=(do Instr.storeAt t (a.eval x) (a.eval v); pure .skip:Sem Next):=by unfold execOp; rw [ho]
  rw [this,e2,hvj]
  simp only [bW,k1,ce,db]
 rw [hrun]
 exact h _ _ ⟨g,hs',fR k2 hn lA e⟩
theorem E7 {α:Type} {T:Ty α} {L:List (List α)} {l:List α} {p:Nat}:(L.map fun l=>some (ug T l,l.length)).set p (some (ug T l,l.length))=((L.set p l).map fun l=>some (ug T l,l.length)):=by
 rw [List.map_set]
theorem A7 {α:Type} {T:Ty α} {L:List (List α)} {l:List α} {link:Option (Nat × Nat)} {i j p tyo ty t:Nat} {ti:TI} {x v:Operand} {S1:St} (ht:co.ok) (hn:c.n=n) (hw:dX ops S.F o=some true) (ho:o.op=.store t x v) (h1:co t=some ti) (h2:ti.size=1)
  (hx:eL S.F x=some (.sv (.one (.ge i 0 p 1)))) (hv:eL S.F v=some (.sv (.one (.own j)))) (hm:S.M[i]? = some (kO tyo ty T L p link)) (hj:S.M[j]? = some (bf ty T l)) (hp:p < L.length) (hkM:S.M.all (·.keepG i j)=true)
  (e:iA n o.dst (.tup []) ⟨AW i j S.F,(S.M.set i (fZ tyo ty T (L.set p l))).set j .gone⟩=some S1) (h:WL c ops rest S1 N):WL c ops (o :: rest) S N:=
 H6 ht hn hw ho h1 h2 hx hv hm hj (by rw [cK,df]; exact hp) hkM (by rw [List.set_set,E7]; exact e) h
theorem dJ.takeG {i p tyo ty s m:Nat} {rows:List (Option (Rl (List Value) × Nat))} {link:Option (Nat × Nat)} {r:Rl (List Value)} (h:dJ c S a w g hs) (hm:S.M[i]? = some (.grid tyo ty s rows link)) (hp:rows[p]? = some (some (r,m))) (hkM:S.M.all (·.keepG i S.M.length)=true) :
  ∃ hs',hs' S.M.length=cR (hs i) (p + 1) /\ dJ c ⟨AW i S.M.length S.F,S.M.set i (.grid tyo ty s (rows.set p none) (some (p,S.M.length))) ++ [.row ty s r m]⟩ a w g hs':=by
 have hil:i < S.M.length:=(cg.1 hm).1
 have hpl:p < rows.length:=(cg.1 hp).1
 have hit:=h.items i _ hm
 obtain ⟨us,ocs,u1,u2,u3,u3',u4,u4',uk,u5⟩:=hit
 obtain ⟨q1,csj,q2,q3⟩:=u4 p r m hp
 have hslj:=wH q2
 have hl0:p + 1 < us.length:=by omega
 let hs':Nat -> Value:=fun k=>if k=i then .tuple (us.set (p + 1) (.slice none 0 0)).toArray else if k=S.M.length then cR (hs i) (p + 1) else hs k
 have hsi:hs' i=.tuple (us.set (p + 1) (.slice none 0 0)).toArray:=if_pos rfl
 have hsj:hs' S.M.length=cR (hs i) (p + 1):=by
  show (if S.M.length=i then _ else if S.M.length=S.M.length then _ else _)=_
  rw [if_neg (by omega),if_pos rfl]
 have hsk:∀ k,k ≠ i -> k ≠ S.M.length -> hs' k=hs k:=fun k h1 h2=>by
  show (if k=i then _ else if k=S.M.length then _ else hs k)=_
  rw [if_neg h1,if_neg h2]
 have hg0:cR (hs' i) 0=cR (hs i) 0:=by rw [hsi,jY (by omega),u1]
 have hgp:cR (hs' i) (p + 1)=.slice none 0 0:=by rw [hsi,nv hl0]
 have hgq:∀ q,q ≠ p + 1 -> cR (hs' i) q=cR (hs i) q:=fun q hq=>by rw [hsi,jY hq,u1]
 have hbs:∀ b',fW (hs' i) b' -> fW (hs i) b' /\ blk (cR (hs i) (p + 1)) ≠ some b':=fun b' hb=>by
  rw [hsi] at hb
  obtain ⟨u,hu,e⟩:=hb
  obtain ⟨q,hq⟩:=jI.1 hu
  have hql:=(cg.1 hq).1
  rw [cK] at hql
  by_cases eq:q=p + 1
  ·subst eq
   rw [ro hl0] at hq
   simp at hq
   rw [<- hq] at e
   cases e
  ·rw [mP (Ne.symm eq)] at hq
   have hgu:cR (hs i) q=u:=by
    rw [u1]
    show us.getD q undef=u
    rw [er,hq]
    rfl
   exact ⟨fW.part u1 hql (by rw [hgu]; exact e),fun e2=>u5 q (p + 1) b' hql hl0 eq (by rw [hgu]; exact e) e2⟩
 have hbj:∀ b',fW (hs' S.M.length) b' -> blk (cR (hs i) (p + 1))=some b':=fun b' hb=>by
  rw [hsj] at hb
  obtain ⟨ao,cp,e⟩:=hslj
  rw [e] at hb ⊢
  exact hb
 have hbj2:∀ b',blk (cR (hs i) (p + 1))=some b' -> fW (hs i) b':=fun b' e=>fW.part u1 hl0 e
 have hset:∀ (k:Nat) (kt:br),(S.M.set i (.grid tyo ty s (rows.set p none) (some (p,S.M.length))) ++ [.row ty s r m])[k]? = some kt -> (k=i /\ kt=.grid tyo ty s (rows.set p none) (some (p,S.M.length))) \/ (k=S.M.length /\ kt=.row ty s r m) \/ (k ≠ i /\ k ≠ S.M.length /\ S.M[k]? = some kt):=fun k kt hk=>by
  rw [ru,cK] at hk
  split at hk
  ·rename_i hlt
   rw [dT] at hk
   by_cases ei:i=k
   ·rw [if_pos ei,if_pos hil] at hk
    simp at hk
    exact .inl ⟨ei.symm,hk.symm⟩
   ·rw [if_neg ei] at hk
    exact .inr (.inr ⟨Ne.symm ei,by omega,hk⟩)
  ·by_cases e2:k=S.M.length
   ·subst e2
    simp at hk
    exact .inr (.inl ⟨rfl,hk.symm⟩)
   ·rw [ko (by simp; omega)] at hk
    cases hk
 refine ⟨hs',hsj,h.size,h.defers,h.base,fun t x hx=>?_,fun k kt hk=>?_,fun k l kt lt hkl hk hl hf hn b' hb=>?_,fun k kt hk hn b' hb=>?_⟩
 ·obtain ⟨hx1,hx2⟩:=ga.1 hx
  exact SC.keepG_ok hg0 hsk hx2 (h.slots t x hx1)
 ·rcases hset k kt hk with ⟨rfl,rfl⟩ | ⟨rfl,rfl⟩ | ⟨h1,h2,h3⟩
  ·refine ⟨us.set (p + 1) (.slice none 0 0),ocs,hsi,by simp [u2],by rw [hg0,cK]; exact u3,u3',fun q r' n' hq=>?_,fun q hq=>?_,(fun p' k e=>by cases e; rw [hsj]; exact q1),fun q q' b' hq hq' hqq hb1 hb2=>?_⟩
   ·rw [dT] at hq
    by_cases e:p=q
    ·rw [if_pos e] at hq
     split at hq <;> simp at hq
    ·rw [if_neg e] at hq
     rw [hgq (q + 1) (by omega)]
     exact u4 q r' n' hq
   ·rw [dT] at hq
    by_cases e:p=q
    ·subst e
     exact hgp
    ·rw [if_neg e] at hq
     rw [hgq (q + 1) (by omega)]
     exact u4' q hq
   ·rw [cK] at hq hq'
    by_cases e:q=p + 1
    ·subst e
     rw [hgp] at hb1
     cases hb1
    ·rw [hgq q e] at hb1
     by_cases e':q'=p + 1
     ·subst e'
      rw [hgp] at hb2
      cases hb2
     ·rw [hgq q' e'] at hb2
      exact u5 q q' b' hq hq' hqq hb1 hb2
  ·rw [hsj]
   exact ⟨csj,q2,q3⟩
  ·by_cases hn:kt=.gone
   ·subst hn; trivial
   ·rw [hsk k h1 h2]
    exact br.keepG_ok hg0 hsk (cI.1 hkM kt (dC h3)) (h.items k kt h3)
 ·rcases hset k kt hk with ⟨rfl,rfl⟩ | ⟨rfl,rfl⟩ | ⟨h1,h2,h3⟩
  ·obtain ⟨hb1,hb2⟩:=hbs b' hb
   rcases hset l lt hl with ⟨rfl,rfl⟩ | ⟨rfl,rfl⟩ | ⟨l1,l2,l3⟩
   ·exact absurd rfl hkl
   ·exact fun e=>hb2 (hbj b' e)
   ·rw [hsk l l1 l2]
    exact h.sep k l _ lt hkl hm l3 rfl hn b' hb1
  ·have hb1:=hbj b' hb
   rcases hset l lt hl with ⟨rfl,rfl⟩ | ⟨rfl,rfl⟩ | ⟨l1,l2,l3⟩
   ·exact fun e=>(hbs b' e).2 hb1
   ·exact absurd rfl hkl
   ·rw [hsk l l1 l2]
    exact h.sep i l _ lt (Ne.symm l1) hm l3 rfl hn b' (hbj2 b' hb1)
  ·rw [hsk k h1 h2] at hb
   rcases hset l lt hl with ⟨rfl,rfl⟩ | ⟨rfl,rfl⟩ | ⟨l1,l2,l3⟩
   ·exact fun e=>h.sep k l kt _ hkl h3 hm hf (by simp) b' hb (hbs b' e).1
   ·exact fun e=>h.sep k i kt _ h1 h3 hm hf (by simp) b' hb (hbj2 b' (hbj b' e))
   ·rw [hsk l l1 l2]
    exact h.sep k l kt lt hkl h3 l3 hf hn b' hb
 ·rcases hset k kt hk with ⟨rfl,rfl⟩ | ⟨rfl,rfl⟩ | ⟨h1,h2,h3⟩
  ·exact h.mine k _ hm (by simp) b' (hbs b' hb).1
  ·exact h.mine i _ hm (by simp) b' (hbj2 b' (hbj b' hb))
  ·rw [hsk k h1 h2] at hb
   exact h.mine k kt h3 hn b' hb
theorem xk {α:Type} {T:Ty α} {L:List (List α)} {l:List α} {i p tyo ty j:Nat} (hm:S.M[i]? = some (fZ tyo ty T L)) (hp:L[p]? = some l) (hj:S.M.length=j) (hkM:S.M.all (·.keepG i j)=true)
  (h:En c ⟨AW i j S.F,S.M.set i (kO tyo ty T L p (some (p,j))) ++ [bf ty T l]⟩ N):En c S N:=fun a w ⟨g,hs,hk⟩=>by
 subst hj
 obtain ⟨hs',_,hk'⟩:=hk.takeG (p:=p) (r:=ug T l) (m:=l.length) hm (by rw [cY,hp]; rfl) hkM
 exact h a w ⟨g,hs',hk'⟩
theorem kI {α:Type} {T:Ty α} {L:List (List α)} {i tyo ty q:Nat} {link:Option (Nat × Nat)} {k:Int} {t el:Nat} {ti te:TI} {x ix:Operand} {ik:IntKind} (ht:co.ok) (ho:o.op=.indexAddr t x ix) (h1:co t=some ti) (h2:ti.sl=some el) (h3:co el=some te) (h4:te.size=1)
  (hx:eL S.F x=some (.sv (.one (.gs i 0)))) (hm:S.M[i]? = some (kO tyo ty T L q link)) (hi:evK S.F ix=some (.int ik k)) (hk:0 <= k /\ k < (L.length:Int)):Val c S o (.sv (.one (.ge i 0 k.toNat 1))):=fun a w g hs h=>by
 have hv:a.eval x=cR (hs i) 0:=(bV h hx).1
 obtain ⟨us,ocs,_,_,r1,_⟩:=h.items i _ hm
 rw [cK,df] at r1
 rw [<- hv] at r1
 obtain ⟨b,of,cap,e1,e2⟩:=xX (iv:=a.eval ix) ht h1 h2 h3 h4 (by decide) r1 (eQ h hi) hk
 refine ⟨.pointer (some ⟨b,of + k.toNat * 1,none⟩),?_,⟨b,of,L.length,cap,by rw [<- hv]; exact e1,rfl⟩,trivial⟩
 have:(execOp a.eval o)=(do pure (.value (<- Instr.indexAt t (a.eval x) (a.eval ix))):Sem Next):=by unfold execOp; rw [ho]
 rw [this]
 exact cX e2
theorem tY {α:Type} {T:Ty α} {L:List (List α)} {i p j tyo ty t:Nat} {ti:TI} {x:Operand} (ht:co.ok) (ho:o.op=.load t x) (h1:co t=some ti) (h3:ti.agg=false)
  (hx:eL S.F x=some (.sv (.one (.ge i 0 p 1)))) (hm:S.M[i]? = some (kO tyo ty T L p (some (p,j)))):Val c S o (.sv (.one (.own j))):=fun a w g hs h=>by
 obtain ⟨⟨b,of,nn,cap,e1,e2⟩,_⟩:=bV h hx
 obtain ⟨us,ocs,_,_,r1,r2,_,_,r3,_⟩:=h.items i _ hm
 have hc0:=r3 p j rfl
 have htk:=ht t ti h1
 obtain ⟨ao,m,cp,hsl⟩:=r2 _ (dC hc0)
 have hcv:dR (hs j):=by rw [hsl]; trivial
 have hlo:ocs.length=((L.map fun l=>some (ug T l,l.length)).set p none).length:=by have:=r1.1; omega
 have hnn:nn=((L.map fun l=>some (ug T l,l.length)).set p none).length:=by
  obtain ⟨_,r⟩:=r1
  rcases r with ⟨e3,_⟩ | ⟨gb,of',cap',cur,e3,_⟩
  ·rw [e1] at e3; cases e3
  ·rw [e1] at e3; simp only [Value.slice.injEq] at e3; exact e3.2.1
 subst hnn
 have hc:=G1 (q:=0) r1 e1 (k:=p) (j:=0) (u:=hs j) (by rw [Nat.mul_one,eG]; exact hc0)
 rw [gF,eG,Nat.mul_one] at hc
 have:(execOp a.eval o)=(do pure (.value (<- Instr.loadAt t (a.eval x))):Sem Next):=by unfold execOp; rw [ho]
 rw [this]
 refine ⟨hs j,cX ?_,rfl,hcv⟩
 simp only [Instr.loadAt,e2,Instr.sureAddr,loadVar,bW,db,ce,htk.run_isAgg]
 rw [h3]
 simp [load,Sem.run,hc]
end
section
variable {c:eT} {S S1:St} {a:Act} {w:World} {g:Gh} {hs:Nat -> Value} {co:gY} {n:Nat} {o:Oper} {ops:Array Oper} {rest:List Oper} {N:Po}
end
section
variable {c:eT} {S S1:St} {a:Act} {w:World} {g:Gh} {hs:Nat -> Value} {co:gY} {n:Nat} {o:Oper} {ops:Array Oper} {rest:List Oper} {N:Po}
end
def vh (s:ByteArray) (i:Int):Option Int:=if 0 <= i then (s[i.toNat]?).map (fun b=>((b.toNat:Nat):Int)) else none
section
variable {c:eT} {S S1:St} {a:Act} {w:World} {g:Gh} {hs:Nat -> Value} {co:gY} {n:Nat} {o:Oper} {ops:Array Oper} {rest:List Oper} {N:Po}
theorem Bl {x ix:Operand} {t:Nat} {s:ByteArray} {k:IntKind} {i b:Int} (ho:o.op=.index t x ix) (hu:Tryz.prog.underlying t=some .string) (hx:eL S.F x=some (.sv (.one (.v (.string s))))) (hi:evK S.F ix=some (.int k i)) (hb:vh s i=some b):Val c S o (.sv (.one (.v (.int .u8 b)))):=fun a w g hs h=>by
 have h1:a.eval x=.string s:=(bV h hx).1
 unfold vh at hb
 split at hb
 ·rename_i h0
  cases hs:s[i.toNat]? with
  | none=>rw [hs] at hb; cases hb
  | some y =>
   rw [hs] at hb
   simp at hb
   subst hb
   refine ⟨.int .u8 (y.toNat:Int),?_,rfl,trivial⟩
   have e:execOp a.eval o=(do pure (.value (<- Instr.index t (a.eval x) (a.eval ix))):Sem Next):=by unfold execOp; rw [ho]
   rw [e]
   refine cX ?_
   simp only [Instr.index,eQ h hi,asIntOf,h1,bW,db,ce,run_underlying hu,if_pos h0,hs]
 ·cases hb
end
inductive Tr (α:Type) where
 | node (a:α) (kids:List (Tr α))
inductive MG {α:Type} (lab:α -> List Value) (g:Gh):Tr α -> Value -> Prop
 | mk (a:α) (kids:List (Tr α)) (b off:Nat) (ao:Option Addr) (cap b' o':Nat) (us:Nat -> Value)
   (h1:∀ j c,(lab a)[j]? = some c -> g.cell ⟨b,off + j,none⟩=some c) (h2:g.cell ⟨b,off + (lab a).length,none⟩=some (.slice ao kids.length cap))
   (h3:kids.length <= cap) (h4:cap <= maxLen) (h5:ao=none -> cap=0) (h6:0 < kids.length -> ao=some ⟨b',o',none⟩)
   (h7:∀ q x,kids[q]? = some x -> g.cell ⟨b',o' + q,none⟩=some (us q)) (h8:∀ q x,kids[q]? = some x -> MG lab g x (us q)):MG lab g (.node a kids) (.pointer (some ⟨b,off,none⟩))
section
variable {c:eT} {S S1:St} {a:Act} {w:World} {g:Gh} {hs:Nat -> Value} {co:gY} {n:Nat} {o:Oper} {ops:Array Oper} {rest:List Oper} {N:Po}
end
section
variable {c:eT} {S S1:St} {a:Act} {w:World} {g:Gh} {hs:Nat -> Value} {co:gY} {n:Nat} {o:Oper} {ops:Array Oper} {rest:List Oper} {N R:Po} {E:List (Nat × Po)}
end
section
variable {c:eT} {S S1:St} {a:Act} {w:World} {g:Gh} {hs:Nat -> Value} {co:gY} {n:Nat} {o:Oper} {ops:Array Oper} {rest L0:List Oper} {N:Po}
end
section
variable {c:eT} {l:List Oper} {N:Po} {S:St} {fuel:Nat} {listed:Array Bool}
end
section
variable {c:eT} {S:St}
theorem CV {i ty:Nat} {cells:List At} {k:Nat} (hm:S.M[i]? = some (.box cells ty true)) (hrefs:cells.flatMap At.refs=[]) (hk:cells.length=k):∀ a w g hs,dJ c S a w g hs -> ∀ u,SC.ok g hs (.sv (.one (.ptr i 0))) u -> SC.ok g hs (.sv (.one (.pe (eu (.agg cells)) k))) u:=fun a w g hs h u hu=>by
 obtain ⟨⟨b,h1,rfl⟩,_⟩:=hu
 obtain ⟨b',cs,h2,h3,h4,h5⟩:=h.items i _ hm
 rw [h1] at h2
 simp at h2
 subst h2
 have hg:=h5 rfl
 refine ⟨⟨b,0, .agg cs.toArray,rfl,⟨cs,rfl,rQ (fun i hi=>by rw [hrefs] at hi; cases hi) h3⟩,?_,fun j c hj=>?_⟩,trivial⟩
 ·have:=dF h3
  simp [Value.cells,<- this,hk]
 ·unfold Gh.cell
  rw [hg]
  simpa [Value.cells] using hj
end
section
variable {c:eT} {S:St} {co:gY} {n:Nat} {o:Oper} {N:Po}
theorem jd {i k s t f fo fs:Nat} {ag:Bool} {ti:TI} {x:Operand} (ht:co.ok) (ho:o.op=.fieldAddr t x f) (h1:co t=some ti) (h2:ti.st=true) (h3:ti.offs[f]? = some (fo,fs + 1,ag))
  (hx:eL S.F x=some (.sv (.one (.oe i k s)))):Val c S o (.sv (.one (.oe i (k * s + fo) 1))):=fun a w g hs h=>by
 obtain ⟨⟨b,off,n,cap,e1,e2⟩,_⟩:=bV h hx
 obtain ⟨fss,fx,k1,k2,k3,k4,k5⟩:=(ht t ti h1).field h2 h3
 have:(execOp a.eval o)=(do pure (.value (<- Instr.fieldAt t (a.eval x) f)):Sem Next):=by unfold execOp; rw [ho]
 rw [this]
 refine ⟨.pointer (some ⟨b,off + (k * s + fo) * 1,none⟩),cX ?_,⟨b,off,n,cap,e1,rfl⟩,trivial⟩
 simp only [Instr.fieldAt,bW,run_underlying k1,ce,k2,e2,Instr.sureAddr,db,fieldPlace,jr k4]
 simp [k3,Addr.add_lit,ft]
theorem oT {α:Type} {T:Ty α} {l:List α} {i k fo t el:Nat} {y:α} {cells:List At} {z:At} {ti:TI} {x:Operand} (ht:co.ok) (ho:o.op=.load t x) (h1:co t=some ti) (h2:ti.agg=false) (h3:T.sv y=.agg cells) (h4:cells[fo]? = some z) (h5:z.refs=[])
  (hx:eL S.F x=some (.sv (.one (.oe i (k * T.s + fo) 1)))) (hm:S.M[i]? = some (bf el T l)) (hy:l[k]? = some y):Val c S o (.sv (.one z)):=fun a w g hs h=>by
 obtain ⟨⟨b,of,nn,cap,e1,e2⟩,_⟩:=bV h hx
 obtain ⟨cs,⟨hl0,r1⟩,r2⟩:=h.items i _ hm
 have htk:=ht t ti h1
 obtain ⟨u,u1,u2,u3⟩:=pA r2 hy
 have:(execOp a.eval o)=(do pure (.value (<- Instr.loadAt t (a.eval x))):Sem Next):=by unfold execOp; rw [ho]
 rw [this]
 rw [h3] at u1
 obtain ⟨us,rfl,hos⟩:=u1
 obtain ⟨v,hv,hz,hcv⟩:=kM hos h4
 have hz':z.ok g hs v:=At.ok_hs (fun i hi=>by rw [h5] at hi; cases hi) hz
 refine ⟨v,cX ?_,hz'⟩
 have hcell:w.cell? (⟨b,of + (k * T.s + fo) * 1,none⟩:Addr)=some v:=by
  have hj':=u3 fo v (by simpa [Value.cells] using hv)
  rcases r1 with ⟨e3,_⟩ | ⟨gb,of',cap',cur,e3,e4,_,_,_,e5⟩
  ·rw [e1] at e3; cases e3
  ·rw [e1] at e3
   simp at e3
   obtain ⟨⟨rfl,rfl⟩,rfl,rfl⟩:=e3
   unfold World.cell?
   rw [e4]
   rw [<- e5,gP] at hj'
   split at hj'
   ·rw [iC] at hj'
    simpa [ft] using hj'
   ·cases hj'
 simp only [Instr.loadAt,e2,Instr.sureAddr,loadVar,bW,db,ce,htk.run_isAgg]
 rw [h2]
 rw [Nat.mul_one] at hcell
 simp [load,Sem.run,hcell]
theorem Bm {α:Type} {T:Ty α} {ls:List (List α)} {l:List α} {t n el:Nat} {k:Int} {ik:IntKind} {cells:List At} {te:TI} {x ix:Operand} (ht:co.ok) (ho:o.op=.index t x ix) (hu:Tryz.prog.underlying t=some (.array n el)) (h1:co el=some te) (h2:te.agg=false) (h3:te.size=1)
  (hx:eL S.F x=some (.sv (.agg cells))) (hc:cells=ls.map fun l=>LS T l) (hn:n=ls.length) (hi:evK S.F ix=some (.int ik k)) (hl:cq ls k=some l):Val c S o (.sv (.one (LS T l))):=fun a w g hs h=>by
 obtain ⟨us,e1,hos⟩:=bV h hx
 obtain ⟨g0,g1,g2⟩:=bs hl
 obtain ⟨v,hv,hz,hcv⟩:=kM hos (show cells[k.toNat]? = some (LS T l) by rw [hc,cY,g2]; rfl)
 have e:execOp a.eval o=(do pure (.value (<- Instr.index t (a.eval x) (a.eval ix))):Sem Next):=by unfold execOp; rw [ho]
 rw [e]
 refine ⟨v,cX ?_,hz⟩
 have hlt:0 <= k /\ k < (n:Int):=⟨g0,by rw [hn]; exact g1⟩
 have htk:=ht el te h1
 simp only [Instr.index,eQ h hi,asIntOf,e1,bW,db,ce,run_underlying hu,if_pos hlt,htk.run_size,h3,part,htk.run_isAgg]
 rw [h2]
 simp [hv]
end
section
variable {c:eT} {S S1:St} {co:gY} {n:Nat} {o:Oper} {ops:Array Oper} {rest L:List Oper} {N:Po}
theorem dz {β:Type} (F2:List (Nat × SC)) {f:Nat} {ins:List SC} {M:List br} {pin:List Nat} {post:β -> Prop} {out:β -> SC} {M':β -> List br} (ct:fj f ins M pin post out M') (en:∀ args w,(callFunc f args).run Tryz.prog w=.ok (.enter f args) w) {caps:List Nat} (rn:List Nat) {fo:Operand} {args:Array Operand} {ats:Array TypeId}
  (hn:c.n=n) (hw:dX ops S.F o=some true) (ho:o.op=.call ⟨.value fo,args,ats⟩) (hf:eL S.F fo=some (.sv (.one (.fn f caps)))) (ha:Ch c S args caps (ins.map (SC.ren (rnF rn S.M.length))))
  (hM:M.map (fun it=>some (it.mv (rnF rn S.M.length)))=rn.map (fun j=>S.M[j]?)) (hnd:rn.Nodup) (hsb:jf ⟨F2,S.M⟩ S=je ⟨F2,S.M⟩) (hal:zw ⟨F2,S.M⟩ rn pin=true) (hpl:pin.all (fun i=>Nat.blt i rn.length)=true)
  (h:∀ r,post r -> (CT (M' r) && Nat.ble M.length (M' r).length && Dv pin M (M' r) && (out r).refs.all (fun i=>Nat.blt i (M' r).length))=true /\ ∃ S1,iA n o.dst ((out r).ren (rnF rn S.M.length)) ⟨F2,iE (rnF rn S.M.length) S.M rn (M' r)⟩=some S1 /\ WL c ops rest S1 N):WL c ops (o :: rest) S N:=fun a w ⟨g,hs,hk⟩=>by
 unfold wpList
 rw [if_pos (dU hk hw)]
 refine .inl ?_
 unfold Oper.wp
 have hfv:a.eval fo=.func (.func f) #[] (caps.map hs).toArray:=(bV hk hf).1
 have hrun:(execOp a.eval o).run Tryz.prog w=.ok (.enter f ((args.toList.map a.eval) ++ caps.map hs).toArray) w:=by
  unfold execOp
  simp only [ho,resolve,hfv,Deferred.ofValue,bW,db,ce,invoke]
  rw [show (#[] ++ Array.map a.eval args ++ (List.map hs caps).toArray:Array Value)=(args.toList.map a.eval ++ caps.map hs).toArray by simp]
  exact en _ _
 rw [hrun]
 refine (ct w g (fun i=>hs (rnF rn S.M.length i)) _ hk.base.pers (ig (ha a w g hs hk)) (AG hk hM hnd)).mono ?_
 rintro e' w' ⟨v,g',hs',r,rfl,hq,h3,h4,h5,h6⟩
 obtain ⟨hc,S1,hp,hW⟩:=h r hq
 simp only [cC] at hc
 obtain ⟨⟨⟨c1,c2⟩,c3⟩,c4⟩:=hc
 obtain ⟨hsN,n1,n2⟩:=(xK hsb a w g hs hk).backE hM hnd hal c1 (dM c2) (A4 c3) h4 (fun i hi=>by have:=cI.1 hpl i hi; rwa [mb] at this) h5 h6
 refine hW _ _ ⟨g',hsN,fR n1 hn (SC.ren_ok (SC.ok_hs (fun i hi=>n2 i ?_) h3)) hp⟩
 have:=cI.1 c4 i hi
 rwa [mb] at this
end
theorem IX {α:Type} (cs us:List α) (K fo s:Nat) (v:α) (hs:us.length=s) (hfo:fo < s) (hK:K + s <= cs.length) (hu:∀ j c,us[j]? = some c -> cs[K + j]? = some c):cs.take K ++ us.set fo v ++ cs.drop (K + s)=cs.take (K + fo) ++ [v] ++ cs.drop (K + fo + 1):=by
 have e:us=(cs.drop K).take s:=by
  refine mX fun i=>?_
  rw [gP]
  by_cases h:i < s
  ·rw [if_pos h,iC]
   have hi:i < us.length:=by omega
   exact (cO hi).trans (hu i _ (cO hi)).symm
  ·rw [if_neg h,ko (by omega)]
 have h1:cs.take (K + fo)=cs.take K ++ (cs.drop K).take fo:=by rw [List.take_add]
 have h2:cs.drop (K + fo + 1)=((cs.drop K).take s).drop (fo + 1) ++ cs.drop (K + s):=by
  have:cs.drop K=(cs.drop K).take s ++ (cs.drop K).drop s:=(List.take_append_drop s _).symm
  rw [List.drop_drop] at this
  rw [ft,<- List.drop_drop]
  conv=>lhs; rw [this]
  rw [List.drop_append_of_le_length (by rw [eU,kj]; omega)]
 have h3:us.set fo v=(cs.drop K).take fo ++ v :: ((cs.drop K).take s).drop (fo + 1):=by
  rw [List.set_eq_take_append_cons_drop,if_pos (by omega),e,List.take_take,mQ (by omega)]
 rw [h1,h2,h3]
 simp
theorem CX {g:Gh} {hs:Nat -> Value} {z:At} {v:Value} (hz:z.ok g hs v) (hv:dR v):∀ {l:List At} {us:List Value} (j:Nat),oks g hs l us -> oks g hs (l.set j z) (us.set j v)
 | [],[],_,_=>trivial
 | [],_ :: _,_,h=>h.elim
 | _ :: _,[],_,h=>h.elim
 | _ :: _,_ :: _,0,h=>⟨hz,hv,h.2.2⟩
 | _ :: _,_ :: _,j + 1,h=>⟨h.1,h.2.1,CX hz hv j h.2.2⟩
section
variable {c:eT} {S:St} {co:gY} {o:Oper}
theorem kw {α:Type} {T:Ty α} {l:List α} {i k fo t el:Nat} {y y':α} {cells:List At} {z:At} {ti:TI} {x v:Operand} (ht:co.ok) (ho:o.op=.store t x v) (h1:co t=some ti) (h2:ti.size=1) (hT:T.solid)
  (h3:T.sv y=.agg cells) (h4:T.sv y'=.agg (cells.set fo z)) (h5:fo < cells.length) (h6:cells.length=T.s) (h7:z.refs=[]) (h8:z ≠ .junk) (hx:eL S.F x=some (.sv (.one (.oe i (k * T.s + fo) 1)))) (hm:S.M[i]? = some (bf el T l)) (hy:l[k]? = some y) (hv:eL S.F v=some (.sv (.one z))):MU c S o i (bf el T (l.set k y')):=fun a w g hs hh N Z hN=>by
 have hk:k < l.length:=(cg.1 hy).1
 unfold Oper.wp
 obtain ⟨⟨b,of,nn,cap,e1,e2⟩,_⟩:=bV hh hx
 obtain ⟨cs,⟨hl0,r1⟩,r2⟩:=hh.items i _ hm
 have htk:=ht t ti h1
 have hval:z.ok g hs (a.eval v):=bV hh hv
 have hval0:z.ok g gS (a.eval v):=At.ok_hs (fun i hi=>by rw [h7] at hi; cases hi) hval
 have hcv:dR (a.eval v):=by
  have:=hval.2
  cases z <;> first | exact this | exact absurd rfl h8
 have hc1:(a.eval v).cells.toList=[a.eval v]:=by rw [hcv.cells]
 obtain ⟨u,u1,u2,u3⟩:=pA r2 hy
 have u1':=u1
 rw [h3] at u1
 obtain ⟨us,rfl,hos⟩:=u1
 have hul:us.length=T.s:=by rw [<- dF hos]; exact h6
 rcases r1 with ⟨e3,e4⟩ | ⟨gb,of',cap',cur,e3,e4,e5,e6,e7,e8⟩
 ·omega
 ·rw [e1] at e3
  simp at e3
  obtain ⟨⟨rfl,rfl⟩,rfl,rfl⟩:=e3
  have hkl:k * T.s + T.s <= l.length * T.s:=by rw [<- mS]; exact dL _ hk
  have hkf:k * T.s + fo + 1 <= l.length * T.s:=by omega
  have hlc:of + l.length * T.s <= cur.size:=dp (kY (dL _ e5) _) e7
  have hst:=run_storeCells_at (P:=Tryz.prog) b (of + (k * T.s + fo)) el (a.eval v).cells.toList 0 cur w e4 (by rw [hc1,List.length_singleton]; omega) (fun u hu=>by rw [hc1] at hu; cases et.1 hu; exact hcv.one)
  simp only [eG] at hst
  have hrun:(execOp a.eval o).run Tryz.prog w=.ok .skip (w.setRow b (cur.toList.take (of + (k * T.s + fo)) ++ (a.eval v).cells.toList ++ cur.toList.drop (of + (k * T.s + fo) + (a.eval v).cells.toList.length)).toArray):=by
   have:execOp a.eval o=(do Instr.storeAt t (a.eval x) (a.eval v); pure .skip:Sem Next):=by unfold execOp; rw [ho]
   rw [this,Nat.mul_one] at *
   simp only [Instr.storeAt,e2,Instr.sureAddr,storeVar,bW,db,ce,htk.run_size]
   rw [if_neg (by rw [h2,hcv.cells]; simp)]
   simp only [hst,ce,db]
  rw [hrun]
  refine hN undef _ ?_ ?_
  ·rw [e1]
   exact ⟨rfl,rfl,rfl,by simp,fun q hq hne=>setRow_other w b q _ (fun e=>hne (by rw [e]; rfl))⟩
  ·have hset:=r2.set hk (y:=y') (u:=.agg (us.set fo (a.eval v)).toArray) (by rw [h4]; exact ⟨_,rfl,CX hval0 hcv fo hos⟩) (by simp [Value.cells,hul])
   simp only [Value.cells,f9,cK,hul] at hset
   rw [IX cs us (k * T.s) fo T.s (a.eval v) hul (by omega) (by rw [hl0]; exact hkl) (fun j c hj=>u3 j c (by simpa [Value.cells] using hj))] at hset
   refine ⟨_,⟨hset.length.trans (by simp), .inr ⟨b,of,cap,_,by rw [e1]; simp,setRow_heap w b _ _ _ _ e4,by simpa using e5,e6,?_,?_⟩⟩,hset⟩
   ·simp only [hc1,f9,di,eU,kj,fq,List.length_singleton]
    omega
   ·simp only [cK]
    show (List.drop of (_ ++ (a.eval v).cells.toList ++ _)).take _=_
    rw [nF _ _ (by rw [fq]; omega),<- e8,hc1,List.length_singleton]
    exact pz (cur.toList.drop of) [a.eval v] (k * T.s + fo) 1 (l.length * T.s) rfl hkf (by rw [kj,fq]; exact Nat.le_sub_of_add_le (by rw [mU]; exact hlc))
end
def Jq (L:List Int) (k:Int) (z:Nat):Nat -> Nat -> List At
 | _,0=>[]
 | j,m + 1=>I (cW L (k * (z:Int) + (j:Int))) :: Jq L k z (j + 1) m
theorem CO {L:List Int} {k:Int} {z:Nat} (hk:0 <= k):∀ (m j:Nat),j + m <= z -> (k.toNat + 1) * z <= L.length -> Jq L k z j m=((L.map I).drop (k.toNat * z + j)).take m
 | 0,_,_,_=>rfl
 | m + 1,j,h1,h2=>by
  have e:(k.toNat + 1) * z=k.toNat * z + z:=by rw [fk,Nat.one_mul]
  have hlt:k.toNat * z + j < (L.map I).length:=by rw [df]; omega
  have h3:k * (z:Int) + (j:Int)=((k.toNat * z + j:Nat):Int):=by
   rw [nS,g9,dB hk]
  have h4:=zt L (k:=k * (z:Int) + (j:Int)) (by rw [h3]; rw [df] at hlt; omega)
  rw [show (k * (z:Int) + (j:Int)).toNat=k.toNat * z + j by rw [h3,bE]] at h4
  rw [tU hlt,List.take_succ_cons,Jq,CO hk m (j + 1) (by omega) h2]
  rw [cO hlt] at h4
  rw [<- Option.some.inj h4]
  rfl
section
variable {c:eT} {S S1:St} {o:Oper} {co:gY} {n:Nat} {ops:Array Oper} {rest:List Oper} {N:Po}
theorem HS {cells:List At} {l:List Int} {off m q:Nat} {k:Int} (hN:l.length=m) (hc:(cells.drop off).take m=l.map I) (hk:0 <= k /\ k < (m:Int)) (hq:q=off + k.toNat):cells[q]? = some (I (cW l k)):=by
 subst hN hq
 have h:=zt l hk
 rw [<- hc,gP,if_pos (by omega),iC] at h
 exact h
theorem mm {i t ty q m:Nat} {fz:Bool} {ti:TI} {x:Operand} {cells:List At} (l:List Int) {k:Int} (off:Nat) (ht:co.ok) (ho:o.op=.load t x) (h3:co t=some ti) (h4:ti.size=1) (h5:ti.agg=false) (hx:eL S.F x=some (.sv (.one (.ptr i q)))) (hm:S.M[i]? = some (.box cells ty fz)) (hN:l.length=m) (hc:(cells.drop off).take m=l.map I) (hk:0 <= k /\ k < (m:Int)) (hq:q=off + k.toNat):Val c S o (.sv (.one (I (cW l k)))):=fun a w g hs h=>by
 obtain ⟨dst,op,type,pos,after,guard⟩:=o
 have ho:op=.load t x:=ho
 subst ho
 refine uZ ht h ?_
 show rZ co S t x=_
 simp only [rZ,hx,hm,h3,h4,h5,wG (HS hN hc hk hq)]
theorem Du {cells:List At} {l:List Int} {off m q:Nat} {k v:Int} (hN:l.length=m) (hc:(cells.drop off).take m=l.map I) (hk:0 <= k /\ k < (m:Int)) (hq:q=off + k.toNat):q < cells.length /\ cells.take q ++ [I v] ++ cells.drop (q + 1)=cells.take off ++ (vD k v 0 l).map I ++ cells.drop (off + m):=by
 subst hN hq
 have hlt:off + k.toNat < cells.length:=(cg.1 (HS rfl hc hk rfl)).1
 have e:=IZ l (v:=v) hk
 refine ⟨hlt,?_⟩
 rw [<- e,<- hc,List.take_take,mQ (by omega),List.drop_take,List.take_add,fE,fE,fE,fE,fE]
 congr 2
 rw [List.drop_drop]
 congr 1
 have h5:(cells.drop (off + (k.toNat + 1)))=((cells.drop (off + (k.toNat + 1))).take (l.length - (k.toNat + 1))) ++ (cells.drop (off + l.length)):=by
  have:=(List.take_append_drop (l.length - (k.toNat + 1)) (cells.drop (off + (k.toNat + 1)))).symm
  rw [List.drop_drop,show off + (k.toNat + 1) + (l.length - (k.toNat + 1))=off + l.length by omega] at this
  exact this
 rw [show off + k.toNat + 1=off + (k.toNat + 1) by omega]
 exact h5
theorem uJ {t i ty q m:Nat} {ti:TI} {x y:Operand} {v:Int} {cells r:List At} (l:List Int) {k:Int} (off:Nat) (ht:co.ok) (ho:o.op=.store t x y) (h1:co t=some ti) (h4:ti.size=1) (hx:eL S.F x=some (.sv (.one (.ptr i q)))) (hm:S.M[i]? = some (.box cells ty false)) (hy:eL S.F y=some (.sv (.one (I v)))) (hN:l.length=m) (hc:(cells.drop off).take m=l.map I) (hr:cells.take off ++ (vD k v 0 l).map I ++ cells.drop (off + m)=r) (hk:0 <= k /\ k < (m:Int)) (hq:q=off + k.toNat):MU c S o i (.box r ty false):=by
 obtain ⟨hlt,e⟩:=Du (v:=v) hN hc hk hq
 subst hr
 refine eY ht ho h1 hx hm hy (fun h=>by cases h) ?_ e
 rw [h4]
 show (Nat.beq 1 1 && Nat.ble (q + 1) cells.length)=true
 rw [cC]
 exact ⟨rfl,Nat.ble_eq_true_of_le (by omega)⟩
theorem pr {t i ty q m:Nat} {ti:TI} {x y:Operand} {v:Int} {cells r:List At} (l:List Int) {k:Int} (off:Nat) (ht:co.ok) (hn:c.n=n) (hw:dX ops S.F o=some true) (ho:o.op=.store t x y) (h1:co t=some ti) (h4:ti.size=1) (hx:eL S.F x=some (.sv (.one (.ptr i q)))) (hm:S.M[i]? = some (.box cells ty false)) (hy:eL S.F y=some (.sv (.one (I v)))) (hN:l.length=m) (hc:(cells.drop off).take m=l.map I) (hr:cells.take off ++ (vD k v 0 l).map I ++ cells.drop (off + m)=r) (hk:0 <= k /\ k < (m:Int)) (hq:q=off + k.toNat)
  (e:iA n o.dst (.tup []) ⟨S.F,S.M.set i (.box r ty false)⟩=some S1) (h:WL c ops rest S1 N):WL c ops (o :: rest) S N:=fun a w ⟨g,hs,hh⟩=>by
 obtain ⟨hlt,e2⟩:=Du (v:=v) hN hc hk hq
 have e':evM co n S o=some S1:=by
  unfold evM
  rw [ho]
  subst hr
  show tJ co n S o.dst t x y=_
  have hb:(Nat.beq (cF (.one (I v))).length ti.size && Nat.ble (q + (cF (.one (I v))).length) cells.length)=true:=by
   rw [h4]
   show (Nat.beq 1 1 && Nat.ble (q + 1) cells.length)=true
   rw [cC]
   exact ⟨rfl,Nat.ble_eq_true_of_le (by omega)⟩
  unfold tJ
  rw [hx]
  simp only
  rw [hm]
  simp only
  rw [h1]
  simp only
  rw [hy]
  simp only
  rw [hb]
  simp only
  rw [<- e,<- e2]
  rfl
 unfold wpList
 rw [if_pos (dU hh hw)]
 refine .inl ?_
 unfold Oper.wp
 obtain ⟨v,w',hs',h2 | ⟨h2,rfl⟩,h3⟩:=HB ht hh hn e'
 ·rw [h2]; exact h _ _ ⟨g,hs',h3⟩
 ·rw [h2]; exact h _ _ ⟨g,hs',h3⟩
theorem sC {l:List At} {sz t m el fs:Nat} {ag:Bool} {te:TI} {x ix:Operand} {ik:IntKind} {k:Int} {r:SV} (ht:co.ok) (ho:o.op=.indexAddr t x ix) (hu:Tryz.prog.underlying t=some (.array m el)) (h3:co el=some te) (h4:te.size=fs + 1)
  (hx:eL S.F x=some (.sv (.one (.pe (eu (.agg l)) sz)))) (hi:evK S.F ix=some (.int ik k)) (h0:0 <= k /\ k < (m:Int)) (h5:iG l (k.toNat * (fs + 1)) (fs + 1) ag=some r) (h6:(cF r).length=fs + 1):Val c S o (.sv (.one (.pe (eu r) (fs + 1)))):=fun a w g hs h=>by
 obtain ⟨⟨b,off,u,e1,⟨cs,rfl,e2⟩,e3,e4⟩,_⟩:=bV h hx
 have:(execOp a.eval o)=(do pure (.value (<- Instr.indexAt t (a.eval x) (a.eval ix))):Sem Next):=by unfold execOp; rw [ho]
 rw [this]
 have key:∃ v:Value,r.ok g gS v /\ v.cells.size=fs + 1 /\ ∀ j c,v.cells[j]? = some c -> cs[k.toNat * (fs + 1) + j]? = some c:=by
  cases ag with
  | true =>
   simp only [iG] at h5
   split at h5
   ·rename_i hb
    cases h5
    have ho:=iH (fs + 1) (iI (k.toNat * (fs + 1)) e2)
    have hl:=dF ho
    refine ⟨.agg ((cs.drop (k.toNat * (fs + 1))).take (fs + 1)).toArray,⟨_,rfl,ho⟩,by simp only [Value.cells,f9]; rw [<- hl]; exact h6,fun j c hj=>?_⟩
    simp only [Value.cells,List.getElem?_toArray,gP] at hj
    split at hj
    ·rwa [iC] at hj
    ·cases hj
   ·cases h5
  | false =>
   simp only [iG] at h5
   split at h5
   ·rename_i y hy
    cases h5
    obtain ⟨v,hv,h7,h8⟩:=kM e2 hy
    have h9:fs + 1=1:=by simpa [cF] using h6.symm
    refine ⟨v,h7,by rw [dR.cells h8,h9]; rfl,fun j c hj=>?_⟩
    rw [dR.cells h8] at hj
    cases j with
    | zero=>simp at hj; subst hj; exact hv
    | succ j=>simp at hj
   ·cases h5
 obtain ⟨v,v1,v2,v3⟩:=key
 refine ⟨.pointer (some ⟨b,off + k.toNat * (fs + 1),none⟩),?_,⟨b,off + k.toNat * (fs + 1),v,rfl,v1,v2,fun j c hj=>?_⟩,trivial⟩
 ·refine cX ?_
  simp only [Instr.indexAt,eQ h hi,asIntOf,e1,Instr.sureAddr,bW,db,ce,run_underlying hu,if_pos h0,(ht el te h3).run_size,h4,gF]
 ·rw [ft]
  exact e4 (k.toNat * (fs + 1) + j) c (by simpa [Value.cells] using v3 j c hj)
theorem IM {L:List Int} {sz t m el:Nat} {te:TI} {x ix:Operand} {ik:IntKind} {k:Int} (ht:co.ok) (ho:o.op=.indexAddr t x ix) (hu:Tryz.prog.underlying t=some (.array m el)) (h3:co el=some te) (h4:te.size=1)
  (hx:eL S.F x=some (.sv (.one (.pe (eu (.agg (L.map I))) sz)))) (hi:evK S.F ix=some (.int ik k)) (hL:L.length=m) (h0:0 <= k /\ k < (m:Int)):Val c S o (.sv (.one (.pe (eu (.one (I (cW L k)))) 1))):=
 sC (ag:=false) (fs:=0) ht ho hu h3 h4 hx hi h0 (by rw [gt,Nat.mul_one]; exact wG (zt L (by omega))) rfl
theorem IL {L:List Int} {r:List At} {sz t m el fs:Nat} {te:TI} {x ix:Operand} {ik:IntKind} {k:Int} (ht:co.ok) (ho:o.op=.indexAddr t x ix) (hu:Tryz.prog.underlying t=some (.array m el)) (h3:co el=some te) (h4:te.size=fs + 1)
  (hx:eL S.F x=some (.sv (.one (.pe (eu (.agg (L.map I))) sz)))) (hi:evK S.F ix=some (.int ik k)) (hL:L.length=m * (fs + 1)) (hr:Jq L k (fs + 1) 0 (fs + 1)=r) (h6:(cF (.agg r)).length=fs + 1) (h0:0 <= k /\ k < (m:Int)):Val c S o (.sv (.one (.pe (eu (.agg r)) (fs + 1)))):=by
 have h1:(k.toNat + 1) * (fs + 1) <= L.length:=by rw [hL]; exact dL _ (by omega)
 have e:r=((L.map I).drop (k.toNat * (fs + 1))).take (fs + 1):=by rw [<- hr]; exact CO (z:=fs + 1) h0.1 (fs + 1) 0 (by omega) h1
 refine sC (ag:=true) ht ho hu h3 h4 hx hi h0 ?_ h6
 unfold iG
 rw [<- e]
 have h6:r.length=fs + 1:=h6
 rw [h6,show Nat.beq (fs + 1) (fs + 1)=true from Nat.beq_refl _]
theorem H8 {i:Nat} {it it':br} (hd:o.dst=none) (hw:dX ops S.F o=some true) (hm:MU c S o i it') (hi:S.M[i]? = some it) (hf:it.fz=false) (hf':it'.fz=false) (h:WL c ops rest ⟨S.F,S.M.set i it'⟩ N):WL c ops (o :: rest) S N:=fun a w ⟨g,hs,hh⟩=>by
 unfold wpList
 rw [if_pos (dU hh hw)]
 refine .inl (hm a w g hs hh _ N fun v w' h1 h2=>?_)
 rw [hd]
 exact h _ _ ⟨g,hs,hh.upd hi hf hf' h1 h2⟩
end
theorem CW {g:Gh} {hs:Nat -> Value} {x y:At} (hxy:∀ u,x.ok g hs u -> y.ok g hs u):∀ {l:List At} {us:List Value} (j:Nat),l[j]? = some x -> oks g hs l us -> oks g hs (l.set j y) us
 | [],_,_,e,_=>by simp at e
 | _ :: _,[],_,_,h=>h.elim
 | a :: _,u :: _,0,e,h=>by
  simp at e
  subst e
  exact ⟨hxy u h.1,h.2.1,h.2.2⟩
 | _ :: _,_ :: _,j + 1,e,h=>⟨h.1,h.2.1,CW hxy j (by simpa using e) h.2.2⟩
section
variable {c:eT} {S:St} {a:Act} {w:World} {g:Gh} {hs:Nat -> Value} {N:Po} {ops:Array Oper} {L:List Oper}
theorem GZ {cells cells':List At} {ty ty' k:Nat} {fz:Bool} (i j p:Nat) (hm:S.M[i]? = some (.box cells ty fz)) (hj:cells[j]? = some (.ptr p 0)) (hp:S.M[p]? = some (.box cells' ty' true)) (hrefs:cells'.flatMap At.refs=[]) (hl:cells'.length=k) (hk:dJ c S a w g hs):dJ c ⟨S.F,S.M.set i (.box (cells.set j (.pe (eu (.agg cells')) k)) ty fz)⟩ a w g hs:=by
 have hset:∀ (k':Nat) (jt:br),(S.M.set i (.box (cells.set j (.pe (eu (.agg cells')) k)) ty fz))[k']? = some jt -> (k'=i /\ jt=.box (cells.set j (.pe (eu (.agg cells')) k)) ty fz) \/ (k' ≠ i /\ S.M[k']? = some jt):=fun k' jt hk=>by
  rw [dT] at hk
  by_cases e:i=k'
  ·rw [if_pos e] at hk
   split at hk
   ·simp at hk; exact .inl ⟨e.symm,hk.symm⟩
   ·cases hk
  ·rw [if_neg e] at hk; exact .inr ⟨Ne.symm e,hk⟩
 have old:∀ (k':Nat) (jt:br),(S.M.set i (.box (cells.set j (.pe (eu (.agg cells')) k)) ty fz))[k']? = some jt -> jt ≠ .gone -> ∃ kt,S.M[k']? = some kt /\ kt.fz=jt.fz /\ kt ≠ .gone:=fun k' jt hk hn=>by
  rcases hset k' jt hk with ⟨rfl,rfl⟩ | ⟨_,h⟩
  ·exact ⟨_,hm,rfl,by simp⟩
  ·exact ⟨jt,h,rfl,hn⟩
 refine ⟨hk.size,hk.defers,hk.base,hk.slots,fun k' jt hj'=>?_,fun k' l jt lt hkl h1 h2 hf hn=>?_,fun k' jt h1 hn=>?_⟩
 ·rcases hset k' jt hj' with ⟨rfl,rfl⟩ | ⟨_,h⟩
  ·obtain ⟨b,cs,h1,h2,h3⟩:=hk.items k' _ hm
   exact ⟨b,cs,h1,CW (fun u hu=>CV hp hrefs hl a w g hs hk u hu) j hj h2,h3⟩
  ·exact hk.items k' jt h
 ·obtain ⟨kt,a1,a2,a3⟩:=old k' jt h1 (dy hf)
  obtain ⟨kt',b1,b2,b3⟩:=old l lt h2 hn
  exact hk.sep k' l kt kt' hkl a1 b1 (a2.trans hf) b3
 ·obtain ⟨kt,a1,a2,a3⟩:=old k' jt h1 hn
  rw [<- a2]
  exact hk.mine k' kt a1 a3
theorem H7 {cells cells':List At} {ty ty' k:Nat} {fz:Bool} (i j p:Nat) (hm:S.M[i]? = some (.box cells ty fz)) (hj:cells[j]? = some (.ptr p 0)) (hp:S.M[p]? = some (.box cells' ty' true)) (hrefs:cells'.flatMap At.refs=[]) (hl:cells'.length=k) (h:WL c ops L ⟨S.F,S.M.set i (.box (cells.set j (.pe (eu (.agg cells')) k)) ty fz)⟩ N):WL c ops L S N:=fun a w ⟨g,hs,hk⟩=>h a w ⟨g,hs,GZ i j p hm hj hp hrefs hl hk⟩
end
section
variable {c:eT} {S:St} {o:Oper}
theorem G7 {β α:Type} {Q:β -> Prop} {x:β -> SC} {T:Ty α} {l:List α} {e:Nat} (i:Nat) (hm:S.M[i]? = some (bf e T l)) (hp:∀ r,yk (x r)=true) (h:MTQ c (ws S i (LS T l)) o Q x (fun _=>none)):MTQ c S o Q x (fun _=>none):=fun a w g hs hk N Z hN=>by
 obtain ⟨g2,hk2⟩:=hk.seal hm
 exact h a w g2 hs hk2 N Z fun r hr v w' g' h' h1 h2 _=>hN r hr v w' g h' (h1.back hk.base.pers) (rL (hp r) h2) trivial
theorem Co {κ:Type} [DecidableEq κ] {t:Nat} {b:TypeId} {enc:κ -> Value} (K:kG t enc) {u v:κ} {us vs:Array Value} {x y:Operand} {op:BinOp} {r:Bool} (ho:o.op=.binOp op t x y b) (hx:Fd S.F x=some (enc u)) (hy:Fd S.F y=some (enc v)) (hu:enc u=.agg us) (hv:enc v=.agg vs) (hg:Tryz.prog.eqGuardType Tryz.prog.depth t=false) (hop:(op=.eql /\ r=decide (u=v)) \/ (op=.neq /\ r = !decide (u=v))):Val c S o (.sv (.one (B r))):=fun a w g hs h=>by
 have h1:a.eval x=enc u:=tK h hx
 have h2:a.eval y=enc v:=tK h hy
 refine ⟨.bool r,?_,rfl,trivial⟩
 have e:execOp a.eval o=(do pure (.value (<- (do eqGuard op t x y (a.eval x) (a.eval y); binOp op t (a.eval x) (a.eval y):Sem Value))):Sem Next):=by unfold execOp; rw [ho]
 rw [e]
 refine cX ?_
 rw [h1,h2]
 have hq:=K.equal u v w
 rw [hu,hv] at hq ⊢
 rcases hop with ⟨rfl,rfl⟩ | ⟨rfl,rfl⟩
 ·have hg:(eqGuard .eql t x y (.agg us) (.agg vs)).run Tryz.prog w=.ok () w:=by simp [eqGuard,Go.program,Sem.run,hg]
  rw [bW,hg,ce]
  show (do pure (.bool (<- Op.equal t (.agg us) (.agg vs))):Sem Value).run Tryz.prog w=_
  rw [bW,hq,ce]
  rfl
 ·have hg:(eqGuard .neq t x y (.agg us) (.agg vs)).run Tryz.prog w=.ok () w:=by simp [eqGuard,Go.program,Sem.run,hg]
  rw [bW,hg,ce]
  show (do pure (.bool (!(<- Op.equal t (.agg us) (.agg vs)))):Sem Value).run Tryz.prog w=_
  rw [bW,hq,ce]
  rfl
end
section
variable {c:eT} {S S1:St} {a:Act} {w:World} {g:Gh} {hs:Nat -> Value} {co:gY} {n:Nat} {o:Oper} {ops:Array Oper} {rest L:List Oper} {N:Po}
end
def rO (P:Nat -> Option Value) (D:Nat -> Option Nat):At -> At
 | .own i=>match P i with
  | some x=>.pown i x
  | none=>.own i
 | .ptr i k=>match D i with
  | some b=>.pptr i k b
  | none=>.ptr i k
 | a=>a
def o7 (P:Nat -> Option Value) (D:Nat -> Option Nat):br -> br
 | .box cells ty fz=>.box (cells.map (rO P D)) ty fz
 | it=>it
def EJ (L:List (Nat × Nat)) (i:Nat):Option Nat:=match L with
 | []=>none
 | (j,x) :: L=>bif Nat.beq i j then some x else EJ L i
def EI (L:List (Nat × Value)) (i:Nat):Option Value:=match L with
 | []=>none
 | (j,x) :: L=>bif Nat.beq i j then some x else EI L i
section
variable {P:Nat -> Option Value} {D:Nat -> Option Nat} {g:Gh} {hs:Nat -> Value}
theorem rN {i:Nat} {x:Value} (h:P i=some x):rO P D (.own i)=.pown i x:=by simp only [rO,h]
theorem wF {i:Nat} (h:P i=none):rO P D (.own i)=.own i:=by simp only [rO,h]
theorem uz {i k b:Nat} (h:D i=some b):rO P D (.ptr i k)=.pptr i k b:=by simp only [rO,h]
theorem uA {i k:Nat} (h:D i=none):rO P D (.ptr i k)=.ptr i k:=by simp only [rO,h]
theorem JG (hP:∀ i x,P i=some x -> hs i=x) (hD:∀ i b,D i=some b -> hs i=.pointer (some ⟨b,0,none⟩)) {a:At} {u:Value} (h:a.ok g hs u):(rO P D a).ok g hs u:=by
 cases a with
 | own i =>
  cases e:P i with
  | some x=>rw [rN e]; exact ⟨⟨hP i x e,h.1⟩,h.2⟩
  | none=>rw [wF e]; exact h
 | ptr i k =>
  cases e:D i with
  | some b =>
   rw [uz e]
   obtain ⟨⟨b',h1,h2⟩,h3⟩:=h
   have h4:=hD i b e
   rw [h1] at h4
   simp at h4
   subst h4
   exact ⟨⟨h1,h2⟩,h3⟩
  | none=>rw [uA e]; exact h
 | _=>exact h
theorem D8 {a:At} {u:Value} (h:(rO P D a).ok g hs u):a.ok g hs u:=by
 cases a with
 | own i =>
  cases e:P i with
  | some x=>rw [rN e] at h; exact ⟨h.1.2,h.2⟩
  | none=>rw [wF e] at h; exact h
 | ptr i k =>
  cases e:D i with
  | some b=>rw [uz e] at h; exact ⟨⟨b,h.1.1,h.1.2⟩,h.2⟩
  | none=>rw [uA e] at h; exact h
 | _=>exact h
theorem Ar (hP:∀ i x,P i=some x -> hs i=x) (hD:∀ i b,D i=some b -> hs i=.pointer (some ⟨b,0,none⟩)):∀ {l:List At} {us:List Value},oks g hs l us -> oks g hs (l.map (rO P D)) us
 | [],[],_=>trivial
 | [],_ :: _,h=>h.elim
 | _ :: _,[],h=>h.elim
 | _ :: _,_ :: _,h=>⟨JG hP hD h.1,h.2.1,Ar hP hD h.2.2⟩
theorem t4 : ∀ {l:List At} {us:List Value},oks g hs (l.map (rO P D)) us -> oks g hs l us
 | [],[],_=>trivial
 | [],_ :: _,h=>h.elim
 | _ :: _,[],h=>h.elim
 | _ :: _,_ :: _,h=>⟨D8 h.1,h.2.1,t4 h.2.2⟩
theorem JF (hP:∀ i x,P i=some x -> hs i=x) (hD:∀ i b,D i=some b -> hs i=.pointer (some ⟨b,0,none⟩)) {it:br} {w:World} {v:Value} (h:it.ok g hs w v):(o7 P D it).ok g hs w v:=by
 cases it with
 | box cells ty fz=>obtain ⟨b,cs,h1,h2,h3⟩:=h; exact ⟨b,cs,h1,Ar hP hD h2,h3⟩
 | _=>exact h
theorem D7 {it:br} {w:World} {v:Value} (h:(o7 P D it).ok g hs w v):it.ok g hs w v:=by
 cases it with
 | box cells ty fz=>obtain ⟨b,cs,h1,h2,h3⟩:=h; exact ⟨b,cs,h1,t4 h2,h3⟩
 | _=>exact h
theorem nY {it:br}:(o7 P D it).fz=it.fz:=by cases it <;> rfl
theorem nX {it:br}:o7 P D it=.gone ↔ it=.gone:=by cases it <;> simp [o7]
theorem jB {M:List br} {i:Nat} {jt:br} (h:(M.map (o7 P D))[i]? = some jt):∃ it,M[i]? = some it /\ o7 P D it=jt:=by
 rw [cY] at h
 cases e:M[i]? with
 | none=>rw [e] at h; cases h
 | some it=>rw [e] at h; exact ⟨it,rfl,Option.some.inj h⟩
theorem fT.pin {may:Nat -> Prop} {lo:Nat} {M:List br} {w:World} (hP:∀ i x,P i=some x -> hs i=x) (hD:∀ i b,D i=some b -> hs i=.pointer (some ⟨b,0,none⟩)) (h:fT may lo M g hs w):fT may lo (M.map (o7 P D)) g hs w:=by
 refine ⟨fun i jt hi=>?_,fun i j it jt hij hi hj hf hn=>?_,fun i it hi hn=>?_⟩
 ·obtain ⟨it,h1,rfl⟩:=jB hi
  exact JF hP hD (h.items i it h1)
 ·obtain ⟨it',h1,rfl⟩:=jB hi
  obtain ⟨jt',h2,rfl⟩:=jB hj
  exact h.sep i j it' jt' hij h1 h2 (by rw [<- hf,nY]) (fun e=>hn (nX.2 e))
 ·obtain ⟨it',h1,rfl⟩:=jB hi
  rw [nY]
  exact h.mine i it' h1 (fun e=>hn (nX.2 e))
theorem fT.unpin {may:Nat -> Prop} {lo:Nat} {M:List br} {w:World} (h:fT may lo (M.map (o7 P D)) g hs w):fT may lo M g hs w:=by
 have key:∀ {i:Nat} {it:br},M[i]? = some it -> (M.map (o7 P D))[i]? = some (o7 P D it):=fun {i it} e=>by rw [cY,e]; rfl
 refine ⟨fun i it hi=>D7 (h.items i _ (key hi)),fun i j it jt hij hi hj hf hn=>h.sep i j _ _ hij (key hi) (key hj) (by rw [nY]; exact hf) (fun e=>hn (nX.1 e)),fun i it hi hn=>?_⟩
 have:=h.mine i _ (key hi) (fun e=>hn (nX.1 e))
 rwa [nY] at this
theorem He {M:List br}:oo (M.map (o7 P D)) hs=oo M hs:=by
 funext b
 refine propext ⟨?_,?_⟩
 ·rintro ⟨i,jt,h1,h2,h3⟩
  obtain ⟨it,h4,rfl⟩:=jB h1
  exact ⟨i,it,h4,by rw [<- h2,nY],h3⟩
 ·rintro ⟨i,it,h1,h2,h3⟩
  exact ⟨i,o7 P D it,by rw [cY,h1]; rfl,by rw [nY]; exact h2,h3⟩
end
def B1 (M:List br) (p:At -> Bool):Bool:=M.any fun it=>match it with
 | .box cells _ _=>cells.any p
 | _=>false
def Mf (i:Nat):At -> Bool
 | .own j=>Nat.beq i j
 | _=>false
def Ho (i:Nat):At -> Bool
 | .ptr j 0=>Nat.beq i j
 | _=>false
theorem GV {L:List (Nat × Value)} {i:Nat} {x:Value} (h:EI L i=some x):(i,x) ∈ L:=by
 induction L with
 | nil=>cases h
 | cons y L ih =>
  obtain ⟨j,z⟩:=y
  unfold EI at h
  cases e:Nat.beq i j with
  | true =>
   rw [e] at h
   have:=dS e
   subst this
   have h:some z=some x:=h
   cases h
   exact fD
  | false =>
   rw [e] at h
   exact d7 _ (ih h)
theorem GW {L:List (Nat × Nat)} {i x:Nat} (h:EJ L i=some x):(i,x) ∈ L:=by
 induction L with
 | nil=>cases h
 | cons y L ih =>
  obtain ⟨j,z⟩:=y
  unfold EJ at h
  cases e:Nat.beq i j with
  | true =>
   rw [e] at h
   have:=dS e
   subst this
   have h:some z=some x:=h
   cases h
   exact fD
  | false =>
   rw [e] at h
   exact d7 _ (ih h)
theorem G4 {g:Gh} {hs:Nat -> Value}:∀ {l:List At} {us:List Value} {a:At},oks g hs l us -> a ∈ l -> ∃ u,a.ok g hs u
 | [],_,_,_,h=>by cases h
 | _ :: _,[],_,h,_=>h.elim
 | y :: l,u :: us,a,h,ha=>by
  rcases eh.1 ha with rfl | ha
  ·exact ⟨u,h.1⟩
  ·exact G4 h.2.2 ha
theorem xe {M:List br} {p:At -> Bool} {f:At -> At} {F:br -> br} {may:Nat -> Prop} {lo:Nat} {g:Gh} {hs:Nat -> Value} {w:World} (hF:∀ cells ty fz,F (.box cells ty fz)=.box (cells.map f) ty fz) (hm:fT may lo (M.map F) g hs w) (h:B1 M p=true):∃ a u,p a=true /\ (f a).ok g hs u:=by
 obtain ⟨it,h1,h2⟩:=jH.1 h
 split at h2
 ·rename_i cells ty fz
  obtain ⟨a,h3,h4⟩:=jH.1 h2
  obtain ⟨q,hq⟩:=jI.1 h1
  obtain ⟨b,cs,_,h6,_⟩:=hm.items q (.box (cells.map f) ty fz) (by rw [cY,hq]; exact cZ some (hF cells ty fz))
  obtain ⟨u,h7⟩:=G4 h6 (List.mem_map_of_mem h3)
  exact ⟨a,u,h4,h7⟩
 ·cases h2
theorem fj.kept {β:Type} {f:Nat} {ins:List SC} {M:List br} {pin:List Nat} {post:β -> Prop} {out:β -> SC} {M':β -> List br} (h:fj f ins M pin post out M') (L:List (Nat × Value)) (B:List (Nat × Nat)) (hL:(L.all (fun x=>B1 M (Mf x.1) && pin.any (Nat.beq x.1)) && B.all (fun x=>B1 M (Ho x.1) && pin.any (Nat.beq x.1)))=true):fj f ins (M.map (o7 (EI L) (EJ B))) pin post out (fun r=>(M' r).map (o7 (EI L) (EJ B))):=fun w g hs args hp ha hm=>by
 obtain ⟨hL,hB⟩:=(cC _ _).mp hL
 have hP:∀ i x,EI L i=some x -> hs i=x /\ i ∈ pin:=fun i x e=>by
  obtain ⟨m1,m2⟩:=(cC _ _).mp (cI.1 hL _ (GV e))
  obtain ⟨a,u,h4,h7⟩:=xe (fun _ _ _=>rfl) hm m1
  cases a <;> first | cases h4; done | skip
  have h4:=dS h4
  simp only at h4
  subst h4
  rw [rN e] at h7
  exact ⟨h7.1.1,re.1 m2⟩
 have hD:∀ i b,EJ B i=some b -> hs i=.pointer (some ⟨b,0,none⟩) /\ i ∈ pin:=fun i b e=>by
  obtain ⟨m1,m2⟩:=(cC _ _).mp (cI.1 hB _ (GW e))
  obtain ⟨a,u,h4,h7⟩:=xe (fun _ _ _=>rfl) hm m1
  have h4:Ho i a=true:=h4
  unfold Ho at h4
  split at h4
  ·rename_i j
   have h4:=dS h4
   subst h4
   rw [uz e] at h7
   exact ⟨h7.1.1,re.1 m2⟩
  ·cases h4
 refine (h w g hs args hp ha hm.unpin).mono ?_
 rintro e w' ⟨v,g',hs',r,e1,e2,e3,e4,e5,e6⟩
 rw [He]
 exact ⟨v,g',hs',r,e1,e2,e3,e4,e5,e6.pin (fun i x hx=>(e4 i (hP i x hx).2).trans (hP i x hx).1) (fun i b hx=>(e4 i (hD i b hx).2).trans (hD i b hx).1)⟩
theorem fj.args {β:Type} {f:Nat} {ins ins':List SC} {M:List br} {pin:List Nat} {post:β -> Prop} {out:β -> SC} {M':β -> List br} (h:fj f ins M pin post out M') (hle:vB ins' ins):fj f ins' M pin post out M':=fun w g hs args h1 h2 h3=>h w g hs args h1 (hle _ _ _ h2) h3
inductive Wit where
 | slot (t:Nat)
 | cell (q j:Nat)
 | cap (t k:Nat)
section
variable {c:eT} {S:St} {co:gY}
end
section
variable {c:eT} {S S1:St} {a:Act} {w:World} {g:Gh} {hs:Nat -> Value} {co:gY} {n:Nat} {o:Oper}
theorem n3 {β:Type} {Q:β -> Prop} {itf:β -> br} {out x:β -> SC} (p:Nat) {f:Nat} {ins:List SC} {M:List br} (ct:CtS f ins M Q out itf) (en:∀ args w,(callFunc f args).run Tryz.prog w=.ok (.enter f args) w) {caps:List Nat} (rn:List Nat) {fo:Operand} {args:Array Operand} {ats:Array TypeId} (hir:∀ r,(itf r).refs=[]) (hx:∀ r,(out r).ren (fun _=>p)=x r)
  (ho:o.op=.call ⟨.value fo,args,ats⟩) (hf:eL S.F fo=some (.sv (.one (.fn f caps)))) (ha:(match rY S.F args.toList with | some l=>some (l ++ caps.map fun i=>.sv (.one (.ptr i 0))) | none=>none)=some (ins.map (SC.ren fun i=>rn.getD i 0)))
  (hM:fzE S.M (fun i=>rn.getD i 0) 0 M=M.map fun it=>some (it.ren fun i=>rn.getD i 0)) (hz:M.all fzB=true) (hcb:caps.all (vU S)=true):MTQ c S o Q x (fun r=>some (p,itf r)):=fun a w g hs h N Z hN=>by
 unfold Oper.wp
 have hfv:a.eval fo=.func (.func f) #[] (caps.map hs).toArray:=(bV h hf).1
 split at ha
 case h_2=>cases ha
 rename_i l' hl
 simp only [Option.some.injEq] at ha
 have h1:=mE h hl
 have hcp:∀ i ∈ caps,∃ b,hs i=.pointer (some ⟨b,0,none⟩):=fun i hi=>by
  have:=cI.1 hcb i hi
  unfold vU at this
  cases hm:S.M[i]? with
  | none=>rw [hm] at this; cases this
  | some it =>
   rw [hm] at this
   cases it <;> try (cases this; done)
   obtain ⟨b,cs,h1,_⟩:=h.items i _ hm
   exact ⟨b,h1⟩
 have h2:dN g hs (caps.map fun i=>SC.sv (.one (.ptr i 0))) (caps.map hs):=by
  clear ha hf hfv hcb
  induction caps with
  | nil=>trivial
  | cons i caps ih =>
   refine ⟨?_,ih (fun j hj=>hcp j (d7 _ hj))⟩
   obtain ⟨b,hb⟩:=hcp i (by simp)
   exact ⟨⟨b,hb,hb⟩,by rw [hb]; trivial⟩
 have h3:=f7 h1 h2
 rw [ha] at h3
 have h4:=ig h3
 have hrun:(execOp a.eval o).run Tryz.prog w=.ok (.enter f ((args.toList.map a.eval) ++ caps.map hs).toArray) w:=by
  unfold execOp
  simp only [ho,resolve,hfv,Deferred.ofValue,bW,db,ce,invoke]
  rw [show (#[] ++ Array.map a.eval args ++ (List.map hs caps).toArray:Array Value)=(args.toList.map a.eval ++ caps.map hs).toArray by simp]
  exact en _ _
 rw [hrun]
 refine (ct w g (fun i=>hs (rn.getD i 0)) _ h.base.pers h4 (fun i it hi=>?_)).mono ?_
 ·have h5:=rX hM i it hi
  rw [gt] at h5
  exact AJ (f:=fun i=>rn.getD i 0) (i:=i) h5 (cI.1 hz it (dC hi)) h
 ·rintro e' w' ⟨v,g',r,h',rfl,hq,h5,h6,h7,h8⟩
  refine hN r hq v w' g' h' (jG h5) ?_ ⟨br.ok_hs (fun j hj=>by rw [hir r] at hj; cases hj) h7,fun b hb=>⟨(h8 b hb).1,fun _=>(h8 b hb).2.2, .inl (h8 b hb).2.1⟩⟩
  rw [<- hx r]
  refine SC.ren_ok ?_
  show SC.ok g' (fun _=>if p=p then h' else hs p) (out r) v
  rw [if_pos rfl]
  exact h6
end
structure aY where
 am:Int
 az:Int
 aA:Int
deriving DecidableEq,Inhabited
abbrev aY.sv (x:aY):SV:=.agg [I x.am,I x.az,I x.aA]
abbrev aY.cl (x:aY):List At:=[I x.am,I x.az,I x.aA]
abbrev aY.ty : Ty aY:=⟨3,aY.sv⟩
structure bd where
 ae:Int
 ac:Int
 af:(List Int)
 ar:(List aY)
 av:(List Int)
deriving DecidableEq,Inhabited
abbrev bd.sv (x:bd):SV:=.agg [I x.ae,I x.ac,LS aZ x.af,LS aY.ty x.ar,LS aZ x.av]
abbrev bd.cl (x:bd):List At:=[I x.ae,I x.ac,LS aZ x.af,LS aY.ty x.ar,LS aZ x.av]
abbrev bd.ty : Ty bd:=⟨5,bd.sv⟩
structure bt where
 aG:(List Int)
 aD:(List Int)
deriving DecidableEq,Inhabited
abbrev bt.sv (x:bt):SV:=.agg [LS aZ x.aG,LS aZ x.aD]
abbrev bt.cl (x:bt):List At:=[LS aZ x.aG,LS aZ x.aD]
abbrev bt.ty : Ty bt:=⟨2,bt.sv⟩
structure bz where
 ae:Int
 af:Int
 aa:(List (List Int))
 ay:(List Int)
deriving DecidableEq,Inhabited
structure cj where
 aa:(List (List Int))
 aW:(List Bool)
deriving DecidableEq,Inhabited
structure cA where
 aj:Int
 aq:Int
 aw:Int
 ax:Int
deriving DecidableEq,Inhabited
abbrev cA.l (x:cA):List Int:=[x.aj,x.aq,x.aw,x.ax]
def cA.put (x:cA) (k v:Int):cA:=⟨gn k 0 v x.aj,gn k 1 v x.aq,gn k 2 v x.aw,gn k 3 v x.ax⟩
structure du where
 aj:cA
 aq:cA
 aw:cA
 ax:cA
deriving DecidableEq,Inhabited
abbrev du.l (x:du):List Int:=[x.aj.aj,x.aj.aq,x.aj.aw,x.aj.ax,x.aq.aj,x.aq.aq,x.aq.aw,x.aq.ax,x.aw.aj,x.aw.aq,x.aw.aw,x.aw.ax,x.ax.aj,x.ax.aq,x.ax.aw,x.ax.ax]
def du.put (x:du) (k v:Int):du:=⟨⟨gn k 0 v x.aj.aj,gn k 1 v x.aj.aq,gn k 2 v x.aj.aw,gn k 3 v x.aj.ax⟩,⟨gn k 4 v x.aq.aj,gn k 5 v x.aq.aq,gn k 6 v x.aq.aw,gn k 7 v x.aq.ax⟩,⟨gn k 8 v x.aw.aj,gn k 9 v x.aw.aq,gn k 10 v x.aw.aw,gn k 11 v x.aw.ax⟩,⟨gn k 12 v x.ax.aj,gn k 13 v x.ax.aq,gn k 14 v x.ax.aw,gn k 15 v x.ax.ax⟩⟩
structure bK where
 aa:du
 av:Int
deriving DecidableEq,Inhabited
structure bO where
 aC:Int
 ap:cA
 ak:cA
deriving DecidableEq,Inhabited
structure bc where
 ai:bO
 ay:Int
deriving DecidableEq,Inhabited
abbrev bc.sv (x:bc):SV:=.agg [I x.ai.aC,I x.ai.ap.aj,I x.ai.ap.aq,I x.ai.ap.aw,I x.ai.ap.ax,I x.ai.ak.aj,I x.ai.ak.aq,I x.ai.ak.aw,I x.ai.ak.ax,I x.ay]
abbrev bc.cl (x:bc):List At:=[I x.ai.aC,I x.ai.ap.aj,I x.ai.ap.aq,I x.ai.ap.aw,I x.ai.ap.ax,I x.ai.ak.aj,I x.ai.ak.aq,I x.ai.ak.aw,I x.ai.ak.ax,I x.ay]
abbrev bc.ty : Ty bc:=⟨10,bc.sv⟩
structure cm where
 aj:Int
 aq:Int
deriving DecidableEq,Inhabited
abbrev cm.sv (x:cm):SV:=.agg [I x.aj,I x.aq]
abbrev cm.cl (x:cm):List At:=[I x.aj,I x.aq]
abbrev cm.ty : Ty cm:=⟨2,cm.sv⟩
structure bF where
 au:bd
 aB:bz
 aa:(List (List cm))
deriving DecidableEq,Inhabited
structure St96 where
 aj:(List Int)
 aq:(List Int)
deriving DecidableEq,Inhabited
structure be where
 ap:Int
 ak:Int
 aI:Bool
 aF:Bool
 aH:Bool
deriving DecidableEq,Inhabited
abbrev be.sv (x:be):SV:=.agg [I x.ap,I x.ak,B x.aI,B x.aF,B x.aH]
abbrev be.cl (x:be):List At:=[I x.ap,I x.ak,B x.aI,B x.aF,B x.aH]
abbrev be.ty : Ty be:=⟨5,be.sv⟩
structure bw where
 aJ:Int
 aK:Int
 az:Int
deriving DecidableEq,Inhabited
abbrev bw.sv (x:bw):SV:=.agg [I x.aJ,I x.aK,I x.az]
abbrev bw.ty : Ty bw:=⟨3,bw.sv⟩
structure cS where
 aj:Int
 aq:Int
 aw:Int
 ax:Int
 aL:Int
 aM:Int
 aN:Int
 aO:Int
 aQ:Int
 aR:Int
 aU:Int
 aV:Int
deriving DecidableEq,Inhabited
abbrev cS.l (x:cS):List Int:=[x.aj,x.aq,x.aw,x.ax,x.aL,x.aM,x.aN,x.aO,x.aQ,x.aR,x.aU,x.aV]
def cS.put (x:cS) (k v:Int):cS:=⟨gn k 0 v x.aj,gn k 1 v x.aq,gn k 2 v x.aw,gn k 3 v x.ax,gn k 4 v x.aL,gn k 5 v x.aM,gn k 6 v x.aN,gn k 7 v x.aO,gn k 8 v x.aQ,gn k 9 v x.aR,gn k 10 v x.aU,gn k 11 v x.aV⟩
structure bN where
 aX:Int
 aa:ByteArray
deriving DecidableEq,Inhabited
def LY : List (Nat × TI):=[
 (3,⟨false,false,1,[.int .i64 0],[],some .i64,none,8⟩),
 (4,⟨false,false,1,[.bool false],[],none,none,1⟩),
 (5,⟨false,false,1,[.int .u8 0],[],some .u8,none,1⟩),
 (9,⟨false,false,1,[.string ByteArray.empty],[],none,none,16⟩),
 (22,⟨false,false,1,[.slice none 0 0],[],none,some 3,24⟩),
 (23,⟨false,false,1,[.slice none 0 0],[],none,some 29,24⟩),
 (25,⟨true,true,5,[.int .i64 0, .int .i64 0, .slice none 0 0, .slice none 0 0, .slice none 0 0],[(0,1,false),(1,1,false),(2,1,false),(3,1,false),(4,1,false)],none,none,88⟩),
 (27,⟨true,true,2,[.slice none 0 0, .slice none 0 0],[(0,1,false),(1,1,false)],none,none,48⟩),
 (29,⟨true,true,3,[.int .i64 0, .int .i64 0, .int .i64 0],[(0,1,false),(1,1,false),(2,1,false)],none,none,24⟩),
 (33,⟨false,false,1,[.slice none 0 0],[],none,some 22,24⟩),
 (35,⟨true,true,4,[.int .i64 0, .int .i64 0, .slice none 0 0, .slice none 0 0],[(0,1,false),(1,1,false),(2,1,false),(3,1,false)],none,none,64⟩),
 (44,⟨false,false,1,[.slice none 0 0],[],none,some 25,24⟩),
 (47,⟨false,false,1,[.pointer none],[],none,none,8⟩),
 (55,⟨false,false,1,[.slice none 0 0],[],none,some 4,24⟩),
 (57,⟨true,true,2,[.slice none 0 0, .slice none 0 0],[(0,1,false),(1,1,false)],none,none,48⟩),
 (66,⟨false,false,1,[.nilFunc],[],none,none,8⟩),
 (72,⟨false,false,1,[.pointer none],[],none,none,8⟩),
 (74,⟨true,false,4,[.int .i64 0, .int .i64 0, .int .i64 0, .int .i64 0],[(0,1,false),(1,1,false),(2,1,false),(3,1,false)],none,none,32⟩),
 (75,⟨true,false,16,[.int .i64 0, .int .i64 0, .int .i64 0, .int .i64 0, .int .i64 0, .int .i64 0, .int .i64 0, .int .i64 0, .int .i64 0, .int .i64 0, .int .i64 0, .int .i64 0, .int .i64 0, .int .i64 0, .int .i64 0, .int .i64 0],[(0,4,true),(4,4,true),(8,4,true),(12,4,true)],none,none,128⟩),
 (77,⟨true,true,17,[.int .i64 0, .int .i64 0, .int .i64 0, .int .i64 0, .int .i64 0, .int .i64 0, .int .i64 0, .int .i64 0, .int .i64 0, .int .i64 0, .int .i64 0, .int .i64 0, .int .i64 0, .int .i64 0, .int .i64 0, .int .i64 0, .int .i64 0],[(0,16,true),(16,1,false)],none,none,136⟩),
 (79,⟨true,true,9,[.int .i64 0, .int .i64 0, .int .i64 0, .int .i64 0, .int .i64 0, .int .i64 0, .int .i64 0, .int .i64 0, .int .i64 0],[(0,1,false),(1,4,true),(5,4,true)],none,none,72⟩),
 (81,⟨true,true,10,[.int .i64 0, .int .i64 0, .int .i64 0, .int .i64 0, .int .i64 0, .int .i64 0, .int .i64 0, .int .i64 0, .int .i64 0, .int .i64 0],[(0,9,true),(9,1,false)],none,none,80⟩),
 (87,⟨false,false,1,[.slice none 0 0],[],none,some 90,24⟩),
 (89,⟨true,true,10,[.int .i64 0, .int .i64 0, .slice none 0 0, .slice none 0 0, .slice none 0 0, .int .i64 0, .int .i64 0, .slice none 0 0, .slice none 0 0, .slice none 0 0],[(0,5,true),(5,4,true),(9,1,false)],none,none,176⟩),
 (90,⟨false,false,1,[.slice none 0 0],[],none,some 91,24⟩),
 (91,⟨true,false,2,[.int .i64 0, .int .i64 0],[(0,1,false),(1,1,false)],none,none,16⟩),
 (92,⟨false,false,1,[.nilFunc],[],none,none,8⟩),
 (96,⟨true,false,2,[.slice none 0 0, .slice none 0 0],[(0,1,false),(1,1,false)],none,none,48⟩),
 (106,⟨false,false,1,[.map none],[],none,none,8⟩),
 (107,⟨false,false,1,[.slice none 0 0],[],none,some 81,24⟩),
 (109,⟨false,false,1,[.slice none 0 0],[],none,some 111,24⟩),
 (111,⟨true,true,5,[.int .i64 0, .int .i64 0, .bool false, .bool false, .bool false],[(0,1,false),(1,1,false),(2,1,false),(3,1,false),(4,1,false)],none,none,24⟩),
 (117,⟨false,false,1,[.slice none 0 0],[],none,some 119,24⟩),
 (119,⟨true,true,3,[.int .i64 0, .int .i64 0, .int .i64 0],[(0,1,false),(1,1,false),(2,1,false)],none,none,24⟩),
 (123,⟨false,false,1,[.int .u64 0],[],some .u64,none,8⟩),
 (125,⟨true,false,12,[.int .i64 0, .int .i64 0, .int .i64 0, .int .i64 0, .int .i64 0, .int .i64 0, .int .i64 0, .int .i64 0, .int .i64 0, .int .i64 0, .int .i64 0, .int .i64 0],[(0,1,false),(1,1,false),(2,1,false),(3,1,false),(4,1,false),(5,1,false),(6,1,false),(7,1,false),(8,1,false),(9,1,false),(10,1,false),(11,1,false)],none,none,96⟩),
 (126,⟨false,false,1,[.map none],[],none,none,8⟩),
 (127,⟨false,false,1,[.slice none 0 0],[],none,some 5,24⟩),
 (129,⟨true,true,2,[.int .i64 0, .string ByteArray.empty],[(0,1,false),(1,1,false)],none,none,24⟩),
 (130,⟨false,false,1,[.map none],[],none,none,8⟩),
 (140,⟨false,false,1,[.int .u32 0],[],some .u32,none,4⟩),
 (142,⟨false,false,1,[.int .u64 0],[],some .u64,none,8⟩),
 (148,⟨false,false,1,[.int .u64 0],[],some .u64,none,8⟩)]
def co : gY:=Gu LY
theorem bA : co.ok:=Cx fun x hx=>by
 simp only [LY,eh,mc,or_false] at hx
 rcases hx with rfl | rfl | rfl | rfl | rfl | rfl | rfl | rfl | rfl | rfl | rfl | rfl | rfl | rfl | rfl | rfl | rfl | rfl | rfl | rfl | rfl | rfl | rfl | rfl | rfl | rfl | rfl | rfl | rfl | rfl | rfl | rfl | rfl | rfl | rfl | rfl | rfl | rfl | rfl | rfl | rfl | rfl | rfl
 all_goals exact ⟨by kernel_rfl,by kernel_rfl,by kernel_rfl,by kernel_rfl,by kernel_rfl,by kernel_rfl,by rfl,by rfl,by decide⟩
theorem bc.eq3 (x y:Int) (n:Nat) (w:World):(Op.equalIn (n + 1) 3 (.int .i64 x) (.int .i64 y)).run Tryz.prog w=.ok (decide (x=y)) w:=by
 have hu:=run_underlying Tryz.underlying3 w
 simp only [Op.equalIn,bW,hu,ce,if_true,db]
 by_cases h:x=y <;> simp [h]
theorem oA (x0 x1 x2 x3:Int) (w:World):(Go.part 3 #[.int .i64 x0, .int .i64 x1, .int .i64 x2, .int .i64 x3] 0).run Tryz.prog w=.ok (.int .i64 x0) w:=by kernel_rfl
theorem oz (x0 x1 x2 x3:Int) (w:World):(Go.part 3 #[.int .i64 x0, .int .i64 x1, .int .i64 x2, .int .i64 x3] 1).run Tryz.prog w=.ok (.int .i64 x1) w:=by kernel_rfl
theorem oy (x0 x1 x2 x3:Int) (w:World):(Go.part 3 #[.int .i64 x0, .int .i64 x1, .int .i64 x2, .int .i64 x3] 2).run Tryz.prog w=.ok (.int .i64 x2) w:=by kernel_rfl
theorem ox (x0 x1 x2 x3:Int) (w:World):(Go.part 3 #[.int .i64 x0, .int .i64 x1, .int .i64 x2, .int .i64 x3] 3).run Tryz.prog w=.ok (.int .i64 x3) w:=by kernel_rfl
def fg (x0 x1 x2 x3 y0 y1 y2 y3:Int):Bool:=decide (x0=y0) && decide (x1=y1) && decide (x2=y2) && decide (x3=y3)
theorem tf (x0 x1 x2 x3 y0 y1 y2 y3:Int) (n:Nat) (w:World):(Op.equalIn (n + 2) 74 (.agg #[.int .i64 x0, .int .i64 x1, .int .i64 x2, .int .i64 x3]) (.agg #[.int .i64 y0, .int .i64 y1, .int .i64 y2, .int .i64 y3])).run Tryz.prog w=.ok (fg x0 x1 x2 x3 y0 y1 y2 y3) w:=by
 have hu:=run_underlying Tryz.underlying74 w
 have hsz:∀ w,(sizeOf 3).run Tryz.prog w=.ok 1 w:=fun w=>by kernel_rfl
 have hr:List.range' 0 4=[0,1,2,3]:=rfl
 rw [Op.equalIn]
 simp only [bW,hu,ce]
 simp [Go.program,Sem.run,hsz,hr,oA,oz,oy,ox,bc.eq3]
 by_cases h0:x0=y0 <;> by_cases h1:x1=y1 <;> by_cases h2:x2=y2 <;> by_cases h3:x3=y3 <;> simp [fg,h0,h1,h2,h3]
theorem ow (x0 x1 x2 x3 x4 x5 x6 x7 x8:Int) (w:World):(Go.part 3 #[.int .i64 x0, .int .i64 x1, .int .i64 x2, .int .i64 x3, .int .i64 x4, .int .i64 x5, .int .i64 x6, .int .i64 x7, .int .i64 x8] 0).run Tryz.prog w=.ok (.int .i64 x0) w:=by kernel_rfl
theorem ov (x0 x1 x2 x3 x4 x5 x6 x7 x8:Int) (w:World):(Go.part 74 #[.int .i64 x0, .int .i64 x1, .int .i64 x2, .int .i64 x3, .int .i64 x4, .int .i64 x5, .int .i64 x6, .int .i64 x7, .int .i64 x8] 1).run Tryz.prog w=.ok (.agg #[.int .i64 x1, .int .i64 x2, .int .i64 x3, .int .i64 x4]) w:=by kernel_rfl
theorem ou (x0 x1 x2 x3 x4 x5 x6 x7 x8:Int) (w:World):(Go.part 74 #[.int .i64 x0, .int .i64 x1, .int .i64 x2, .int .i64 x3, .int .i64 x4, .int .i64 x5, .int .i64 x6, .int .i64 x7, .int .i64 x8] 5).run Tryz.prog w=.ok (.agg #[.int .i64 x5, .int .i64 x6, .int .i64 x7, .int .i64 x8]) w:=by kernel_rfl
def gD (x0 x1 x2 x3 x4 x5 x6 x7 x8 y0 y1 y2 y3 y4 y5 y6 y7 y8:Int):Bool:=decide (x0=y0) && fg x1 x2 x3 x4 y1 y2 y3 y4 && fg x5 x6 x7 x8 y5 y6 y7 y8
theorem td (x0 x1 x2 x3 x4 x5 x6 x7 x8 y0 y1 y2 y3 y4 y5 y6 y7 y8:Int) (n:Nat) (w:World):(Op.equalIn (n + 3) 79 (.agg #[.int .i64 x0, .int .i64 x1, .int .i64 x2, .int .i64 x3, .int .i64 x4, .int .i64 x5, .int .i64 x6, .int .i64 x7, .int .i64 x8]) (.agg #[.int .i64 y0, .int .i64 y1, .int .i64 y2, .int .i64 y3, .int .i64 y4, .int .i64 y5, .int .i64 y6, .int .i64 y7, .int .i64 y8])).run Tryz.prog w=.ok (gD x0 x1 x2 x3 x4 x5 x6 x7 x8 y0 y1 y2 y3 y4 y5 y6 y7 y8) w:=by
 have hu:=run_underlying Tryz.underlying79 w
 have hst:Tryz.prog.stoodInHeld 79=false:=by kernel_rfl
 rw [Op.equalIn]
 simp only [bW,hu,ce]
 simp [Go.program,Sem.run,hst,ow,ov,ou,bc.eq3,tf]
 by_cases h0:x0=y0 <;> cases h1:fg x1 x2 x3 x4 y1 y2 y3 y4 <;> cases h2:fg x5 x6 x7 x8 y5 y6 y7 y8 <;> simp [gD,h0,h1,h2]
theorem ot (x0 x1 x2 x3 x4 x5 x6 x7 x8 x9:Int) (w:World):(Go.part 79 #[.int .i64 x0, .int .i64 x1, .int .i64 x2, .int .i64 x3, .int .i64 x4, .int .i64 x5, .int .i64 x6, .int .i64 x7, .int .i64 x8, .int .i64 x9] 0).run Tryz.prog w=.ok (.agg #[.int .i64 x0, .int .i64 x1, .int .i64 x2, .int .i64 x3, .int .i64 x4, .int .i64 x5, .int .i64 x6, .int .i64 x7, .int .i64 x8]) w:=by kernel_rfl
theorem oq (x0 x1 x2 x3 x4 x5 x6 x7 x8 x9:Int) (w:World):(Go.part 3 #[.int .i64 x0, .int .i64 x1, .int .i64 x2, .int .i64 x3, .int .i64 x4, .int .i64 x5, .int .i64 x6, .int .i64 x7, .int .i64 x8, .int .i64 x9] 9).run Tryz.prog w=.ok (.int .i64 x9) w:=by kernel_rfl
def kC (x0 x1 x2 x3 x4 x5 x6 x7 x8 x9 y0 y1 y2 y3 y4 y5 y6 y7 y8 y9:Int):Bool:=gD x0 x1 x2 x3 x4 x5 x6 x7 x8 y0 y1 y2 y3 y4 y5 y6 y7 y8 && decide (x9=y9)
theorem tc (x0 x1 x2 x3 x4 x5 x6 x7 x8 x9 y0 y1 y2 y3 y4 y5 y6 y7 y8 y9:Int) (n:Nat) (w:World):(Op.equalIn (n + 4) 81 (.agg #[.int .i64 x0, .int .i64 x1, .int .i64 x2, .int .i64 x3, .int .i64 x4, .int .i64 x5, .int .i64 x6, .int .i64 x7, .int .i64 x8, .int .i64 x9]) (.agg #[.int .i64 y0, .int .i64 y1, .int .i64 y2, .int .i64 y3, .int .i64 y4, .int .i64 y5, .int .i64 y6, .int .i64 y7, .int .i64 y8, .int .i64 y9])).run Tryz.prog w=.ok (kC x0 x1 x2 x3 x4 x5 x6 x7 x8 x9 y0 y1 y2 y3 y4 y5 y6 y7 y8 y9) w:=by
 have hu:=run_underlying Tryz.underlying81 w
 have hst:Tryz.prog.stoodInHeld 81=false:=by kernel_rfl
 rw [Op.equalIn]
 simp only [bW,hu,ce]
 simp [Go.program,Sem.run,hst,ot,oq,bc.eq3,td]
 cases h0:gD x0 x1 x2 x3 x4 x5 x6 x7 x8 y0 y1 y2 y3 y4 y5 y6 y7 y8 <;> by_cases h1:x9=y9 <;> simp [kC,h0,h1]
def bc.enc (k:bc):Value:=.agg #[.int .i64 k.ai.aC, .int .i64 k.ai.ap.aj, .int .i64 k.ai.ap.aq, .int .i64 k.ai.ap.aw, .int .i64 k.ai.ap.ax, .int .i64 k.ai.ak.aj, .int .i64 k.ai.ak.aq, .int .i64 k.ai.ak.aw, .int .i64 k.ai.ak.ax, .int .i64 k.ay]
theorem bc.keyLaw : kG 81 bc.enc where
 check:=fun b a w=>by unfold bc.enc; kernel_rfl
 bits:=fun a=>by unfold bc.enc; simp [Instr.sameBits,oc]
 now:=⟨_,Tryz.underlying81, .inl fun a b=>rfl⟩
 equal:=fun a b w=>by
  rcases a with ⟨⟨a0,⟨a1,a2,a3,a4⟩,⟨a5,a6,a7,a8⟩⟩,a9⟩
  rcases b with ⟨⟨b0,⟨b1,b2,b3,b4⟩,⟨b5,b6,b7,b8⟩⟩,b9⟩
  unfold bc.enc
  refine (tc a0 a1 a2 a3 a4 a5 a6 a7 a8 a9 b0 b1 b2 b3 b4 b5 b6 b7 b8 b9 9996 w).trans ?_
  congr 1
  rw [Bool.eq_iff_iff]
  simp only [fg,gD,kC,cC,fu]
  constructor
  ·intro h
   simp_all
  ·intro h
   simp_all
def bN.enc (k:bN):Value:=.agg #[.int .i64 k.aX, .string k.aa]
theorem bN.part0 (x0:Int) (x1:ByteArray) (w:World):(Go.part 3 #[.int .i64 x0, .string x1] 0).run Tryz.prog w=.ok (.int .i64 x0) w:=by kernel_rfl
theorem bN.part1 (x0:Int) (x1:ByteArray) (w:World):(Go.part 9 #[.int .i64 x0, .string x1] 1).run Tryz.prog w=.ok (.string x1) w:=by kernel_rfl
theorem bN.eq3 (x y:Int) (n:Nat) (w:World):(Op.equalIn (n + 1) 3 (.int .i64 x) (.int .i64 y)).run Tryz.prog w=.ok (x == y) w:=by
 have hu:=run_underlying Tryz.underlying3 w
 simp only [Op.equalIn,bW,hu,ce,if_true,db]
theorem zM (x y:ByteArray) (n:Nat) (w:World):(Op.equalIn (n + 1) 9 (.string x) (.string y)).run Tryz.prog w=.ok (decide (x=y)) w:=by
 have hu:=run_underlying Tryz.underlying9 w
 simp only [Op.equalIn,bW,hu,ce,db,oc]
theorem bN.keyLaw : kG 129 bN.enc where
 check:=fun b a w=>by unfold bN.enc; kernel_rfl
 bits:=fun a=>by unfold bN.enc; simp [Instr.sameBits,oc]
 now:=⟨_,Tryz.underlying129, .inl fun a b=>rfl⟩
 equal:=fun a b w=>by
  unfold bN.enc
  have hu:=run_underlying Tryz.underlying129 w
  have hst:Tryz.prog.stoodInHeld 129=false:=by kernel_rfl
  show (Op.equalIn (9999 + 1) _ _ _).run _ _=_
  rw [Op.equalIn]
  simp only [bW,hu,ce]
  simp [Go.program,Sem.run,hst,bN.part0,bN.part1,bN.eq3,zM]
  rcases a with ⟨a0,a1⟩
  rcases b with ⟨b0,b1⟩
  by_cases h0:a0=b0 <;> by_cases h1:a1=b1 <;> simp [h0,h1]
def fJ (k:Int):Value:=.int .i64 k
theorem Hm : kG 3 fJ where
 check:=fun b a w=>by unfold fJ; kernel_rfl
 bits:=fun a=>by unfold fJ; simp [Instr.sameBits]
 now:=⟨_,Tryz.underlying3, .inr fun a b=>by by_cases h:a=b <;> simp [Instr.sameNow,fJ,h]⟩
 equal:=fun a b w=>by
  unfold fJ
  have hu:=run_underlying Tryz.underlying3 w
  show (Op.equalIn (9999 + 1) _ _ _).run _ _=_
  rw [Op.equalIn]
  simp only [bW,hu,ce,if_true,db]
  congr 1
def aY.enc (k:aY):Value:=.agg #[.int .i64 k.am, .int .i64 k.az, .int .i64 k.aA]
theorem aY.part0 (x0:Int) (x1:Int) (x2:Int) (w:World):(Go.part 3 #[.int .i64 x0, .int .i64 x1, .int .i64 x2] 0).run Tryz.prog w=.ok (.int .i64 x0) w:=by kernel_rfl
theorem aY.part1 (x0:Int) (x1:Int) (x2:Int) (w:World):(Go.part 3 #[.int .i64 x0, .int .i64 x1, .int .i64 x2] 1).run Tryz.prog w=.ok (.int .i64 x1) w:=by kernel_rfl
theorem vX (x0:Int) (x1:Int) (x2:Int) (w:World):(Go.part 3 #[.int .i64 x0, .int .i64 x1, .int .i64 x2] 2).run Tryz.prog w=.ok (.int .i64 x2) w:=by kernel_rfl
theorem aY.eq3 (x y:Int) (n:Nat) (w:World):(Op.equalIn (n + 1) 3 (.int .i64 x) (.int .i64 y)).run Tryz.prog w=.ok (x == y) w:=by
 have hu:=run_underlying Tryz.underlying3 w
 simp only [Op.equalIn,bW,hu,ce,if_true,db]
theorem aY.keyLaw : kG 29 aY.enc where
 check:=fun b a w=>by unfold aY.enc; kernel_rfl
 bits:=fun a=>by unfold aY.enc; simp [Instr.sameBits,oc]
 now:=⟨_,Tryz.underlying29, .inl fun a b=>rfl⟩
 equal:=fun a b w=>by
  unfold aY.enc
  have hu:=run_underlying Tryz.underlying29 w
  have hst:Tryz.prog.stoodInHeld 29=false:=by kernel_rfl
  show (Op.equalIn (9999 + 1) _ _ _).run _ _=_
  rw [Op.equalIn]
  simp only [bW,hu,ce]
  simp [Go.program,Sem.run,hst,aY.part0,aY.part1,vX,aY.eq3]
  rcases a with ⟨a0,a1,a2⟩
  rcases b with ⟨b0,b1,b2⟩
  by_cases h0:a0=b0 <;> by_cases h1:a1=b1 <;> by_cases h2:a2=b2 <;> simp [h0,h1,h2]
abbrev dv (d) (p):=(.rd (fvR (fun (x:(aY × aY))=>[.sv (.agg [I x.1.am,I x.1.az,I x.1.aA]), .sv (.agg [I x.2.am,I x.2.az,I x.2.aA])]) (fun (r:Int)=>.sv (.one (I r))) d p):At)
abbrev fv1 (d) (p):=(.rd (fvR (fun x=>[.sv (.one (I x))]) (fun b=>.sv (.one (B b))) d p):At)
abbrev fv2 (d) (p):=(.rd (fvR (fun (x:Int)=>[.sv (.one (I x))]) (fun (r:Bool)=>.sv (.one (B r))) d p):At)
abbrev fv3 (d) (p):=(.rd (fvR (fun (x_:Int)=>[.sv (.one (I x_))]) (fun (r:Bool)=>.sv (.one (B r))) d p):At)
abbrev fv4 (d) (p):=(.rd (fvR (fun (x_:aY)=>[.sv (.agg [I x_.am,I x_.az,I x_.aA])]) (fun (r:Bool)=>.sv (.one (B r))) d p):At)
abbrev fv5 (d) (p):=(.rd (fvR (fun (x:(bc × Int))=>[.sv (.agg [I x.1.ai.aC,I x.1.ai.ap.aj,I x.1.ai.ap.aq,I x.1.ai.ap.aw,I x.1.ai.ap.ax,I x.1.ai.ak.aj,I x.1.ai.ak.aq,I x.1.ai.ak.aw,I x.1.ai.ak.ax,I x.1.ay]), .sv (.one (I x.2))]) (fun (r:bc)=>.sv (.agg [I r.ai.aC,I r.ai.ap.aj,I r.ai.ap.aq,I r.ai.ap.aw,I r.ai.ap.ax,I r.ai.ak.aj,I r.ai.ak.aq,I r.ai.ak.aw,I r.ai.ak.ax,I r.ay])) d p):At)
abbrev fv6 (d) (p):=(.rd (fvR (fun (x:bc)=>[.sv (.agg [I x.ai.aC,I x.ai.ap.aj,I x.ai.ap.aq,I x.ai.ap.aw,I x.ai.ap.ax,I x.ai.ak.aj,I x.ai.ak.aq,I x.ai.ak.aw,I x.ai.ak.ax,I x.ay])]) (fun (r:Int)=>.sv (.one (I r))) d p):At)
abbrev fv7 (d) (p):=(.rd (fvR (fun (x:(Int × Int))=>[.sv (.one (I x.1)), .sv (.one (I x.2))]) (fun (r:Int)=>.sv (.one (I r))) d p):At)
abbrev fv8 (d) (p):=(.rd (fvR (fun (x:Int)=>[.sv (.one (I x))]) (fun (r:Int)=>.sv (.one (I r))) d p):At)
abbrev fv9 (d) (p):=(.rd (fvR (fun (x_:(Int × Int))=>[.sv (.one (I x_.1)), .sv (.one (I x_.2))]) (fun (r:Int)=>.sv (.one (I r))) d p):At)
abbrev JZ (d) (p):=(.rd (fvR (fun (x_:Int)=>[.sv (.one (I x_))]) (fun (r:Int)=>.sv (.one (I r))) d p):At)
abbrev MV (d) (p):=(.rd (fvR (fun (x_:(bc × Int))=>[.sv (.agg [I x_.1.ai.aC,I x_.1.ai.ap.aj,I x_.1.ai.ap.aq,I x_.1.ai.ap.aw,I x_.1.ai.ap.ax,I x_.1.ai.ak.aj,I x_.1.ai.ak.aq,I x_.1.ai.ak.aw,I x_.1.ai.ak.ax,I x_.1.ay]), .sv (.one (I x_.2))]) (fun (r:bc)=>.sv (.agg [I r.ai.aC,I r.ai.ap.aj,I r.ai.ap.aq,I r.ai.ap.aw,I r.ai.ap.ax,I r.ai.ak.aj,I r.ai.ak.aq,I r.ai.ak.aw,I r.ai.ak.ax,I r.ay])) d p):At)
abbrev BO (d) (p):=(.rd (fvR (fun x=>[.sv (.one (LS aZ x))]) (fun b=>.sv (.one (B b))) d p):At)
abbrev Mg (d) (p):=(.rd (fvR (fun (x_:List Int)=>[.sv (.one (LS aZ x_))]) (fun (r:Bool)=>.sv (.one (B r))) d p):At)
abbrev ln (d) (p):=(.rd (fvR (fun (x_:(Int × Int × Int))=>[.sv (.one (I x_.1)), .sv (.one (I x_.2.1)), .sv (.one (I x_.2.2))]) (fun (r:Int)=>.sv (.one (I r))) d p):At)
end
end Go.Proofs.YtmdbjpljlniloaaGreat
namespace Go.Proofs.YtmdbjpljlniloaaGreat
open Go.RowKit Go.MapKept
noncomputable section
section
variable {c:eT} {S S1 S':St} {co:gY} {n:Nat} {o:Oper} {ops:Array Oper} {rest L:List Oper} {N R:Po} {E:List (Nat × Po)}
theorem bC (ht:co.ok) (hn:c.n=n) (k:Nat) (S':St) (h:WL c ops (L.drop k) S' N) (e:(evL co n ops (L.take k) S).map (jf S')=some (je S'):=by kernel_rfl):WL c ops L S N:=H5 ht hn k S' e h
theorem cw (ht:co.ok) (hn:c.n=n) (k:Nat) (S':St) (h:∀ a w,Ok c S' a w -> N a w) (e:(evL co n ops (L.take k) S).map (jf S')=some (je S'):=by kernel_rfl) (e2:L.drop k=[]:=by rfl):WL c ops L S N:=H5 ht hn k S' e (by rw [e2]; exact h)
theorem fe {x:SC} (hn:c.n=n) (hv:Val c S o x) (h:WL c ops rest S' N) (hw:dX ops S.F o=some true:=by rfl) (e:iA n o.dst x S=some S':=by rfl):WL c ops (o :: rest) S N:=H2 hn hw hv e h
theorem i9 {x:SC} (hn:c.n=n) (hm:MT c S o x [] none) (h:WL c ops rest S1 N) (hw:dX ops S.F o=some true:=by rfl) (hr:oY S none=true:=by rfl) (hu:fF S []=true:=by rfl) (e:iA n o.dst x ⟨S.F,my S.M [] none⟩=some S1:=by rfl):WL c ops (o :: rest) S N:=dg hn hw hm hr hu e h
theorem cf (t:Nat) {b b':Bool} (e:b=b') (h:WL c ops L ⟨(t, .sv (.one (.v (.bool b')))) :: S.F,S.M⟩ N) (hl:look t S.F=some (.sv (.one (.v (.bool b)))):=by kernel_rfl):WL c ops L S N:=Kq t e hl h
theorem bp {id:Nat} {l:List Oper} {y:Code} (h:WL c l.toArray l S (cwp y (PQ c N E R))):En c S (cwp (.seq (.region id l.toArray false) y) (PQ c N E R)):=bi (bI h)
theorem Bd {b:Bool} {o:Operand} {x y:Code} {Q:Exit -> Act -> World -> Prop} (ht:b=true -> En c S (cwp x Q)) (hf:b=false -> En c S (cwp y Q)) (hb:evK S.F o=some (.bool b):=by kernel_rfl):En c S (cwp (.cond o x y) Q):=DJ hb ht hf
theorem bv {b:Bool} {A B:Prop} {o:Operand} {x y:Code} {Q:Exit -> Act -> World -> Prop} (h:cv b A B) (ht:A -> En c S (cwp x Q)) (hf:B -> En c S (cwp y Q)) (hb:evK S.F o=some (.bool b):=by kernel_rfl):En c S (cwp (.cond o x y) Q):=DJ hb (fun e=>ht (h.1 e)) (fun e=>hf (h.2 e))
theorem fL {β:Type} {post:β -> Prop} {out:β -> SC} {rs:Array ResultVar} (ht:co.ok) (r:β) (hp:post r) (e:evR co S rs=some (out r):=by kernel_rfl) (hc:(out r).refs=[]:=by rfl):En c S (cwp .ret (PQ c N E (FN c rs post out))):=cT (eW ht r hp e hc)
theorem fQ {s:SV} {sz t:Nat} {ti:TI} {x:Operand} (ht:co.ok) (ho:o.op=.load t x) (h1:co t=some ti:=by rfl) (h2:ti.size=sz:=by rfl) (h3:jK ti s=true:=by rfl) (hx:eL S.F x=some (.sv (.one (.pe (eu s) sz))):=by rfl) (hc:s.refs=[]:=by rfl):Val c S o (.sv s):=zQ ht ho h1 h2 h3 hx hc
theorem gQ {α:Type} {T:Ty α} {l:List α} {i:Int} {y:α} {t el:Nat} {ti te:TI} {x ix:Operand} {k:IntKind} {m:Nat} (ht:co.ok) (ho:o.op=.indexAddr t x ix) (hy:cq l i=some y) (h1:co t=some ti:=by rfl) (h2:ti.sl=some el:=by rfl) (h3:co el=some te:=by rfl) (h4:te.size=T.s:=by rfl) (hx:eL S.F x=some (.sv (.one (.sl (slR T l) m))):=by rfl) (hi:evK S.F ix=some (.int k i):=by rfl):Val c S o (.sv (.one (.pe (eu (T.sv y)) T.s))):=v4 ht ho h1 h2 h3 h4 hx hi hy
theorem rv {l:List At} {sz t f fo fs:Nat} {ag:Bool} {ti:TI} {x:Operand} {r:SV} (ht:co.ok) (ho:o.op=.fieldAddr t x f) (h1:co t=some ti:=by rfl) (h2:ti.st=true:=by rfl) (h3:ti.offs[f]? = some (fo,fs + 1,ag):=by rfl) (h4:iG l fo (fs + 1) ag=some r:=by rfl) (hx:eL S.F x=some (.sv (.one (.pe (eu (.agg l)) sz))):=by rfl) (h6:(cF r).length=fs + 1:=by rfl):Val c S o (.sv (.one (.pe (eu r) (fs + 1)))):=v5 ht ho h1 h2 h3 h4 hx h6
theorem BH {f:Nat} {ins:List SC} {M:List br} {x:SC} (ct:Ct f ins M (fun (_:Unit)=>True) (fun _=>x)) (en:∀ args w,(callFunc f args).run Tryz.prog w=.ok (.enter f args) w) {fo:Operand} {args:Array Operand} {ats:Array TypeId} (ho:o.op=.call ⟨.value fo,args,ats⟩) (hf:eL S.F fo=some (.sv (.one (.fn f []))):=by rfl) (ha:(match rY S.F args.toList with | some l=>some (l ++ ([]:List Nat).map fun i=>.sv (.one (.ptr i 0))) | none=>none)=some (ins.map (SC.ren fun i=>([]:List Nat).getD i 0)):=by kernel_rfl) (hM:fzE S.M (fun i=>([]:List Nat).getD i 0) 0 M=M.map (fun it=>some (it.ren fun i=>([]:List Nat).getD i 0)):=by kernel_rfl) (hz:M.all fzB=true:=by rfl) (hcl:x.refs=[]:=by rfl):MT c S o x [] none:=Dc ct en (caps:=[]) [] ho hf ha hM hz hcl rfl
theorem kB {f:Nat} {ins:List SC} {M:List br} {pin:List Nat} {out:Unit -> SC} {M':Unit -> List br} (ct:fj f ins M pin (fun (_:Unit)=>True) out M') (en:∀ args w,(callFunc f args).run Tryz.prog w=.ok (.enter f args) w) (rn:List Nat) {fo:Operand} {args:Array Operand} {ats:Array TypeId} (hn:c.n=n) (ho:o.op=.call ⟨.value fo,args,ats⟩) (h:WL c ops rest S1 N) (hw:dX ops S.F o=some true:=by rfl) (hf:eL S.F fo=some (.sv (.one (.fn f []))):=by rfl) (ha:(match rY S.F args.toList with | some l=>some (l ++ ([]:List Nat).map fun i=>.sv (.one (.ptr i 0))) | none=>none)=some (ins.map (SC.ren (rnF rn S.M.length))):=by kernel_rfl) (hM:M.map (fun it=>some (it.mv (rnF rn S.M.length)))=rn.map (fun j=>S.M[j]?):=by kernel_rfl) (hnd:rn.Nodup:=by decide) (hal:zw S rn pin=true:=by rfl) (hpl:pin.all (fun i=>Nat.blt i rn.length)=true:=by rfl) (hx:(CT (M' ()) && Nat.ble M.length (M' ()).length && Dv pin M (M' ()) && (out ()).refs.all (fun i=>Nat.blt i (M' ()).length))=true:=by rfl) (e:iA n o.dst ((out ()).ren (rnF rn S.M.length)) ⟨S.F,iE (rnF rn S.M.length) S.M rn (M' ())⟩=some S1:=by rfl):WL c ops (o :: rest) S N:=Ia ct en (caps:=[]) rn hn hw ho hf (eR ha rfl) hM hnd hal hpl (fun _ _=>⟨hx,S1,e,h⟩)
end
theorem eJ.vl {c:eT} {C:eK} {ops:List Oper} {i:Nat} {o:Oper} (S:St) (hm:MT c S o (C.x i) [] none) (hf:nA C ops i S=nz S:=by kernel_rfl) (hw:dX ops.toArray S.F o=some true:=by rfl) (hk:iM C i=[]:=by rfl) (hb:iT C i=[]:=by rfl) (hu:mn C i=[]:=by rfl) (huse:fF S []=true:=by rfl):eJ c C ops i o:=.mt S [] none hf hw hm hk hb hu huse
def evT (co:gY) (n:Nat) (ops:Array Oper) (L:List Oper) (S:St):St:=match evL co n ops L S with
 | some S1=>S1
 | none=>S
section
variable {c:eT} {S:St} {n:Nat} {ops:Array Oper} {l L:List Oper} {N R:Po} {E:List (Nat × Po)}
theorem AU {co:gY} (e:(evL co n ops L S).isSome=true):evL co n ops L S=some (evT co n ops L S):=by
 unfold evT
 cases h:evL co n ops L S with
 | none=>rw [h] at e; cases e
 | some S1=>rfl
theorem B8 {co:gY} (ht:co.ok) (hn:c.n=n) {S1:St} (e:evL co n ops L S=some S1) (h:En c S1 N):WL c ops L S N:=
 H9 ht hn L.length S1 (by rw [kH]; exact e) (by rw [List.drop_length]; exact h)
theorem bM (hn:c.n=n) (h:En c (evT co n ops L S) N) (e:(evL co n ops L S).isSome=true:=by kernel_rfl):WL c ops L S N:=B8 bA hn (AU e) h
theorem cN (hn:c.n=n) (k:Nat) (h:WL c ops (L.drop k) (evT co n ops (L.take k) S) N) (e:(evL co n ops (L.take k) S).isSome=true:=by kernel_rfl):WL c ops L S N:=H9 bA hn k _ (AU e) h
theorem bk {id:Nat} {y:Code} (hn:c.n=n) (h:En c (evT co n l.toArray l S) (cwp y (PQ c N E R))) (e:(evL co n l.toArray l S).isSome=true:=by kernel_rfl):En c S (cwp (.seq (.region id l.toArray false) y) (PQ c N E R)):=bi (bI (bM hn h e))
theorem bZ {σ:Type} {I:σ -> Prop} {T:σ -> St} (s:σ) (h:I s) (e:jf (T s) S=je (T s):=by kernel_rfl):En c S (fun a w=>∃ s,I s /\ Ok c (T s) a w):=KU s h e
theorem cn {σ:Type} {I:σ -> Prop} {T:σ -> St} {id:Nat} (hn:c.n=n) (s:σ) (h:I s) (e:(evL co n l.toArray l S).map (jf (T s))=some (je (T s)):=by kernel_rfl):En c S (cwp (.region id l.toArray false) (PQ c (fun a w=>∃ s,I s /\ Ok c (T s) a w) E R)):=by
 obtain ⟨S2,e1,e2⟩:=map_some e
 exact bI (B8 bA hn e1 (KU s h e2))
theorem cD {β:Type} {post:β -> Prop} {out:β -> SC} {rs:Array ResultVar} {id:Nat} (hn:c.n=n) (r:β) (hp:post r) (e:(evL co n l.toArray l S).bind (fun S1=>evR co S1 rs)=some (out r):=by kernel_rfl) (hc:(out r).refs=[]:=by rfl):En c S (cwp (.seq (.region id l.toArray false) .ret) (PQ c N E (FN c rs post out))):=by
 obtain ⟨S2,e1,e2⟩:=Option.bind_eq_some_iff.1 e
 exact bi (bI (B8 bA hn e1 (cT (eW bA r hp e2 hc))))
end
def stE (C:eK) (ops:List Oper) (i:Nat):St:=⟨(ops.filterMap (·.dst) ++ C.F0.map (·.1)).filterMap fun t=>(Db C ops i t).map fun x=>(t,x),C.ci.zipIdx.map fun e=>match wK C ops i e.2 with
 | some it=>it
 | none=>.gone⟩
theorem ua {C:eK} {ops:List Oper} {i:Nat}:nA C ops i (stE C ops i)=nz (stE C ops i):=by
 unfold nA nz
 refine Prod.ext ?_ ?_
 ·refine jc fun e he=>?_
  obtain ⟨t,_,bA⟩:=oP.1 he
  cases h:Db C ops i t with
  | none=>rw [h] at bA; cases bA
  | some x=>rw [h] at bA; cases bA; exact h
 ·refine List.ext_getElem (by simp) fun k h1 h2=>?_
  rw [nR,nR,List.getElem_zipIdx]
  have hk:k < C.ci.length:=by simpa [stE] using h2
  have e:(stE C ops i).M[k]'(by simpa [stE] using hk)=match wK C ops i k with
   | some it=>it
   | none=>.gone:=by simp [stE]
  rw [e]
  simp only [gt]
  cases h:wK C ops i k with
  | none=>rfl
  | some it=>cases it <;> first | rfl | exact h
section
variable {c:eT} {C:eK} {ops:List Oper} {i:Nat} {o:Oper}
theorem eJ.e (e:evV co (stE C ops i) o=some (C.x i):=by kernel_rfl) (hw:dX ops.toArray (stE C ops i).F o=some true:=by kernel_rfl) (hk:iM C i=[]:=by kernel_rfl) (hb:iT C i=[]:=by kernel_rfl) (hu:mn C i=[]:=by kernel_rfl) (huse:fF (stE C ops i) []=true:=by kernel_rfl):eJ c C ops i o:=.mt _ [] none ua hw (KJ bA e) hk hb hu huse
theorem eJ.k (hw:dX ops.toArray (stE C ops i).F o=some false:=by kernel_rfl) (hx:C.x i=.tup []:=by kernel_rfl) (hk:iM C i=[]:=by kernel_rfl) (hb:iT C i=[]:=by kernel_rfl) (hu:mn C i=[]:=by kernel_rfl):eJ c C ops i o:=.skip _ ua hw hx hk hb hu
end
section
variable {c:eT} {S:St} {n id:Nat} {l:List Oper} {N R:Po} {E:List (Nat × Po)}
theorem da (C:eK) (hn:c.n=n) (hs:kS c C l 0 l) (h2:En c ⟨C.FL l (fun i=>Nat.blt i l.length),C.ML (fun i=>Nat.blt i l.length)⟩ N) (h0:jf ⟨C.FL l (fun _=>false),C.ML (fun _=>false)⟩ S=je ⟨C.FL l (fun _=>false),C.ML (fun _=>false)⟩:=by kernel_rfl) (h1:jf ⟨C.FL l (fun i=>Nat.blt i l.length),C.ML (fun i=>Nat.blt i l.length)⟩ ⟨C.FL l (fun i=>Nat.blt i l.length),C.ML (fun i=>Nat.blt i l.length)⟩=je ⟨C.FL l (fun i=>Nat.blt i l.length),C.ML (fun i=>Nat.blt i l.length)⟩:=by kernel_rfl) (hk:Fl C l=true:=by kernel_rfl) (hd:(l.all fun o=>match o.dst with | some d=>Nat.blt d n | none=>true)=true:=by rfl) (hm:Tryz.prog.follows .mixedOrders=true:=by kernel_rfl):En c S (cwp (.region id l.toArray true) (PQ c N E R)):=
 vv C ⟨C.FL l (fun i=>Nat.blt i l.length),C.ML (fun i=>Nat.blt i l.length)⟩ hm hn hk hd h0 hs h1 h2
theorem DH (C:eK) (fin:St) (hn:c.n=n) (hs:kS c C l 0 l) (h2:En c fin N) (h0:jf ⟨C.FL l (fun _=>false),C.ML (fun _=>false)⟩ S=je ⟨C.FL l (fun _=>false),C.ML (fun _=>false)⟩:=by kernel_rfl) (h1:jf fin ⟨C.FL l (fun i=>Nat.blt i l.length),C.ML (fun i=>Nat.blt i l.length)⟩=je fin:=by kernel_rfl) (hk:Fl C l=true:=by kernel_rfl) (hd:(l.all fun o=>match o.dst with | some d=>Nat.blt d n | none=>true)=true:=by rfl) (hm:Tryz.prog.follows .mixedOrders=true:=by kernel_rfl):En c S (cwp (.region id l.toArray true) (PQ c N E R)):=
 vv C fin hm hn hk hd h0 hs h1 h2
end
def oIx (S:St) (x:Operand):Nat:=match eL S.F x with
 | some (.sv (.one (.own i)))=>i
 | some (.sv (.one (.oe i _ _)))=>i
 | _=>0
def oS (S:St) (x:Operand):Nat:=match eL S.F x with
 | some (.sv (.one (.oe _ _ s)))=>s
 | _=>0
def Bs (S:St) (i:Nat):Nat:=match S.M[i]? with
 | some (.row e _ _ _)=>e
 | _=>0
def Hl (S:St) (x:Operand):IntKind:=match evK S.F x with
 | some (.int k _)=>k
 | _=>.i64
def puT (n:Nat) (d:Option Nat) (x:SC) (S:St):St:=match iA n d x S with
 | some S1=>S1
 | none=>S
section
variable {c:eT} {S:St} {n:Nat} {o:Oper} {ops:Array Oper} {rest:List Oper} {N:Po} {C:eK} {l0:List Oper} {j:Nat}
theorem ux {d:Option Nat} {x:SC} (e:(iA n d x S).isSome=true):iA n d x S=some (puT n d x S):=by
 unfold puT
 cases h:iA n d x S with
 | none=>rw [h] at e; cases e
 | some S1=>rfl
theorem bT {x:SC} (hn:c.n=n) (hv:Val c S o x) (h:WL c ops rest (puT n o.dst x S) N) (hw:dX ops S.F o=some true:=by kernel_rfl) (e:(iA n o.dst x S).isSome=true:=by kernel_rfl):WL c ops (o :: rest) S N:=H2 hn hw hv (ux e) h
theorem fK {x:SC} (hn:c.n=n) (hm:MT c S o x [] none) (h:WL c ops rest (puT n o.dst x ⟨S.F,my S.M [] none⟩) N) (hw:dX ops S.F o=some true:=by kernel_rfl) (hr:oY S none=true:=by kernel_rfl) (hu:fF S []=true:=by kernel_rfl) (e:(iA n o.dst x ⟨S.F,my S.M [] none⟩).isSome=true:=by kernel_rfl):WL c ops (o :: rest) S N:=dg hn hw hm hr hu (ux e) h
theorem eJ.v (hm:MT c (stE C l0 j) o (C.x j) [] none) (hw:dX l0.toArray (stE C l0 j).F o=some true:=by kernel_rfl) (hk:iM C j=[]:=by kernel_rfl) (hb:iT C j=[]:=by kernel_rfl) (hu:mn C j=[]:=by kernel_rfl) (huse:fF (stE C l0 j) []=true:=by kernel_rfl):eJ c C l0 j o:=.mt _ [] none ua hw hm hk hb hu huse
theorem iO {α:Type} {T:Ty α} {l:List α} {k:Int} {y:α} {t el:Nat} {ti te:TI} {x ix:Operand} (ho:o.op=.indexAddr t x ix) (hy:cq l k=some y) (h1:co t=some ti:=by rfl) (h2:ti.sl=some el:=by rfl) (h3:co el=some te:=by rfl) (h4:te.size=T.s:=by rfl) (h5:0 < T.s:=by decide)
  (hx:eL S.F x=some (.sv (.one (.own (oIx S x)))):=by kernel_rfl) (hm:S.M[oIx S x]? = some (bf el T l):=by kernel_rfl) (hi:evK S.F ix=some (.int (Hl S ix) k):=by kernel_rfl):Val c S o (.sv (.one (.oe (oIx S x) k.toNat T.s))):=ic bA ho h1 h2 h3 h4 h5 hx hm hi hy
theorem iV {α:Type} {T:Ty α} {l:List α} {k:Int} {y:α} {t el i:Nat} {ti te:TI} {x ix:Operand} (ho:o.op=.indexAddr t x ix) (hy:cq l k=some y) (h1:co t=some ti:=by rfl) (h2:ti.sl=some el:=by rfl) (h3:co el=some te:=by rfl) (h4:te.size=T.s:=by rfl) (h5:0 < T.s:=by decide)
  (hx:eL S.F x=some (.sv (.one (.own i))):=by kernel_rfl) (hm:S.M[i]? = some (bf el T l):=by kernel_rfl) (hi:evK S.F ix=some (.int (Hl S ix) k):=by kernel_rfl):Val c S o (.sv (.one (.oe i k.toNat T.s))):=ic bA ho h1 h2 h3 h4 h5 hx hm hi hy
theorem lO {α:Type} {T:Ty α} {l:List α} {k t:Nat} {y:α} {ti:TI} {x:Operand} (ho:o.op=.load t x) (hy:l[k]? = some y) (h1:co t=some ti:=by rfl) (h2:ti.size=T.s:=by rfl) (h3:jK ti (T.sv y)=true:=by rfl)
  (hx:eL S.F x=some (.sv (.one (.oe (oIx S x) k T.s))):=by kernel_rfl) (hm:S.M[oIx S x]? = some (bf (Bs S (oIx S x)) T l):=by kernel_rfl) (hc:(T.sv y).refs=[]:=by rfl):Val c S o (.sv (T.sv y)):=vZ bA ho h1 h2 h3 hx hm hy hc
theorem iX {α:Type} {T:Ty α} {l:List α} {i:Int} {y:α} {t el:Nat} {ti te:TI} {x ix:Operand} (ho:o.op=.indexAddr t x ix) (hy:cq l i=some y) (h1:co t=some ti:=by rfl) (h2:ti.sl=some el:=by rfl) (h3:co el=some te:=by rfl) (h4:te.size=T.s:=by rfl) (hx:eL S.F x=some (.sv (.one (LS T l))):=by kernel_rfl) (hi:evK S.F ix=some (.int (Hl S ix) i):=by kernel_rfl):Val c S o (.sv (.one (.pe (eu (T.sv y)) T.s))):=v4 bA ho h1 h2 h3 h4 hx hi hy
theorem lD {s:SV} {sz t:Nat} {ti:TI} {x:Operand} (ho:o.op=.load t x) (h1:co t=some ti:=by rfl) (h2:ti.size=sz:=by rfl) (h3:jK ti s=true:=by rfl) (hx:eL S.F x=some (.sv (.one (.pe (eu s) sz))):=by kernel_rfl) (hc:s.refs=[]:=by rfl):Val c S o (.sv s):=zQ bA ho h1 h2 h3 hx hc
theorem aB {l:List At} {t f fo fs:Nat} {ag:Bool} {ti:TI} {x:Operand} {r:SV} (ho:o.op=.fieldAddr t x f) (h1:co t=some ti:=by rfl) (h2:ti.st=true:=by rfl) (h3:ti.offs[f]? = some (fo,fs + 1,ag):=by rfl) (h4:iG l fo (fs + 1) ag=some r:=by kernel_rfl) (hx:eL S.F x=some (.sv (.one (.pe (eu (.agg l)) l.length))):=by kernel_rfl) (h6:(cF r).length=fs + 1:=by rfl):Val c S o (.sv (.one (.pe (eu r) (fs + 1)))):=v5 bA ho h1 h2 h3 h4 hx h6
theorem cV {α β:Type} {ins:α -> List SC} {out:β -> SC} {dom:α -> Prop} {φ:α -> β} (x:α) (hd:dom x) {fo:Operand} {args:Array Operand} {ats:Array TypeId} (ho:o.op=.call ⟨.value fo,args,ats⟩) (hf:eL S.F fo=some (.sv (.one (.rd (fvR ins out dom φ)))):=by kernel_rfl) (ha:rY S.F args.toList=some (ins x):=by kernel_rfl) (hc:(ins x).all (fun x=>x.refs.isEmpty)=true:=by rfl) (hcl:(out (φ x)).refs=[]:=by rfl):MT c S o (out (φ x)) [] none:=fG x hd ho hf ha hc hcl
theorem cL {f:Nat} {ins:List SC} {M:List br} {x:SC} (ct:Ct f ins M (fun (_:Unit)=>True) (fun _=>x)) (en:∀ args w,(callFunc f args).run Tryz.prog w=.ok (.enter f args) w) {fo:Operand} {args:Array Operand} {ats:Array TypeId} (ho:o.op=.call ⟨.value fo,args,ats⟩) (hf:eL S.F fo=some (.sv (.one (.fn f []))):=by kernel_rfl) (ha:(match rY S.F args.toList with | some l=>some (l ++ ([]:List Nat).map fun i=>.sv (.one (.ptr i 0))) | none=>none)=some (ins.map (SC.ren fun i=>([]:List Nat).getD i 0)):=by kernel_rfl) (hM:fzE S.M (fun i=>([]:List Nat).getD i 0) 0 M=M.map (fun it=>some (it.ren fun i=>([]:List Nat).getD i 0)):=by kernel_rfl) (hz:M.all fzB=true:=by rfl) (hcl:x.refs=[]:=by rfl):MT c S o x [] none:=Dc ct en (caps:=[]) [] ho hf ha hM hz hcl rfl
theorem gg {α:Type} {T:Ty α} {l:List α} {k t:Nat} {y:α} {ti:TI} {x v:Operand} (hn:c.n=n) (ho:o.op=.store t x v) (hk:k < l.length) (h:WL c ops rest (puT n o.dst (.tup []) ⟨S.F,S.M.set (oIx S x) (bf (Bs S (oIx S x)) T (l.set k y))⟩) N) (hT:T.solid:=by exact fun _ h=>by cases h) (hw:dX ops S.F o=some true:=by kernel_rfl) (h1:co t=some ti:=by rfl) (h2:ti.size=T.s:=by rfl)
  (hx:eL S.F x=some (.sv (.one (.oe (oIx S x) k T.s))):=by kernel_rfl) (hm:S.M[oIx S x]? = some (bf (Bs S (oIx S x)) T l):=by kernel_rfl) (hv:eL S.F v=some (.sv (T.sv y)):=by kernel_rfl) (hz:(cF (T.sv y)).length=T.s:=by rfl) (hc:(T.sv y).refs=[]:=by rfl) (e:(iA n o.dst (.tup []) ⟨S.F,S.M.set (oIx S x) (bf (Bs S (oIx S x)) T (l.set k y))⟩).isSome=true:=by kernel_rfl):WL c ops (o :: rest) S N:=
 FJ bA hn hw ho h1 h2 hT hx hm hk hv hz hc (ux e) h
theorem iP (i off q:Nat) {t m el sz:Nat} {te:TI} {x ix:Operand} {k:Int} (ho:o.op=.indexAddr t x ix) (hu:Tryz.prog.underlying t=some (.array m el)) (h3:co el=some te:=by rfl) (h4:te.size=sz:=by rfl) (hx:eL S.F x=some (.sv (.one (.ptr i off))):=by kernel_rfl) (hi:evK S.F ix=some (.int (Hl S ix) k):=by kernel_rfl) (h0:0 <= k /\ k < (m:Int):=by decide) (hq:off + k.toNat * sz=q:=by rfl):Val c S o (.sv (.one (.ptr i q))):=dc i off q bA ho hu h3 h4 hx hi h0 hq
theorem fO {k t f fo fs:Nat} {ag:Bool} {ti:TI} {x:Operand} (ho:o.op=.fieldAddr t x f) (h1:co t=some ti:=by rfl) (h2:ti.st=true:=by rfl) (h3:ti.offs[f]? = some (fo,fs + 1,ag):=by rfl) (hx:eL S.F x=some (.sv (.one (.oe (oIx S x) k (oS S x)))):=by kernel_rfl):Val c S o (.sv (.one (.oe (oIx S x) (k * oS S x + fo) 1))):=jd bA ho h1 h2 h3 hx
theorem lF {α:Type} {T:Ty α} {l:List α} {k fo t:Nat} {y:α} {cells:List At} {z:At} {ti:TI} {x:Operand} (ho:o.op=.load t x) (hy:l[k]? = some y) (h1:co t=some ti:=by rfl) (h2:ti.agg=false:=by rfl) (h3:T.sv y=.agg cells:=by rfl) (h4:cells[fo]? = some z:=by rfl) (h5:z.refs=[]:=by rfl)
  (hx:eL S.F x=some (.sv (.one (.oe (oIx S x) (k * T.s + fo) 1))):=by kernel_rfl) (hm:S.M[oIx S x]? = some (bf (Bs S (oIx S x)) T l):=by kernel_rfl):Val c S o (.sv (.one z)):=oT bA ho h1 h2 h3 h4 h5 hx hm hy
theorem lI {α:Type} {T:Ty α} (es:List α) (p:Nat) {t len el:Nat} {parts:Array (Nat × Operand)} {ti te:TI} (ho:o.op=.buildSlice t len parts) (h1:co t=some ti:=by rfl) (h2:ti.sl=some el:=by rfl) (h3:co el=some te:=by rfl) (e:LK te len S.F parts.toList=some (cellsOf T es):=by kernel_rfl) (hr:(((cellsOf T es).flatMap At.refs).all fun i=>!(Nat.beq i p))=true:=by rfl) (hT:T.solid:=by exact fun _ h=>by cases h) (hz:∀ a,(cF (T.sv a)).length=T.s:=by exact fun _=>rfl) (hc:∀ a,(T.sv a).refs=[]:=by exact fun _=>rfl) (hlen:len=es.length:=by rfl) (hml:es.length <= 140737488355328:=by exact dM rfl):MT c S o (.sv (.one (.own p))) [] (some (p,bf el T es)):=Lx es (Ly p bA ho h1 h2 h3 e hr) hT hz hc hlen hml
theorem aP {α:Type} {T:Ty α} {l es:List α} {i p:Nat} {x y:Operand} {t e m:Nat} {ti te:TI} (ho:o.op=.call ⟨.builtin .append,#[x,y],#[t,t]⟩) {bb:Nat} (hp:ed l.length es.length bb) (h1:co t=some ti:=by rfl) (h2:ti.sl=some e:=by rfl) (h3:co e=some te:=by rfl) (h4:te.size=T.s:=by rfl) (h5:0 < T.s:=by decide)
  (hx:eL S.F x=some (.sv (.one (.own i))):=by rfl) (hm:S.M[i]? = some (bf e T l):=by rfl) (hT:T.solid:=by exact fun _ h=>by cases h) (hy:eL S.F y=some (.sv (.one (.sl (slR T es) m))):=by rfl) (hbt:te.bytes=bb:=by rfl) (hb0:0 < bb:=by decide):MT c S o (.sv (.one (.own p))) [i] (some (p,bf e T (l ++ es))):=EZ bA ho h1 h2 h3 h4 h5 hx hm (LZ hT h5 hy) (by rw [hbt]; exact hp) (hp.le hb0)
theorem eJ.b {b b':Bool} (eb:b=b') (hC:C.x j=.sv (.one (.v (.bool b'))):=by rfl) (e:evV co (stE C l0 j) o=some (.sv (.one (.v (.bool b)))):=by kernel_rfl) (hw:dX l0.toArray (stE C l0 j).F o=some true:=by kernel_rfl) (hk:iM C j=[]:=by kernel_rfl) (hb:iT C j=[]:=by kernel_rfl) (hu:mn C j=[]:=by kernel_rfl) (huse:fF (stE C l0 j) []=true:=by kernel_rfl):eJ c C l0 j o:=eJ.v (by rw [hC]; exact G9 eb (KJ bA e)) hw hk hb hu huse
theorem eJ.f {k t f fo fs:Nat} {ag:Bool} {ti:TI} {x:Operand} (ho:o.op=.fieldAddr t x f) (h1:co t=some ti:=by rfl) (h2:ti.st=true:=by rfl) (h3:ti.offs[f]? = some (fo,fs + 1,ag):=by rfl) (hx:eL (stE C l0 j).F x=some (.sv (.one (.oe (oIx (stE C l0 j) x) k (oS (stE C l0 j) x)))):=by kernel_rfl) (hC:C.x j=.sv (.one (.oe (oIx (stE C l0 j) x) (k * oS (stE C l0 j) x + fo) 1)):=by kernel_rfl) (hw:dX l0.toArray (stE C l0 j).F o=some true:=by kernel_rfl) (hk:iM C j=[]:=by kernel_rfl) (hb:iT C j=[]:=by kernel_rfl) (hu:mn C j=[]:=by kernel_rfl) (huse:fF (stE C l0 j) []=true:=by kernel_rfl):eJ c C l0 j o:=eJ.v (by rw [hC]; exact bX (jd bA ho h1 h2 h3 hx)) hw hk hb hu huse
theorem eJ.x {α:Type} {T:Ty α} {l:List α} {k fo t:Nat} {y:α} {cells:List At} {z:At} {ti:TI} {x:Operand} (ho:o.op=.load t x) (hy:l[k]? = some y) (h1:co t=some ti:=by rfl) (h2:ti.agg=false:=by rfl) (h3:T.sv y=.agg cells:=by rfl) (h4:cells[fo]? = some z:=by rfl) (h5:z.refs=[]:=by rfl)
  (hx:eL (stE C l0 j).F x=some (.sv (.one (.oe (oIx (stE C l0 j) x) (k * T.s + fo) 1))):=by kernel_rfl) (hm:(stE C l0 j).M[oIx (stE C l0 j) x]? = some (bf (Bs (stE C l0 j) (oIx (stE C l0 j) x)) T l):=by kernel_rfl) (hC:C.x j=.sv (.one z):=by kernel_rfl) (hw:dX l0.toArray (stE C l0 j).F o=some true:=by kernel_rfl) (hk:iM C j=[]:=by kernel_rfl) (hb:iT C j=[]:=by kernel_rfl) (hu:mn C j=[]:=by kernel_rfl) (huse:fF (stE C l0 j) []=true:=by kernel_rfl):eJ c C l0 j o:=eJ.v (by rw [hC]; exact bX (oT bA ho h1 h2 h3 h4 h5 hx hm hy)) hw hk hb hu huse
theorem eJ.i {α:Type} {T:Ty α} {l:List α} {k:Int} {y:α} {t el i:Nat} {ti te:TI} {x ix:Operand} (ho:o.op=.indexAddr t x ix) (hy:cq l k=some y) (h1:co t=some ti:=by rfl) (h2:ti.sl=some el:=by rfl) (h3:co el=some te:=by rfl) (h4:te.size=T.s:=by rfl) (h5:0 < T.s:=by decide)
  (hC:C.x j=.sv (.one (.oe i k.toNat T.s)):=by rfl) (hx:eL (stE C l0 j).F x=some (.sv (.one (.own i))):=by kernel_rfl) (hm:(stE C l0 j).M[i]? = some (bf el T l):=by kernel_rfl) (hi:evK (stE C l0 j).F ix=some (.int (Hl (stE C l0 j) ix) k):=by kernel_rfl) (hw:dX l0.toArray (stE C l0 j).F o=some true:=by kernel_rfl) (hk:iM C j=[]:=by kernel_rfl) (hb:iT C j=[]:=by kernel_rfl) (hu:mn C j=[]:=by kernel_rfl) (huse:fF (stE C l0 j) []=true:=by kernel_rfl):eJ c C l0 j o:=
 eJ.v (by rw [hC]; exact bX (ic bA ho h1 h2 h3 h4 h5 hx hm hi hy)) hw hk hb hu huse
theorem eJ.l {α:Type} {T:Ty α} {l:List α} {k t:Nat} {y:α} {ti:TI} {x:Operand} (ho:o.op=.load t x) (hy:l[k]? = some y) (h1:co t=some ti:=by rfl) (h2:ti.size=T.s:=by rfl) (h3:jK ti (T.sv y)=true:=by rfl)
  (hC:C.x j=.sv (T.sv y):=by kernel_rfl) (hx:eL (stE C l0 j).F x=some (.sv (.one (.oe (oIx (stE C l0 j) x) k T.s))):=by kernel_rfl) (hm:(stE C l0 j).M[oIx (stE C l0 j) x]? = some (bf (Bs (stE C l0 j) (oIx (stE C l0 j) x)) T l):=by kernel_rfl) (hc:(T.sv y).refs=[]:=by rfl) (hw:dX l0.toArray (stE C l0 j).F o=some true:=by kernel_rfl) (hk:iM C j=[]:=by kernel_rfl) (hb:iT C j=[]:=by kernel_rfl) (hu:mn C j=[]:=by kernel_rfl) (huse:fF (stE C l0 j) []=true:=by kernel_rfl):eJ c C l0 j o:=
 eJ.v (by rw [hC]; exact bX (vZ bA ho h1 h2 h3 hx hm hy hc)) hw hk hb hu huse
end
theorem fC {X0:Type} {c:eT} {S:St} {N R:Po} {E:List (Nat × Po)} {code:Code} {a0:X0} {K:(X0 -> Prop) -> (X0 -> Nat) -> X0 -> Prop} (h:∃ (I:X0 -> Prop) (m:X0 -> Nat),I a0 /\ ∀ x0,I x0 -> K I m x0) (T:X0 -> St) (hk:∀ (I:X0 -> Prop) (m:X0 -> Nat) x0,K I m x0 -> En c (T x0) (cwp code (PQ c (fun a w=>∃ s,(I s /\ m s < m x0) /\ Ok c (T s) a w) E R))) (e:jf (T a0) S=je (T a0):=by kernel_rfl):En c S (cwp (.loop code) (PQ c N E R)):=by
 obtain ⟨I,m,h0,hI⟩:=h
 exact kW (fun s=>I s) (fun s=>m s) T a0 h0 (sub_ok e) (fun s hs=>hk I m s (hI _ hs))
theorem dV {X0 X1:Type} {c:eT} {S:St} {N R:Po} {E:List (Nat × Po)} {code:Code} {a0:X0} {a1:X1} {K:(X0 -> X1 -> Prop) -> (X0 -> X1 -> Nat) -> X0 -> X1 -> Prop} (h:∃ (I:X0 -> X1 -> Prop) (m:X0 -> X1 -> Nat),I a0 a1 /\ ∀ x0 x1,I x0 x1 -> K I m x0 x1) (T:X0 × X1 -> St) (hk:∀ (I:X0 -> X1 -> Prop) (m:X0 -> X1 -> Nat) x0 x1,K I m x0 x1 -> En c (T (x0,x1)) (cwp code (PQ c (fun a w=>∃ s,(I s.1 s.2 /\ m s.1 s.2 < m x0 x1) /\ Ok c (T s) a w) E R))) (e:jf (T (a0,a1)) S=je (T (a0,a1)):=by kernel_rfl):En c S (cwp (.loop code) (PQ c N E R)):=by
 obtain ⟨I,m,h0,hI⟩:=h
 exact kW (fun s=>I s.1 s.2) (fun s=>m s.1 s.2) T (a0,a1) h0 (sub_ok e) (fun s hs=>hk I m s.1 s.2 (hI _ _ hs))
theorem ma {X0 X1 X2:Type} {c:eT} {S:St} {N R:Po} {E:List (Nat × Po)} {code:Code} {a0:X0} {a1:X1} {a2:X2} {K:(X0 -> X1 -> X2 -> Prop) -> (X0 -> X1 -> X2 -> Nat) -> X0 -> X1 -> X2 -> Prop} (h:∃ (I:X0 -> X1 -> X2 -> Prop) (m:X0 -> X1 -> X2 -> Nat),I a0 a1 a2 /\ ∀ x0 x1 x2,I x0 x1 x2 -> K I m x0 x1 x2) (T:X0 × X1 × X2 -> St) (hk:∀ (I:X0 -> X1 -> X2 -> Prop) (m:X0 -> X1 -> X2 -> Nat) x0 x1 x2,K I m x0 x1 x2 -> En c (T (x0,x1,x2)) (cwp code (PQ c (fun a w=>∃ s,(I s.1 s.2.1 s.2.2 /\ m s.1 s.2.1 s.2.2 < m x0 x1 x2) /\ Ok c (T s) a w) E R))) (e:jf (T (a0,a1,a2)) S=je (T (a0,a1,a2)):=by kernel_rfl):En c S (cwp (.loop code) (PQ c N E R)):=by
 obtain ⟨I,m,h0,hI⟩:=h
 exact kW (fun s=>I s.1 s.2.1 s.2.2) (fun s=>m s.1 s.2.1 s.2.2) T (a0,a1,a2) h0 (sub_ok e) (fun s hs=>hk I m s.1 s.2.1 s.2.2 (hI _ _ _ hs))
theorem DI {X0 X1 X2 X3:Type} {c:eT} {S:St} {N R:Po} {E:List (Nat × Po)} {code:Code} {a0:X0} {a1:X1} {a2:X2} {a3:X3} {K:(X0 -> X1 -> X2 -> X3 -> Prop) -> (X0 -> X1 -> X2 -> X3 -> Nat) -> X0 -> X1 -> X2 -> X3 -> Prop} (h:∃ (I:X0 -> X1 -> X2 -> X3 -> Prop) (m:X0 -> X1 -> X2 -> X3 -> Nat),I a0 a1 a2 a3 /\ ∀ x0 x1 x2 x3,I x0 x1 x2 x3 -> K I m x0 x1 x2 x3) (T:X0 × X1 × X2 × X3 -> St) (hk:∀ (I:X0 -> X1 -> X2 -> X3 -> Prop) (m:X0 -> X1 -> X2 -> X3 -> Nat) x0 x1 x2 x3,K I m x0 x1 x2 x3 -> En c (T (x0,x1,x2,x3)) (cwp code (PQ c (fun a w=>∃ s,(I s.1 s.2.1 s.2.2.1 s.2.2.2 /\ m s.1 s.2.1 s.2.2.1 s.2.2.2 < m x0 x1 x2 x3) /\ Ok c (T s) a w) E R))) (e:jf (T (a0,a1,a2,a3)) S=je (T (a0,a1,a2,a3)):=by kernel_rfl):En c S (cwp (.loop code) (PQ c N E R)):=by
 obtain ⟨I,m,h0,hI⟩:=h
 exact kW (fun s=>I s.1 s.2.1 s.2.2.1 s.2.2.2) (fun s=>m s.1 s.2.1 s.2.2.1 s.2.2.2) T (a0,a1,a2,a3) h0 (sub_ok e) (fun s hs=>hk I m s.1 s.2.1 s.2.2.1 s.2.2.2 (hI _ _ _ _ hs))
theorem MJ {X0 X1 X2 X3 X4 X5:Type} {c:eT} {S:St} {N R:Po} {E:List (Nat × Po)} {code:Code} {a0:X0} {a1:X1} {a2:X2} {a3:X3} {a4:X4} {a5:X5} {K:(X0 -> X1 -> X2 -> X3 -> X4 -> X5 -> Prop) -> (X0 -> X1 -> X2 -> X3 -> X4 -> X5 -> Nat) -> X0 -> X1 -> X2 -> X3 -> X4 -> X5 -> Prop} (h:∃ (I:X0 -> X1 -> X2 -> X3 -> X4 -> X5 -> Prop) (m:X0 -> X1 -> X2 -> X3 -> X4 -> X5 -> Nat),I a0 a1 a2 a3 a4 a5 /\ ∀ x0 x1 x2 x3 x4 x5,I x0 x1 x2 x3 x4 x5 -> K I m x0 x1 x2 x3 x4 x5) (T:X0 × X1 × X2 × X3 × X4 × X5 -> St) (hk:∀ (I:X0 -> X1 -> X2 -> X3 -> X4 -> X5 -> Prop) (m:X0 -> X1 -> X2 -> X3 -> X4 -> X5 -> Nat) x0 x1 x2 x3 x4 x5,K I m x0 x1 x2 x3 x4 x5 -> En c (T (x0,x1,x2,x3,x4,x5)) (cwp code (PQ c (fun a w=>∃ s,(I s.1 s.2.1 s.2.2.1 s.2.2.2.1 s.2.2.2.2.1 s.2.2.2.2.2 /\ m s.1 s.2.1 s.2.2.1 s.2.2.2.1 s.2.2.2.2.1 s.2.2.2.2.2 < m x0 x1 x2 x3 x4 x5) /\ Ok c (T s) a w) E R))) (e:jf (T (a0,a1,a2,a3,a4,a5)) S=je (T (a0,a1,a2,a3,a4,a5)):=by kernel_rfl):En c S (cwp (.loop code) (PQ c N E R)):=by
 obtain ⟨I,m,h0,hI⟩:=h
 exact kW (fun s=>I s.1 s.2.1 s.2.2.1 s.2.2.2.1 s.2.2.2.2.1 s.2.2.2.2.2) (fun s=>m s.1 s.2.1 s.2.2.1 s.2.2.2.1 s.2.2.2.2.1 s.2.2.2.2.2) T (a0,a1,a2,a3,a4,a5) h0 (sub_ok e) (fun s hs=>hk I m s.1 s.2.1 s.2.2.1 s.2.2.2.1 s.2.2.2.2.1 s.2.2.2.2.2 (hI _ _ _ _ _ _ hs))
abbrev bg (n:Nat) (x:At):Nat × SC:=(n, .sv (.one x))
abbrev ba (n:Nat) (x:Int):Nat × SC:=sl n (I x)
abbrev bG (n:Nat) (x:Bool):Nat × SC:=sl n (B x)
abbrev bx (n k:Nat):Nat × SC:=sl n (.own k)
abbrev bu (n k j:Nat):Nat × SC:=sl n (.ptr k j)
abbrev bq (x:Int):SC:=o1 (I x)
abbrev cH (x:Bool):SC:=o1 (B x)
abbrev cu (k:Nat):SC:=o1 (.own k)
abbrev cQ (k j:Nat):SC:=o1 (.ptr k j)
abbrev bJ : SC:=.tup []
abbrev bU (x:br):CI:=⟨x,none,none,none⟩
end
end Go.Proofs.YtmdbjpljlniloaaGreat
namespace Go.Proofs.YtmdbjpljlniloaaGreat
open Go.RowKit Go.MapKept
set_option maxRecDepth 100000
noncomputable section
def xF (l:List Int) (Q:Int -> Prop):Prop:=
 l.length <= 9223372036854775807 ->
 (∃ (Inv:Int -> Int -> Prop) (mu:Int -> Int -> Nat),Inv 0 0 /\
 ∀ x3 x8,Inv x3 x8 -> (cv (decide (x8 < (l.length:Int))) (∃ e,cq l x8=some e /\
 (0 <= e) /\
 (Inv (bR .or .i64 x3 (wr (1 * (2 ^ (min (e).toNat 64))))) (wr (x8 + 1)) /\ mu (bR .or .i64 x3 (wr (1 * (2 ^ (min (e).toNat 64))))) (wr (x8 + 1)) < mu x3 x8)) (Q x3)))
theorem D2 (l:List Int) (Q:Int -> Prop) (h:xF l Q):Ct 32 [.sv (.one (LS aZ l))] [] Q (fun (r:Int)=>.sv (.one (I r))):=by
 have ht:=bA
 refine Ct.body Tryz.func32 rfl rfl rfl rfl (fun c hn=>?_)
 unfold xF at h
 refine de 0 (by rfl) (fun hl=>?_)
 replace h:=h hl
 clear hl
 refine bk hn ?_
 refine bk hn ?_
 refine bi (bk hn ?_)
 refine bj (dV h (fun zz=>⟨[ba 3 zz.1,bg 6 (LS aZ l),ba 7 (l.length:Int),ba 8 zz.2],[]⟩) fun Inv mu x3 x8 h=>?_)
 refine bk hn ?_
 refine bi (bv h (fun h=>?_) (fun h=>?_))
 refine bn (bi (bj (bp ?_)))
 obtain ⟨e,he,h⟩:=h
 refine bT hn (iX (T:=aZ) rfl he) ?_
 refine bT hn (lD (s:=.one (I e)) rfl) ?_
 refine bM hn ?_
 refine bI (bC ht hn 2 ⟨[bg 6 (LS aZ l),ba 7 (l.length:Int),ba 8 x8,ba 12 x3,ba 13 e],[]⟩ ?_)
 have hz:=h.1
 replace h:=h.2
 refine fe hn (nU (u:=1) (v:=e) rfl (by rfl) (by rfl) hz (.inl ⟨rfl,rfl⟩)) ?_
 refine bM hn ?_
 exact cn hn ((bR .or .i64 x3 (wr (1 * (2 ^ (min (e).toNat 64))))),(wr (x8 + 1))) h
 exact bD rfl (cD hn x3 h)
theorem Ms : ∀ args w,(callFunc 32 args).run Tryz.prog w=.ok (.enter 32 args) w:=enters_of Tryz.func32 (by kernel_rfl) rfl
def jE (l:List Int):Int:=l.foldl (fun n q=>bR .or .i64 n (wr (1 * (2 ^ (min q.toNat 64))))) 0
section
variable (l:List be)
def fd (i:Nat):List be:=if 0 <= (gx l i).ak then l.set i ⟨bR .and .i64 (gx l i).ap (gx l (gx l i).ak.toNat).ap,(gx l i).ak,(gx l i).aI,(gx l i).aF,(gx l i).aH⟩ else l
def eC (i:Nat):Nat -> List be
 | 0=>l
 | k + 1=>if ((gx (eC i k) k).ak == (gx (eC i k) i).ak)=true then (eC i k).set i ⟨bR .andNot .i64 (gx (eC i k) i).ap (gx (eC i k) k).ap,(gx (eC i k) i).ak,(gx (eC i k) i).aI,(gx (eC i k) i).aF,(gx (eC i k) i).aH⟩ else eC i k
def ve (i:Nat):List be:=l.set i ⟨(gx l i).ap,(gx l i).ak,(gx l i).aI,(gx l i).ap == 0,(gx l i).aH⟩
def gK : Nat -> List be
 | 0=>l
 | i + 1=>ve (eC (fd (gK i) i) i i) i
def eE : List be:=gK l l.length
def xl : Prop:=l.length <= 1000 /\ ∀ k,k < l.length -> (gx l k).ak < (l.length:Int)
def lp (i j:Nat):List be:=if ((gx l j).ak == (i:Int))=true \/ (0 <= (gx l j).ak /\ ((gx l (gx l j).ak.toNat).aF && decide ((gx l j).ak > (i:Int)))=true) then l.set j ⟨(gx l j).ap,(gx l j).ak,(gx l j).aI,true,(gx l j).aH⟩ else l
def jD (i:Nat):Nat -> List be
 | 0=>l
 | k + 1=>lp (jD i k) i (i + 1 + k)
def ip (i:Nat):List be:=jD l i (l.length - (i + 1))
def BK (a b:Int):Int:=if a < b then a else b
def kZ (x:be) (i:Int) (m:Int):Int:=if x.aI=true then if x.aF=true then BK (2 * i + 1) m else if x.aH=true then BK (2 * i + 2) m else m else m
def Gt (x:be) (i:Int) (s:bc × cS):bc × cS:=
 if x.aF=true then (⟨s.1.ai,kZ x i s.1.ay⟩,s.2) else
 (⟨⟨s.1.ai.aC + 1,cA.put s.1.ai.ap s.1.ai.aC x.ap,if 0 <= x.ak then cA.put (cA.put s.1.ai.ak s.1.ai.aC (-1)) s.1.ai.aC (cW (cS.l (cS.put s.2 i s.1.ai.aC)) x.ak) else cA.put s.1.ai.ak s.1.ai.aC (-1)⟩,kZ x i s.1.ay⟩,cS.put s.2 i s.1.ai.aC)
def mM : Nat -> bc × cS
 | 0=>(⟨⟨0,⟨0,0,0,0⟩,⟨0,0,0,0⟩⟩,9⟩,⟨0,0,0,0,0,0,0,0,0,0,0,0⟩)
 | i + 1=>Gt (gx l i) i (mM i)
def eF : bc:=(mM l l.length).1
structure zy : Prop where
 len:l.length <= 12
 above:∀ k,k < l.length -> (gx l k).ak < 12
 few:∀ k,k < l.length -> (gx l k).aF=false -> 0 <= (mM l k).1.ai.aC /\ (mM l k).1.ai.aC < 4
end
section
variable {l:List be}
theorem lU {i:Nat}:(fd l i).length=l.length:=by unfold fd; split <;> simp
theorem iq {i:Nat}:∀ k,(eC l i k).length=l.length
 | 0=>rfl
 | k + 1=>by
  unfold eC
  split
  ·rw [cK]
   exact iq k
  ·exact iq k
theorem lT : ∀ k,(gK l k).length=l.length
 | 0=>rfl
 | k + 1=>by
  show (List.set _ _ _).length=_
  rw [cK,iq,lU,lT k]
theorem lE {m:List be} {i j:Nat} {x:be} (hi:i < m.length) (hx:x.ak=(gx m i).ak):(gx (m.set i x) j).ak=(gx m j).ak:=by
 rw [fS hi]
 split
 ·rename_i c
  rw [c,hx]
 ·rfl
theorem AZ {i j:Nat} (hi:i < l.length):(gx (fd l i) j).ak=(gx l j).ak:=by
 unfold fd
 split
 ·exact lE hi rfl
 ·rfl
theorem nI {i j:Nat} (hi:i < l.length):∀ k,(gx (eC l i k) j).ak=(gx l j).ak
 | 0=>rfl
 | k + 1=>by
  unfold eC
  split
  ·exact (lE (by rw [iq]; exact hi) (by rfl)).trans (nI hi k)
  ·exact nI hi k
theorem vd {j:Nat}:∀ k,k <= l.length -> (gx (gK l k) j).ak=(gx l j).ak
 | 0,_=>rfl
 | k + 1,h=>by
  show (gx (ve _ _) j).ak=_
  unfold ve
  have h1:k < (fd (gK l k) k).length:=by rw [lU,lT]; exact h
  refine (lE (i:=k) (by rw [iq]; exact h1) (by rfl)).trans ((nI h1 k).trans ((AZ (by rw [lT]; exact h)).trans (vd k (by omega))))
theorem HK {i j:Nat}:(lp l i j).length=l.length:=by unfold lp; split <;> simp
theorem nH {i:Nat}:∀ k,(jD l i k).length=l.length
 | 0=>rfl
 | k + 1=>by
  show (lp _ _ _).length=_
  rw [HK,nH k]
theorem pg {i j:Nat}:∀ k,i + k < l.length -> (gx (jD l i k) j).ak=(gx l j).ak
 | 0,_=>rfl
 | k + 1,h=>by
  show (gx (lp _ _ _) j).ak=_
  unfold lp
  split
  ·exact (lE (i:=i + 1 + k) (by rw [nH]; omega) (by rfl)).trans (pg k (by omega))
  ·exact pg k (by omega)
theorem ix {m:List be} {i:Int} {k n:Nat} (hk:i=(k:Int)) (hm:m.length=n) (h:k < n):cq m i=some (gx m k):=by
 subst hk
 have:=bB (R:=m) (i:=(k:Int)) (by omega) (by omega)
 exact this
end
theorem Ck (l:List Int) (hp:∀ q ∈ l,0 <= q)  : Ct 32 [.sv (.one (LS aZ l))] [] (fun (_:Unit)=>True) (fun _=>.sv (.one (I (jE l)))):=by
 refine (D2 l (fun res_=>res_=(jE l)) ?_).fun
 unfold xF
 intro hl
 refine ⟨fun n x=>∃ k:Nat,x=k /\ k <= l.length /\ n=jE (l.take k),fun _ x=>l.length - x.toNat,⟨0,rfl,cy _,rfl⟩,?_⟩
 rintro n x ⟨k,rfl,hk,rfl⟩
 refine ⟨fun hb=>?_,fun hb=>?_⟩
 ·have hlt:=dlt hb
  refine ⟨_,eP hlt,hp _ (dK hlt),⟨k + 1,dj (by omega),hlt,?_⟩,dQ hlt (by omega)⟩
  unfold jE
  rw [ia,cO hlt,nQ]
  rfl
 ·have:=dge hb
  rw [show k=l.length by omega,kH]
def xD (R:List be) (Q:(List be) -> Prop):Prop:=
 ∃ (Inv:Int -> (List be) -> Prop) (mu:Int -> (List be) -> Nat),Inv 0 R /\
 ∀ x6 l0,Inv x6 l0 -> (cv (decide (x6 < (R.length:Int))) (∃ J:(List be) -> Prop,(∃ e,cq l0 x6=some e /\
 cv (decide (e.ak >= 0)) (∃ e_2,cq l0 x6=some e_2 /\
 ∃ e_3,cq l0 x6=some e_3 /\
 ∃ e_4,cq l0 e_3.ak=some e_4 /\
 ∃ e_5,cq l0 x6=some e_5 /\
 J (l0.set (x6).toNat (be.mk (bR .and .i64 e_2.ap e_4.ap) e_5.ak e_5.aI e_5.aF e_5.aH))) (J l0)) /\
 (∀ l0_2,J l0_2 -> ∃ (Inv_2:Int -> (List be) -> Prop) (mu_2:Int -> (List be) -> Nat),Inv_2 0 l0_2 /\
 ∀ x33 l0_3,Inv_2 x33 l0_3 -> (cv (decide (x33 < x6)) (∃ J_2:(List be) -> Prop,(∃ e_6,cq l0_3 x33=some e_6 /\
 ∃ e_7,cq l0_3 x6=some e_7 /\
 cv (e_6.ak == e_7.ak) (∃ e_8,cq l0_3 x6=some e_8 /\
 ∃ e_9,cq l0_3 x33=some e_9 /\
 ∃ e_10,cq l0_3 x6=some e_10 /\
 J_2 (l0_3.set (x6).toNat (be.mk (bR .andNot .i64 e_8.ap e_9.ap) e_10.ak e_10.aI e_10.aF e_10.aH))) (J_2 l0_3)) /\
 (∀ l0_4,J_2 l0_4 -> (Inv_2 (wr (x33 + 1)) l0_4 /\ mu_2 (wr (x33 + 1)) l0_4 < mu_2 x33 l0_3))) (∃ e_11,cq l0_3 x6=some e_11 /\
 ∃ e_12,cq l0_3 x6=some e_12 /\
 (Inv (wr (x6 + 1)) (l0_3.set (x6).toNat (be.mk e_12.ap e_12.ak e_12.aI (e_11.ap == 0) e_12.aH)) /\ mu (wr (x6 + 1)) (l0_3.set (x6).toNat (be.mk e_12.ap e_12.ak e_12.aI (e_11.ap == 0) e_12.aH)) < mu x6 l0))))) (Q l0))
abbrev qa0 (R:List be) (y0:Nat -> Value) (y1):=([bg 0 (.pown 0 (y0 0)),bg 5 (I (R.length:Int)),bg 6 (I y1)]:List (Nat × SC))
theorem DZ (R:List be) (Q:(List be) -> Prop) (h:xD R Q):fj 62 [.sv (.one (.own 0))] [bf 111 be.ty R] [0] Q (fun (r:List be)=>.tup []) (fun (r:List be)=>[bf 111 be.ty r]):=by
 have ht:=bA
 refine eZ Tryz.func62 rfl rfl rfl (by kernel_rfl) (fun c Vk hn=>?_)
 unfold xD at h
 refine bk hn ?_
 refine bj (dV h (fun zz=>⟨[bg 0 (.pown 0 (Vk 0)),ba 5 (R.length:Int),ba 6 zz.1],[bf 111 be.ty zz.2]⟩) fun Inv mu x6 l0 h=>?_)
 refine bp (cw ht hn 1 ⟨bG 7 (decide (x6 < (R.length:Int))) :: (qa0 R Vk x6),[bf 111 be.ty l0]⟩ ?_)
 refine bi (bv h (fun h=>?_) (fun h=>?_))
 refine bn (bi (bj (bk hn ?_)))
 obtain ⟨J,h,hJ⟩:=h
 refine bS (σ:=(List be)) (fun zz=>J zz) (fun zz=>⟨[bg 0 (.pown 0 (Vk 0)),ba 2 x6,ba 5 (R.length:Int),ba 6 x6],[bf 111 be.ty zz]⟩) ?_ ?_
 refine bp (cN hn 2 ?_)
 obtain ⟨e,he,h⟩:=h
 refine bT hn (iO (T:=be.ty) rfl he) ?_
 refine bT hn (fO (k:=(x6).toNat) rfl) ?_
 refine bT hn (lF (T:=be.ty) (fo:=1) (z:=I e.ak) rfl (bs he).2.2) ?_
 refine bM hn ?_
 refine bv h (fun h=>?_) (fun h=>?_)
 obtain ⟨e_2,he_2,h⟩:=h
 obtain ⟨e_3,he_3,h⟩:=h
 obtain ⟨e_4,he_4,h⟩:=h
 obtain ⟨e_5,he_5,h⟩:=h
 refine da ⟨ba 2 x6 :: (qa0 R Vk x6),[cu 0,bq x6,o1 (.oe 0 (x6).toNat 5),o1 (.oe 0 ((x6).toNat * 5 + 0) 1),bq e_2.ap,cu 0,cu 0,bq x6,o1 (.oe 0 (x6).toNat 5),o1 (.oe 0 ((x6).toNat * 5 + 1) 1),bq e_3.ak,o1 (.oe 0 (e_3.ak).toNat 5),o1 (.oe 0 ((e_3.ak).toNat * 5 + 0) 1),bq e_4.ap,bq (bR .and .i64 e_2.ap e_4.ap),o1 (.oe 0 (x6).toNat 5),o1 (.oe 0 ((x6).toNat * 5 + 0) 1),bJ],[⟨bf 111 be.ty l0,none,none,some (17,bf 111 be.ty (l0.set (x6).toNat (be.mk (bR .and .i64 e_2.ap e_4.ap) e_5.ak e_5.aI e_5.aF e_5.aH)))⟩]⟩ hn ?_ ?_
 exact ⟨.e,
 .e,
 .i (T:=be.ty) rfl he_2,
 .f (k:=(x6).toNat) rfl,
 .x (T:=be.ty) (fo:=0) (z:=I e_2.ap) rfl (bs he_2).2.2,
 .e,
 .e,
 .e,
 .i (T:=be.ty) rfl he_3,
 .f (k:=(x6).toNat) rfl,
 .x (T:=be.ty) (fo:=1) (z:=I e_3.ak) rfl (bs he_3).2.2,
 .i (T:=be.ty) rfl he_4,
 .f (k:=(e_3.ak).toNat) rfl,
 .x (T:=be.ty) (fo:=0) (z:=I e_4.ap) rfl (bs he_4).2.2,
 .e,
 .i (T:=be.ty) rfl he_5,
 .f (k:=(x6).toNat) rfl,
 .mu ⟨[ba 29 (bR .and .i64 e_2.ap e_4.ap),bg 31 (.oe 0 ((x6).toNat * 5 + 0) 1)],[bf 111 be.ty l0]⟩ 0 _ _ rfl rfl (by kernel_rfl) (by rfl) (kw (T:=be.ty) (l:=l0) (k:=(x6).toNat) (fo:=0) (y:=e_5) (y':=(be.mk (bR .and .i64 e_2.ap e_4.ap) e_5.ak e_5.aI e_5.aF e_5.aH)) (z:=I (bR .and .i64 e_2.ap e_4.ap)) ht rfl (by rfl) (by rfl) (fun _ h=>by cases h) rfl rfl (dM rfl) rfl (by rfl) (fun h=>by cases h) (by rfl) (by rfl) (bs he_5).2.2 (by rfl)) rfl rfl rfl rfl rfl rfl rfl,
 trivial⟩
 exact bZ (l0.set (x6).toNat (be.mk (bR .and .i64 e_2.ap e_4.ap) e_5.ak e_5.aI e_5.aF e_5.aH)) h
 exact bn (bZ l0 h)
 intro l0_2 h
 replace h:=hJ _ h
 refine bi (bk hn ?_)
 refine bj (dV h (fun zz=>⟨[bg 0 (.pown 0 (Vk 0)),ba 2 x6,ba 5 (R.length:Int),ba 6 x6,ba 32 x6,ba 33 zz.1],[bf 111 be.ty zz.2]⟩) fun Inv_2 mu_2 x33 l0_3 h=>?_)
 refine bk hn ?_
 refine bi (bv h (fun h=>?_) (fun h=>?_))
 refine bn ?_
 obtain ⟨J_2,h,hJ_2⟩:=h
 refine bS (σ:=(List be)) (fun zz=>J_2 zz) (fun zz=>⟨[bg 0 (.pown 0 (Vk 0)),ba 2 x6,ba 5 (R.length:Int),ba 6 x6,ba 32 x6,ba 33 x33],[bf 111 be.ty zz]⟩) ?_ ?_
 refine bj (bk hn ?_)
 refine bi ?_
 obtain ⟨e_6,he_6,h⟩:=h
 obtain ⟨e_7,he_7,h⟩:=h
 refine da ⟨ba 2 x6 :: ba 3 x33 :: ba 32 x6 :: ba 33 x33 :: (qa0 R Vk x6),[cu 0,bq x33,o1 (.oe 0 (x33).toNat 5),o1 (.oe 0 ((x33).toNat * 5 + 1) 1),bq e_6.ak,cu 0,bq x6,o1 (.oe 0 (x6).toNat 5),o1 (.oe 0 ((x6).toNat * 5 + 1) 1),bq e_7.ak,cH (e_6.ak == e_7.ak)],[bU (bf 111 be.ty l0_3)]⟩ hn ?_ ?_
 exact ⟨.e,
 .e,
 .i (T:=be.ty) rfl he_6,
 .f (k:=(x33).toNat) rfl,
 .x (T:=be.ty) (fo:=1) (z:=I e_6.ak) rfl (bs he_6).2.2,
 .e,
 .e,
 .i (T:=be.ty) rfl he_7,
 .f (k:=(x6).toNat) rfl,
 .x (T:=be.ty) (fo:=1) (z:=I e_7.ak) rfl (bs he_7).2.2,
 .e,
 trivial⟩
 refine bv h (fun h=>?_) (fun h=>?_)
 obtain ⟨e_8,he_8,h⟩:=h
 obtain ⟨e_9,he_9,h⟩:=h
 obtain ⟨e_10,he_10,h⟩:=h
 refine da ⟨ba 2 x6 :: ba 3 x33 :: ba 32 x6 :: ba 33 x33 :: (qa0 R Vk x6),[cu 0,bq x6,o1 (.oe 0 (x6).toNat 5),o1 (.oe 0 ((x6).toNat * 5 + 0) 1),bq e_8.ap,cu 0,bq x33,o1 (.oe 0 (x33).toNat 5),o1 (.oe 0 ((x33).toNat * 5 + 0) 1),bq e_9.ap,bq (bR .andNot .i64 e_8.ap e_9.ap),o1 (.oe 0 (x6).toNat 5),o1 (.oe 0 ((x6).toNat * 5 + 0) 1),bJ],[⟨bf 111 be.ty l0_3,none,none,some (13,bf 111 be.ty (l0_3.set (x6).toNat (be.mk (bR .andNot .i64 e_8.ap e_9.ap) e_10.ak e_10.aI e_10.aF e_10.aH)))⟩]⟩ hn ?_ ?_
 exact ⟨.e,
 .e,
 .i (T:=be.ty) rfl he_8,
 .f (k:=(x6).toNat) rfl,
 .x (T:=be.ty) (fo:=0) (z:=I e_8.ap) rfl (bs he_8).2.2,
 .e,
 .e,
 .i (T:=be.ty) rfl he_9,
 .f (k:=(x33).toNat) rfl,
 .x (T:=be.ty) (fo:=0) (z:=I e_9.ap) rfl (bs he_9).2.2,
 .e,
 .i (T:=be.ty) rfl he_10,
 .f (k:=(x6).toNat) rfl,
 .mu ⟨[ba 57 (bR .andNot .i64 e_8.ap e_9.ap),bg 59 (.oe 0 ((x6).toNat * 5 + 0) 1)],[bf 111 be.ty l0_3]⟩ 0 _ _ rfl rfl (by kernel_rfl) (by rfl) (kw (T:=be.ty) (l:=l0_3) (k:=(x6).toNat) (fo:=0) (y:=e_10) (y':=(be.mk (bR .andNot .i64 e_8.ap e_9.ap) e_10.ak e_10.aI e_10.aF e_10.aH)) (z:=I (bR .andNot .i64 e_8.ap e_9.ap)) ht rfl (by rfl) (by rfl) (fun _ h=>by cases h) rfl rfl (dM rfl) rfl (by rfl) (fun h=>by cases h) (by rfl) (by rfl) (bs he_10).2.2 (by rfl)) rfl rfl rfl rfl rfl rfl rfl,
 trivial⟩
 exact bZ (l0_3.set (x6).toNat (be.mk (bR .andNot .i64 e_8.ap e_9.ap) e_10.ak e_10.aI e_10.aF e_10.aH)) h
 exact bn (bZ l0_3 h)
 intro l0_4 h
 replace h:=hJ_2 _ h
 exact cn hn ((wr (x33 + 1)),l0_4) h
 refine bD rfl (bI (cN hn 4 ?_))
 obtain ⟨e_11,he_11,h⟩:=h
 refine bT hn (iO (T:=be.ty) rfl he_11) ?_
 refine bT hn (fO (k:=(x6).toNat) rfl) ?_
 refine bT hn (lF (T:=be.ty) (fo:=0) (z:=I e_11.ap) rfl (bs he_11).2.2) ?_
 refine bC ht hn 1 ⟨bx 61 0 :: ba 62 x6 :: bG 68 (e_11.ap == 0) :: (qa0 R Vk x6),[bf 111 be.ty l0_3]⟩ ?_
 obtain ⟨e_12,he_12,h⟩:=h
 refine fe hn (ic (T:=be.ty) (l:=l0_3) (k:=x6) ht rfl (by rfl) (by rfl) (by rfl) (by rfl) (by decide) (by rfl) (by rfl) (by rfl) he_12) ?_
 refine fe hn (jd (k:=(x6).toNat) ht rfl (by rfl) (by rfl) (by rfl) (by rfl)) ?_
 refine H8 rfl (by rfl) (kw (T:=be.ty) (l:=l0_3) (k:=(x6).toNat) (fo:=3) (y:=e_12) (y':=(be.mk e_12.ap e_12.ak e_12.aI (e_11.ap == 0) e_12.aH)) (z:=B (e_11.ap == 0)) ht rfl (by rfl) (by rfl) (fun _ h=>by cases h) rfl rfl (dM rfl) rfl (by rfl) (fun h=>by cases h) (by rfl) (by rfl) (bs he_12).2.2 (by rfl)) (by rfl) rfl rfl ?_
 exact bH (cn hn ((wr (x6 + 1)),(l0_3.set (x6).toNat (be.mk e_12.ap e_12.ak e_12.aI (e_11.ap == 0) e_12.aH))) h)
 exact bD rfl (d4 [0] ht l0 h (by kernel_rfl) (by rfl) rfl)
theorem Nn : ∀ args w,(callFunc 62 args).run Tryz.prog w=.ok (.enter 62 args) w:=enters_of Tryz.func62 (by kernel_rfl) rfl
theorem IG (R:List be) (hp:xl R)  : fj 62 [.sv (.one (.own 0))] [bf 111 be.ty R] [0] (fun (_:Unit)=>True) (fun _=>.tup []) (fun _=>[bf 111 be.ty (eE R)]):=by
 refine (DZ R (fun res_=>res_=eE R) ?_).imp (fun r hr=>⟨(),trivial,by subst hr; rfl,by subst hr; rfl⟩)
 unfold xD
 obtain ⟨hl,hab⟩:=hp
 refine ⟨fun x m=>∃ k:Nat,x=k /\ k <= R.length /\ m=gK R k,fun x _=>R.length - x.toNat,⟨0,rfl,cy _,rfl⟩,?_⟩
 rintro x m ⟨k,rfl,hk,rfl⟩
 refine ⟨fun hb=>?_,fun hb=>?_⟩
 ·have hlt:=dlt hb
  have lt:=lT (l:=R) k
  have la:(fd (gK R k) k).length=R.length:=by rw [lU,lt]
  refine ⟨fun m=>m=fd (gK R k) k,⟨_,ix rfl lt hlt,fun c=>?_,fun c=>?_⟩,?_⟩
  ·have c:=ca c
   have h1:=vd (l:=R) (j:=k) k hk
   have h2:=hab k hlt
   refine ⟨_,ix rfl lt hlt,_,ix rfl lt hlt,_,ix (k:=(gx (gK R k) k).ak.toNat) (by omega) lt (by omega),_,ix rfl lt hlt,?_⟩
   unfold fd
   rw [if_pos c]
   rfl
  ·have c:=cx c
   unfold fd
   rw [if_neg c]
  ·rintro _ rfl
   refine ⟨fun x m=>∃ j:Nat,x=j /\ j <= k /\ m=eC (fd (gK R k) k) k j,fun x _=>k - x.toNat,⟨0,rfl,cy _,rfl⟩,?_⟩
   rintro x m ⟨j,rfl,hj,rfl⟩
   have ls:(eC (fd (gK R k) k) k j).length=R.length:=by rw [iq,la]
   refine ⟨fun hb2=>?_,fun hb2=>?_⟩
   ·have hj2:j < k:=dlt (n:=k) hb2
    refine ⟨fun m=>m=eC (fd (gK R k) k) k (j + 1),⟨_,ix rfl ls (by omega),_,ix rfl ls hlt,fun c=>?_,fun c=>?_⟩,?_⟩
    ·refine ⟨_,ix rfl ls hlt,_,ix rfl ls (by omega),_,ix rfl ls hlt,?_⟩
     rw [eC,if_pos c]
     rfl
    ·rw [eC,if_neg (by rw [c]; simp)]
    ·rintro _ rfl
     exact ⟨⟨j + 1,dj (by omega),hj2,rfl⟩,dQ hj2 (by omega)⟩
   ·have e:j=k:=by have:=dge (n:=k) hb2; omega
    subst e
    exact ⟨_,ix rfl ls hlt,_,ix rfl ls hlt,⟨j + 1,dj (by omega),hlt,rfl⟩,dQ hlt (by omega)⟩
 ·have:=dge hb
  rw [show k=R.length by omega]
  rfl
def xB (R:List be) (i:Int) (Q:(List be) -> Prop):Prop:=
 ∃ (Inv:Int -> (List be) -> Prop) (mu:Int -> (List be) -> Nat),Inv (wr (i + 1)) R /\
 ∀ x4 l0,Inv x4 l0 -> (cv (decide (x4 < (l0.length:Int))) (∃ J:(List be) -> Prop,(∃ e,cq l0 x4=some e /\
 ∃ J_2:Bool -> Prop,(cv (e.ak == i) (J_2 true) (cv (decide (e.ak >= 0)) (∃ e_2,cq l0 e.ak=some e_2 /\
 J_2 (e_2.aF && (decide (e.ak > i)))) (J_2 false))) /\
 (∀ x37,J_2 x37 -> cv x37 (∃ e_3,cq l0 x4=some e_3 /\
 J (l0.set (x4).toNat (be.mk e_3.ap e_3.ak e_3.aI true e_3.aH))) (J l0))) /\
 (∀ l0_2,J l0_2 -> (Inv (wr (x4 + 1)) l0_2 /\ mu (wr (x4 + 1)) l0_2 < mu x4 l0))) (Q l0))
abbrev qb0 (i:Int) (y0:Nat -> Value) (y1):=([bg 0 (.pown 0 (y0 0)),bg 1 (I i),bg 4 (I y1)]:List (Nat × SC))
abbrev qb1 (y0):=([bf 111 be.ty y0]:List br)
theorem DX (R:List be) (i:Int) (Q:(List be) -> Prop) (h:xB R i Q):fj 63 [.sv (.one (.own 0)), .sv (.one (I i))] [bf 111 be.ty R] [0] Q (fun (r:List be)=>.tup []) (fun (r:List be)=>[bf 111 be.ty r]):=by
 have ht:=bA
 refine eZ Tryz.func63 rfl rfl rfl (by kernel_rfl) (fun c Vk hn=>?_)
 unfold xB at h
 refine bk hn ?_
 refine bj (dV h (fun zz=>⟨[bg 0 (.pown 0 (Vk 0)),ba 1 i,ba 4 zz.1],[bf 111 be.ty zz.2]⟩) fun Inv mu x4 l0 h=>?_)
 refine bi (bp (cw ht hn 4 ⟨bG 11 (decide (x4 < (l0.length:Int))) :: (qb0 i Vk x4),(qb1 l0)⟩ ?_))
 refine bv h (fun h=>?_) (fun h=>?_)
 refine bn ?_
 obtain ⟨J,h,hJ⟩:=h
 refine bS (σ:=(List be)) (fun zz=>J zz) (fun zz=>⟨(qb0 i Vk x4),[bf 111 be.ty zz]⟩) ?_ ?_
 refine bj (bp (cN hn 2 ?_))
 obtain ⟨e,he,h⟩:=h
 refine bT hn (iO (T:=be.ty) rfl he) ?_
 refine bT hn (fO (k:=(x4).toNat) rfl) ?_
 refine bT hn (lF (T:=be.ty) (fo:=1) (z:=I e.ak) rfl (bs he).2.2) ?_
 refine bM hn ?_
 obtain ⟨J_2,h,hJ_2⟩:=h
 refine bS (σ:=Bool) (fun zz=>J_2 zz) (fun zz=>⟨[bg 0 (.pown 0 (Vk 0)),ba 1 i,ba 4 x4,bG 37 zz],(qb1 l0)⟩) ?_ ?_
 refine bI (cN hn 4 ?_)
 refine cz (e.ak == i) (fun hb=>?_) (fun hb=>?_)
 replace h:=h.1 hb
 refine cf 22 hb ?_
 refine bM hn ?_
 exact bZ true h
 replace h:=h.2 hb
 refine cf 22 hb ?_
 refine cN hn 3 ?_
 refine cz (decide (e.ak >= 0)) (fun hb=>?_) (fun hb=>?_)
 replace h:=h.1 hb
 refine cf 25 hb ?_
 refine cN hn 2 ?_
 obtain ⟨e_2,he_2,h⟩:=h
 refine bT hn (iO (T:=be.ty) rfl he_2) ?_
 refine bT hn (fO (k:=(e.ak).toNat) rfl) ?_
 refine bT hn (lF (T:=be.ty) (fo:=3) (z:=B e_2.aF) rfl (bs he_2).2.2) ?_
 refine bC ht hn 2 ⟨ba 5 e.ak :: bG 22 false :: bG 32 e_2.aF :: (qb0 i Vk x4),(qb1 l0)⟩ ?_
 refine eB ⟨bG 37 (e_2.aF && (decide (e.ak > i))) :: (qb0 i Vk x4),(qb1 l0)⟩ ?_ ?_
 refine cz e_2.aF (fun hb0=>?_) (fun hb0=>?_)
 refine cf 32 hb0 ?_
 refine bC ht hn 5 ⟨bG 37 (decide (e.ak > i)) :: (qb0 i Vk x4),(qb1 l0)⟩ ?_
 exact bH (sub_ok (by simp only [hb0]; kernel_rfl))
 refine cf 32 hb0 ?_
 refine bC ht hn 5 ⟨bG 37 false :: (qb0 i Vk x4),(qb1 l0)⟩ ?_
 exact bH (sub_ok (by simp only [hb0]; kernel_rfl))
 exact bZ (e_2.aF && (decide (e.ak > i))) h
 replace h:=h.2 hb
 refine cf 25 hb ?_
 refine bM hn ?_
 exact bZ false h
 intro x37 h
 replace h:=hJ_2 _ h
 refine bv h (fun h=>?_) (fun h=>?_)
 refine bI (bC ht hn 2 ⟨bx 38 0 :: ba 39 x4 :: (qb0 i Vk x4),(qb1 l0)⟩ ?_)
 obtain ⟨e_3,he_3,h⟩:=h
 refine fe hn (ic (T:=be.ty) (l:=l0) (k:=x4) ht rfl (by rfl) (by rfl) (by rfl) (by rfl) (by decide) (by rfl) (by rfl) (by rfl) he_3) ?_
 refine fe hn (jd (k:=(x4).toNat) ht rfl (by rfl) (by rfl) (by rfl) (by rfl)) ?_
 refine H8 rfl (by rfl) (kw (T:=be.ty) (l:=l0) (k:=(x4).toNat) (fo:=3) (y:=e_3) (y':=(be.mk e_3.ap e_3.ak e_3.aI true e_3.aH)) (z:=B true) ht rfl (by rfl) (by rfl) (fun _ h=>by cases h) rfl rfl (dM rfl) rfl (by rfl) (fun h=>by cases h) (by rfl) (by rfl) (bs he_3).2.2 (by rfl)) (by rfl) rfl rfl ?_
 exact bH (bZ (l0.set (x4).toNat (be.mk e_3.ap e_3.ak e_3.aI true e_3.aH)) h)
 exact bn (bZ l0 h)
 intro l0_2 h
 replace h:=hJ _ h
 exact cn hn ((wr (x4 + 1)),l0_2) h
 exact bD rfl (d4 [0] ht l0 h (by kernel_rfl) (by rfl) rfl)
theorem Nm : ∀ args w,(callFunc 63 args).run Tryz.prog w=.ok (.enter 63 args) w:=enters_of Tryz.func63 (by kernel_rfl) rfl
theorem IE (R:List be) (i:Int) (hp:xl R /\ 0 <= i /\ i < (R.length:Int))  : fj 63 [.sv (.one (.own 0)), .sv (.one (I i))] [bf 111 be.ty R] [0] (fun (_:Unit)=>True) (fun _=>.tup []) (fun _=>[bf 111 be.ty (ip R i.toNat)]):=by
 refine (DX R i (fun res_=>res_=ip R i.toNat) ?_).imp (fun r hr=>⟨(),trivial,by subst hr; rfl,by subst hr; rfl⟩)
 unfold xB
 obtain ⟨⟨hl,hab⟩,hi0,hi⟩:=hp
 obtain ⟨n,rfl⟩:=kX hi0
 rw [bE]
 refine ⟨fun x m=>∃ k:Nat,x=((n + 1 + k:Nat):Int) /\ n + 1 + k <= R.length /\ m=jD R n k,fun x _=>R.length - x.toNat,⟨0,dj (by omega),by omega,rfl⟩,?_⟩
 rintro x m ⟨k,rfl,hk,rfl⟩
 have lt:=nH (l:=R) (i:=n) k
 refine ⟨fun hb=>?_,fun hb=>?_⟩
 ·have hlt:n + 1 + k < R.length:=by have:=dlt hb; omega
  have h1:=pg (l:=R) (i:=n) (j:=n + 1 + k) k (by omega)
  have h2:=hab _ hlt
  refine ⟨fun m=>m=lp (jD R n k) n (n + 1 + k),⟨_,ix rfl lt hlt,fun b=>b=true ↔ (((gx (jD R n k) (n + 1 + k)).ak == (n:Int))=true \/ (0 <= (gx (jD R n k) (n + 1 + k)).ak /\ ((gx (jD R n k) (gx (jD R n k) (n + 1 + k)).ak.toNat).aF && decide ((gx (jD R n k) (n + 1 + k)).ak > (n:Int)))=true)),⟨fun c=>⟨fun _=>.inl c,fun _=>rfl⟩,fun c=>⟨fun c2=>?_,fun c2=>?_⟩⟩,fun b hb2=>⟨fun c=>?_,fun c=>?_⟩⟩,?_⟩
  ·have c2:=ca c2
   refine ⟨_,ix (k:=(gx (jD R n k) (n + 1 + k)).ak.toNat) (by omega) lt (by omega),?_⟩
   exact ⟨fun h=>.inr ⟨c2,h⟩,fun h=>h.elim (fun h=>by rw [c] at h; cases h) fun h=>h.2⟩
  ·have c2:=cx c2
   exact ⟨fun h=>(by cases h),fun h=>h.elim (fun h=>(by rw [c] at h; cases h)) fun h=>absurd h.1 c2⟩
  ·refine ⟨_,ix rfl lt hlt,?_⟩
   unfold lp
   rw [if_pos (hb2.1 c)]
   rfl
  ·unfold lp
   rw [if_neg fun h=>(by rw [hb2.2 h] at c; cases c)]
  ·rintro _ rfl
   refine ⟨⟨k + 1,dj (by omega),by omega,rfl⟩,?_⟩
   show R.length - (wr (((n + 1 + k:Nat):Int) + 1)).toNat < R.length - (((n + 1 + k:Nat):Int)).toNat
   rw [dj (by omega)]
   omega
 ·have:=dge hb
  unfold ip
  rw [show R.length - (n + 1)=k by omega]
def xq (l:List be) (Q:bc -> Prop):Prop:=
 l.length <= 9223372036854775807 ->
 (∃ (Inv:Int -> bc -> cS -> Prop) (mu:Int -> bc -> cS -> Nat),Inv 0 (bc.mk (bO.mk 0 (cA.mk 0 0 0 0) (cA.mk 0 0 0 0)) 9) (cS.mk 0 0 0 0 0 0 0 0 0 0 0 0) /\
 ∀ x10 y1 y2,Inv x10 y1 y2 -> (cv (decide (x10 < (l.length:Int))) (∃ J:bc -> cS -> Prop,(∃ e,cq l x10=some e /\
 ∃ J_2:bc -> Prop,(cv e.aI (cv e.aF (J_2 (bc.mk y1.ai (if (wr ((wr (2 * x10)) + 1)) < y1.ay then (wr ((wr (2 * x10)) + 1)) else y1.ay))) (cv e.aH (J_2 (bc.mk y1.ai (if (wr ((wr (2 * x10)) + 2)) < y1.ay then (wr ((wr (2 * x10)) + 2)) else y1.ay))) (J_2 y1))) (J_2 y1)) /\
 (∀ y1_3,J_2 y1_3 -> cv e.aF (J y1_3 y2) ((0 <= x10 /\ x10 < 12) /\
 (0 <= y1_3.ai.aC /\ y1_3.ai.aC < 4) /\
 (0 <= y1_3.ai.aC /\ y1_3.ai.aC < 4) /\
 ∃ J_3:bc -> Prop,(cv (decide (e.ak >= 0)) ((0 <= e.ak /\ e.ak < 12) /\
 (0 <= y1_3.ai.aC /\ y1_3.ai.aC < 4) /\
 J_3 (bc.mk (bO.mk y1_3.ai.aC (cA.put y1_3.ai.ap y1_3.ai.aC e.ap) (cA.put (cA.put y1_3.ai.ak y1_3.ai.aC (-1)) y1_3.ai.aC (cW (cS.l (cS.put y2 x10 y1_3.ai.aC)) e.ak))) y1_3.ay)) (J_3 (bc.mk (bO.mk y1_3.ai.aC (cA.put y1_3.ai.ap y1_3.ai.aC e.ap) (cA.put y1_3.ai.ak y1_3.ai.aC (-1))) y1_3.ay))) /\
 (∀ y1_4,J_3 y1_4 -> J (bc.mk (bO.mk (wr (y1_4.ai.aC + 1)) y1_4.ai.ap y1_4.ai.ak) y1_4.ay) (cS.put y2 x10 y1_3.ai.aC))))) /\
 (∀ y1_2 y2_2,J y1_2 y2_2 -> (Inv (wr (x10 + 1)) y1_2 y2_2 /\ mu (wr (x10 + 1)) y1_2 y2_2 < mu x10 y1 y2))) (Q y1)))
abbrev qc0 (u0) (u1) (u2):=(.box [I (cS.put u0 u1 u2).aj,I (cS.put u0 u1 u2).aq,I (cS.put u0 u1 u2).aw,I (cS.put u0 u1 u2).ax,I (cS.put u0 u1 u2).aL,I (cS.put u0 u1 u2).aM,I (cS.put u0 u1 u2).aN,I (cS.put u0 u1 u2).aO,I (cS.put u0 u1 u2).aQ,I (cS.put u0 u1 u2).aR,I (cS.put u0 u1 u2).aU,I (cS.put u0 u1 u2).aV] 125 false:br)
abbrev qc1 := (.box [I 0,I 0,I 0,I 0,I 0,I 0,I 0,I 0,I 0,I 0] 81 false:br)
abbrev qc2 (l:List be) (y0):=([bg 2 (.ptr 0 0),bg 3 (.ptr 1 0),bg 4 (.ptr 2 0),bg 6 (.ptr 3 0),bg 8 (LS be.ty l),bg 9 (I (l.length:Int)),bg 10 (I y0)]:List (Nat × SC))
abbrev qc3 (y0) (y1) (y2) (y3) (y4):=([.gone, .box [I y0,I (cA.put y1 y0 y4).aj,I (cA.put y1 y0 y4).aq,I (cA.put y1 y0 y4).aw,I (cA.put y1 y0 y4).ax,I (cA.put y2 y0 (-1)).aj,I (cA.put y2 y0 (-1)).aq,I (cA.put y2 y0 (-1)).aw,I (cA.put y2 y0 (-1)).ax,I y3] 81 false]:List br)
theorem DM (l:List be) (Q:bc -> Prop) (h:xq l Q):Ct 64 [.sv (.one (LS be.ty l))] [] Q (fun (r:bc)=>.sv (.agg [I r.ai.aC,I r.ai.ap.aj,I r.ai.ap.aq,I r.ai.ap.aw,I r.ai.ap.ax,I r.ai.ak.aj,I r.ai.ak.aq,I r.ai.ak.aw,I r.ai.ak.ax,I r.ay])):=by
 have ht:=bA
 refine Ct.body Tryz.func64 rfl rfl rfl rfl (fun c hn=>?_)
 unfold xq at h
 refine de 0 (by rfl) (fun hl=>?_)
 replace h:=h hl
 clear hl
 refine bk hn ?_
 refine bk hn ?_
 refine bk hn ?_
 refine bi (bk hn ?_)
 refine bj (ma h (fun zz=>⟨[bu 2 0 0,bu 3 1 0,bu 4 2 0,bg 8 (LS be.ty l),ba 9 (l.length:Int),ba 10 zz.1],[qc1, .box (bc.cl zz.2.1) 81 false, .box [I zz.2.2.aj,I zz.2.2.aq,I zz.2.2.aw,I zz.2.2.ax,I zz.2.2.aL,I zz.2.2.aM,I zz.2.2.aN,I zz.2.2.aO,I zz.2.2.aQ,I zz.2.2.aR,I zz.2.2.aU,I zz.2.2.aV] 125 false]⟩) fun Inv mu x10 y1 y2 h=>?_)
 refine bk hn ?_
 refine bi (bv h (fun h=>?_) (fun h=>?_))
 refine bn ?_
 obtain ⟨J,h,hJ⟩:=h
 refine bS (σ:=bc × cS) (fun zz=>J zz.1 zz.2) (fun zz=>⟨[bu 2 0 0,bu 3 1 0,bu 4 2 0,bg 8 (LS be.ty l),ba 9 (l.length:Int),ba 10 x10],[qc1, .box (bc.cl zz.1) 81 false, .box [I zz.2.aj,I zz.2.aq,I zz.2.aw,I zz.2.ax,I zz.2.aL,I zz.2.aM,I zz.2.aN,I zz.2.aO,I zz.2.aQ,I zz.2.aR,I zz.2.aU,I zz.2.aV] 125 false, .gone]⟩) ?_ ?_
 refine bj (bp (cN hn 1 ?_))
 obtain ⟨e,he,h⟩:=h
 refine bT hn (iX (T:=be.ty) rfl he) ?_
 refine bT hn (lD (s:=.agg (be.cl e)) rfl) ?_
 refine bM hn ?_
 obtain ⟨J_2,h,hJ_2⟩:=h
 refine bS (σ:=bc) (fun zz=>J_2 zz) (fun zz=>⟨[bu 2 0 0,bu 3 1 0,bu 4 2 0,ba 5 x10,bu 6 3 0,bg 8 (LS be.ty l),ba 9 (l.length:Int),ba 10 x10],[qc1, .box (bc.cl zz) 81 false, .box [I y2.aj,I y2.aq,I y2.aw,I y2.ax,I y2.aL,I y2.aM,I y2.aN,I y2.aO,I y2.aQ,I y2.aR,I y2.aU,I y2.aV] 125 false, .box (be.cl e) 111 false]⟩) ?_ ?_
 refine bk hn ?_
 refine bv h (fun h=>?_) (fun h=>?_)
 refine bk hn ?_
 refine bv h (fun h=>?_) (fun h=>?_)
 exact cn hn (bc.mk y1.ai (if (wr ((wr (2 * x10)) + 1)) < y1.ay then (wr ((wr (2 * x10)) + 1)) else y1.ay)) h
 refine bk hn ?_
 refine bv h (fun h=>?_) (fun h=>?_)
 exact cn hn (bc.mk y1.ai (if (wr ((wr (2 * x10)) + 2)) < y1.ay then (wr ((wr (2 * x10)) + 2)) else y1.ay)) h
 exact bn (bZ y1 h)
 exact bn (bZ y1 h)
 intro y1_3 h
 replace h:=hJ_2 _ h
 refine bi (bk hn ?_)
 refine bv h (fun h=>?_) (fun h=>?_)
 exact bD rfl (bZ (y1_3,y2) h)
 refine bn (bp (bC ht hn 4 ⟨ba 37 x10 :: ba 40 y1_3.ai.aC :: (qc2 l x10),[qc1, .box (bc.cl y1_3) 81 false, .box [I y2.aj,I y2.aq,I y2.aw,I y2.ax,I y2.aL,I y2.aM,I y2.aN,I y2.aO,I y2.aQ,I y2.aR,I y2.aU,I y2.aV] 125 false, .box (be.cl e) 111 false]⟩ ?_))
 have hk:=h.1
 replace h:=h.2
 refine fe hn (dc (k:=x10) 2 0 (0 + (x10:Int).toNat * 1) ht rfl Tryz.underlying125 (by rfl) (by rfl) (by rfl) (by rfl) hk rfl) ?_
 refine pr (cS.l y2) (k:=x10) (v:=y1_3.ai.aC) (m:=12) 0 ht hn (by rfl) rfl (by rfl) (by rfl) (by rfl) (by rfl) (by rfl) (by rfl) (by rfl) (by rfl) (by omega) (by omega) (by rfl) ?_
 refine bH (bp (bC ht hn 7 ⟨ba 44 y1_3.ai.aC :: ba 46 e.ap :: bu 48 1 1 :: (qc2 l x10),[qc1, .box (bc.cl y1_3) 81 false,qc0 y2 x10 y1_3.ai.aC, .box (be.cl e) 111 false]⟩ ?_))
 have hk_2:=h.1
 replace h:=h.2
 refine fe hn (dc (k:=y1_3.ai.aC) 1 1 (1 + (y1_3.ai.aC:Int).toNat * 1) ht rfl Tryz.underlying74 (by rfl) (by rfl) (by rfl) (by rfl) hk_2 rfl) ?_
 refine pr (cA.l y1_3.ai.ap) (k:=y1_3.ai.aC) (v:=e.ap) (m:=4) 1 ht hn (by rfl) rfl (by rfl) (by rfl) (by rfl) (by rfl) (by rfl) (by rfl) (by rfl) (by rfl) (by omega) (by omega) (by rfl) ?_
 refine bH (bp (bC ht hn 5 ⟨ba 52 y1_3.ai.aC :: bu 54 1 5 :: (qc2 l x10),[qc1, .box [I y1_3.ai.aC,I (cA.put y1_3.ai.ap y1_3.ai.aC e.ap).aj,I (cA.put y1_3.ai.ap y1_3.ai.aC e.ap).aq,I (cA.put y1_3.ai.ap y1_3.ai.aC e.ap).aw,I (cA.put y1_3.ai.ap y1_3.ai.aC e.ap).ax,I y1_3.ai.ak.aj,I y1_3.ai.ak.aq,I y1_3.ai.ak.aw,I y1_3.ai.ak.ax,I y1_3.ay] 81 false,qc0 y2 x10 y1_3.ai.aC, .box (be.cl e) 111 false]⟩ ?_))
 have hk_3:=h.1
 replace h:=h.2
 refine fe hn (dc (k:=y1_3.ai.aC) 1 5 (5 + (y1_3.ai.aC:Int).toNat * 1) ht rfl Tryz.underlying74 (by rfl) (by rfl) (by rfl) (by rfl) hk_3 rfl) ?_
 refine pr (cA.l y1_3.ai.ak) (k:=y1_3.ai.aC) (v:=(-1)) (m:=4) 5 ht hn (by rfl) rfl (by rfl) (by rfl) (by rfl) (by rfl) (by rfl) (by rfl) (by rfl) (by rfl) (by omega) (by omega) (by rfl) ?_
 refine bH ?_
 obtain ⟨J_3,h,hJ_3⟩:=h
 refine bS (σ:=bc) (fun zz=>J_3 zz) (fun zz=>⟨[bu 2 0 0,bu 3 1 0,bu 4 2 0,bg 8 (LS be.ty l),ba 9 (l.length:Int),ba 10 x10],[qc1, .box (bc.cl zz) 81 false,qc0 y2 x10 y1_3.ai.aC, .gone]⟩) ?_ ?_
 refine bk hn ?_
 refine bv h (fun h=>?_) (fun h=>?_)
 have hk_4:=h.1
 replace h:=h.2
 have hk_5:=h.1
 replace h:=h.2
 refine da ⟨(qc2 l x10),[cQ 1 0,cQ 1 0,bq y1_3.ai.aC,cQ 3 1,bq e.ak,o1 (.ptr 2 (0 + (e.ak:Int).toNat * 1)),bq (cW (cS.l (cS.put y2 x10 y1_3.ai.aC)) e.ak),cQ 1 0,cQ 1 5,o1 (.ptr 1 (5 + (y1_3.ai.aC:Int).toNat * 1)),bJ],[bU (qc1),⟨.box [I y1_3.ai.aC,I (cA.put y1_3.ai.ap y1_3.ai.aC e.ap).aj,I (cA.put y1_3.ai.ap y1_3.ai.aC e.ap).aq,I (cA.put y1_3.ai.ap y1_3.ai.aC e.ap).aw,I (cA.put y1_3.ai.ap y1_3.ai.aC e.ap).ax,I (cA.put y1_3.ai.ak y1_3.ai.aC (-1)).aj,I (cA.put y1_3.ai.ak y1_3.ai.aC (-1)).aq,I (cA.put y1_3.ai.ak y1_3.ai.aC (-1)).aw,I (cA.put y1_3.ai.ak y1_3.ai.aC (-1)).ax,I y1_3.ay] 81 false,none,none,some (10, .box [I y1_3.ai.aC,I (cA.put y1_3.ai.ap y1_3.ai.aC e.ap).aj,I (cA.put y1_3.ai.ap y1_3.ai.aC e.ap).aq,I (cA.put y1_3.ai.ap y1_3.ai.aC e.ap).aw,I (cA.put y1_3.ai.ap y1_3.ai.aC e.ap).ax,I (cA.put (cA.put y1_3.ai.ak y1_3.ai.aC (-1)) y1_3.ai.aC (cW (cS.l (cS.put y2 x10 y1_3.ai.aC)) e.ak)).aj,I (cA.put (cA.put y1_3.ai.ak y1_3.ai.aC (-1)) y1_3.ai.aC (cW (cS.l (cS.put y2 x10 y1_3.ai.aC)) e.ak)).aq,I (cA.put (cA.put y1_3.ai.ak y1_3.ai.aC (-1)) y1_3.ai.aC (cW (cS.l (cS.put y2 x10 y1_3.ai.aC)) e.ak)).aw,I (cA.put (cA.put y1_3.ai.ak y1_3.ai.aC (-1)) y1_3.ai.aC (cW (cS.l (cS.put y2 x10 y1_3.ai.aC)) e.ak)).ax,I y1_3.ay] 81 false)⟩,bU (qc0 y2 x10 y1_3.ai.aC),bU (.box (be.cl e) 111 false)]⟩ hn ?_ ?_
 exact ⟨.e,
 .e,
 .e,
 .e,
 .e,
 .vl ⟨[bu 4 2 0,ba 63 e.ak],[.gone, .gone,qc0 y2 x10 y1_3.ai.aC]⟩ (bX (dc (k:=e.ak) 2 0 (0 + (e.ak:Int).toNat * 1) ht rfl Tryz.underlying125 (by rfl) (by rfl) (by rfl) (by rfl) hk_4 rfl)),
 .vl ⟨[bg 64 (.ptr 2 (0 + (e.ak:Int).toNat * 1))],[.gone, .gone,qc0 y2 x10 y1_3.ai.aC]⟩ (bX (mm (cS.l (cS.put y2 x10 y1_3.ai.aC)) (k:=e.ak) (m:=12) 0 ht rfl (by rfl) (by rfl) (by rfl) (by rfl) (by rfl) (by rfl) (by rfl) (by omega) (by omega))),
 .e,
 .e,
 .vl ⟨[ba 61 y1_3.ai.aC,bu 67 1 5],(qc3 y1_3.ai.aC y1_3.ai.ap y1_3.ai.ak y1_3.ay e.ap)⟩ (bX (dc (k:=y1_3.ai.aC) 1 5 (5 + (y1_3.ai.aC:Int).toNat * 1) ht rfl Tryz.underlying74 (by rfl) (by rfl) (by rfl) (by rfl) hk_5 rfl)),
 .mu ⟨[ba 65 (cW (cS.l (cS.put y2 x10 y1_3.ai.aC)) e.ak),bg 68 (.ptr 1 (5 + (y1_3.ai.aC:Int).toNat * 1))],(qc3 y1_3.ai.aC y1_3.ai.ap y1_3.ai.ak y1_3.ay e.ap)⟩ 1 _ _ rfl rfl (by kernel_rfl) (by rfl) (uJ (cA.l (cA.put y1_3.ai.ak y1_3.ai.aC (-1))) (k:=y1_3.ai.aC) (v:=(cW (cS.l (cS.put y2 x10 y1_3.ai.aC)) e.ak)) (m:=4) 5 ht rfl (by rfl) (by rfl) (by rfl) (by rfl) (by rfl) (by rfl) (by rfl) (by rfl) (by omega) (by omega)) rfl rfl rfl rfl rfl rfl rfl,
 trivial⟩
 exact bZ (bc.mk (bO.mk y1_3.ai.aC (cA.put y1_3.ai.ap y1_3.ai.aC e.ap) (cA.put (cA.put y1_3.ai.ak y1_3.ai.aC (-1)) y1_3.ai.aC (cW (cS.l (cS.put y2 x10 y1_3.ai.aC)) e.ak))) y1_3.ay) h
 exact bn (bZ (bc.mk (bO.mk y1_3.ai.aC (cA.put y1_3.ai.ap y1_3.ai.aC e.ap) (cA.put y1_3.ai.ak y1_3.ai.aC (-1))) y1_3.ay) h)
 intro y1_4 h
 replace h:=hJ_3 _ h
 exact cn hn ((bc.mk (bO.mk (wr (y1_4.ai.aC + 1)) y1_4.ai.ap y1_4.ai.ak) y1_4.ay),(cS.put y2 x10 y1_3.ai.aC)) h
 rintro ⟨y1_2,y2_2⟩ h
 replace h:=hJ _ _ h
 exact cn hn ((wr (x10 + 1)),y1_2,y2_2) h
 exact bD rfl (cD hn y1 h)
theorem Nl : ∀ args w,(callFunc 64 args).run Tryz.prog w=.ok (.enter 64 args) w:=enters_of Tryz.func64 (by kernel_rfl) rfl
theorem Iv (l:List be) (hp:zy l)  : Ct 64 [.sv (.one (LS be.ty l))] [] (fun (_:Unit)=>True) (fun _=>.sv (.agg [I (eF l).ai.aC,I (eF l).ai.ap.aj,I (eF l).ai.ap.aq,I (eF l).ai.ap.aw,I (eF l).ai.ap.ax,I (eF l).ai.ak.aj,I (eF l).ai.ak.aq,I (eF l).ai.ak.aw,I (eF l).ai.ak.ax,I (eF l).ay])):=by
 refine (DM l (fun res_=>res_=(eF l)) ?_).fun
 unfold xq
 intro _
 have hlen:=hp.len
 refine ⟨fun x p w=>∃ k:Nat,x=k /\ k <= l.length /\ (p,w)=mM l k,fun x _ _=>l.length - x.toNat,⟨0,rfl,cy _,rfl⟩,?_⟩
 rintro x p w ⟨k,rfl,hk,he⟩
 refine ⟨fun hb=>?_,fun hb=>?_⟩
 ·have hlt:=dlt hb
  have w1:wr (wr (2 * (k:Int)) + 1)=2 * k + 1:=by rw [bL (n:=2 * (k:Int)) (by omega) (by omega),bL (by omega) (by omega)]
  have w2:wr (wr (2 * (k:Int)) + 2)=2 * k + 2:=by rw [bL (n:=2 * (k:Int)) (by omega) (by omega),bL (by omega) (by omega)]
  refine ⟨fun p' w'=>(p',w')=mM l (k + 1),⟨_,ix rfl rfl hlt,fun p'=>p'=⟨p.ai,kZ (gx l k) k p.ay⟩,⟨fun c1=>⟨fun c2=>?_,fun c2=>⟨fun c3=>?_,fun c3=>?_⟩⟩,fun c1=>?_⟩,?_⟩,?_⟩
  ·unfold kZ
   rw [if_pos c1,if_pos c2,w1]
   rfl
  ·unfold kZ
   rw [if_pos c1,if_neg (by rw [c2]; simp),if_pos c3,w2]
   rfl
  ·unfold kZ
   rw [if_pos c1,if_neg (by rw [c2]; simp),if_neg (by rw [c3]; simp)]
  ·unfold kZ
   rw [if_neg (by rw [c1]; simp)]
  ·rintro _ rfl
   refine ⟨fun c=>?_,fun c=>?_⟩
   ·rw [mM,<- he,Gt,if_pos c]
   ·obtain ⟨f1,f2⟩:=hp.few k hlt c
    rw [<- he] at f1 f2
    have f1:0 <= p.ai.aC:=f1
    have f2:p.ai.aC < 4:=f2
    have hab:=hp.above k hlt
    refine ⟨⟨by omega,by omega⟩,⟨f1,f2⟩,⟨f1,f2⟩,fun p'=>p'=⟨⟨p.ai.aC,cA.put p.ai.ap p.ai.aC (gx l k).ap,if 0 <= (gx l k).ak then cA.put (cA.put p.ai.ak p.ai.aC (-1)) p.ai.aC (cW (cS.l (cS.put w k p.ai.aC)) (gx l k).ak) else cA.put p.ai.ak p.ai.aC (-1)⟩,kZ (gx l k) k p.ay⟩,⟨fun c2=>?_,fun c2=>?_⟩,?_⟩
    ·have c2:=ca c2
     refine ⟨⟨c2,hab⟩,⟨f1,f2⟩,?_⟩
     rw [if_pos c2]
    ·have c2:=cx c2
     rw [if_neg c2]
    ·rintro _ rfl
     show (bc.mk (bO.mk (wr (p.ai.aC + 1)) _ _) _,_)=_
     rw [bL (by omega) (by omega),mM,<- he,Gt,if_neg (show ¬ (gx l k).aF=true by rw [c]; simp)]
  ·intro p' w' h
   exact ⟨⟨k + 1,dj (by omega),hlt,h⟩,dQ hlt (by omega)⟩
 ·have:=dge hb
  unfold eF
  rw [show l.length=k by omega,<- he]
theorem iJ {α:Type}:∀ {l m:List α},l.Nodup -> (∀ x ∈ l,x ∈ m) -> l.length <= m.length
 | [],_,_,_=>cy _
 | x :: l,m,hn,h=>by
  rw [oM] at hn
  obtain ⟨s,t,rfl⟩:=List.append_of_mem (h x fD)
  have:=iJ (l:=l) (m:=s ++ t) hn.2 fun y hy=>by
   have h1:=h y (d7 _ hy)
   rw [gO,eh] at h1
   rw [gO]
   rcases h1 with h1 | rfl | h1
   ·exact .inl h1
   ·exact absurd hy hn.1
   ·exact .inr h1
  simp only [di,dq] at this ⊢
  omega
theorem mA {α:Type} [DecidableEq α] {x:α}:∀ {l r:List α},x ∈ l -> (l ++ r).idxOf x=l.idxOf x
 | [],_,h=>by simp at h
 | y :: l,r,h=>by
  rw [List.cons_append,List.idxOf_cons,List.idxOf_cons]
  by_cases e:y=x
  ·simp [e]
  ·have hm:x ∈ l:=by
    rcases eh.1 h with h | h
    ·exact absurd h.symm e
    ·exact h
   simp [e,mA (r:=r) hm]
theorem wO {α β:Type} [DecidableEq α] [DecidableEq β] {φ:α -> β} {x:α}:∀ {l:List α},(∀ y ∈ l,φ y=φ x -> y=x) -> (l.map φ).idxOf (φ x)=l.idxOf x
 | [],_=>rfl
 | y :: l,h=>by
  rw [gu,List.idxOf_cons,List.idxOf_cons]
  have ih:=wO (l:=l) fun z hz=>h z (d7 _ hz)
  by_cases e:y=x
  ·simp [e]
  ·have:φ y ≠ φ x:=fun e2=>e (h y fD e2)
   rw [show (φ y == φ x)=false by simpa using this,show (y == x)=false by simpa using e]
   simp [ih]
section
variable {K:Type} [DecidableEq K]
def dw (go:K -> Nat -> K) (k:K):Nat -> List K -> List K
 | 0,l=>l
 | n + 1,l=>if go k n ∈ dw go k n l then dw go k n l else dw go k n l ++ [go k n]
def dH (go:K -> Nat -> K) (L:Nat) (k0:K):Nat -> List K
 | 0=>[k0]
 | i + 1=>match (dH go L k0 i)[i]? with
  | some k=>dw go k L (dH go L k0 i)
  | none=>dH go L k0 i
variable {go:K -> Nat -> K} {mark:K -> Int} {L:Nat} {k0:K} {P:K -> Prop}
theorem pb (k:K):∀ (n:Nat) (l:List K),∃ r,dw go k n l=l ++ r
 | 0,l=>⟨[],by simp [dw]⟩
 | n + 1,l=>by
  obtain ⟨r,hr⟩:=pb k n l
  rw [dw]
  split
  ·exact ⟨r,hr⟩
  ·exact ⟨r ++ [go k n],by rw [hr,fE]⟩
theorem pT {k:K}:∀ {n:Nat} {l:List K},l.Nodup -> (dw go k n l).Nodup
 | 0,_,h=>h
 | n + 1,l,h=>by
  have ih:=pT (k:=k) (n:=n) h
  rw [dw]
  split
  ·exact ih
  ·rename_i hm
   rw [List.nodup_append]
   exact ⟨ih,by simp,fun x hx y hy=>by simp at hy; subst hy; exact fun e=>hm (e ▸ hx)⟩
theorem jm {k x:K}:∀ {n:Nat} {l:List K},x ∈ dw go k n l ↔ x ∈ l \/ ∃ a,a < n /\ go k a=x
 | 0,l=>by simp [dw]
 | n + 1,l=>by
  have ih:=jm (k:=k) (x:=x) (n:=n) (l:=l)
  have key:x ∈ dw go k (n + 1) l ↔ x ∈ dw go k n l \/ go k n=x:=by
   rw [dw]
   split
   ·rename_i hm
    constructor
    ·exact .inl
    ·rintro (h | rfl)
     ·exact h
     ·exact hm
   ·rw [gO,et]
    constructor
    ·rintro (h | rfl)
     ·exact .inl h
     ·exact .inr rfl
    ·rintro (h | rfl)
     ·exact .inl h
     ·exact .inr rfl
  rw [key,ih]
  constructor
  ·rintro ((h | ⟨a,h1,h2⟩) | h)
   ·exact .inl h
   ·exact .inr ⟨a,by omega,h2⟩
   ·exact .inr ⟨n,by omega,h⟩
  ·rintro (h | ⟨a,h1,h2⟩)
   ·exact .inl (.inl h)
   ·by_cases e:a=n
    ·subst e; exact .inr h2
    ·exact .inl (.inr ⟨a,by omega,h2⟩)
theorem Fa (i:Nat):∃ r,dH go L k0 (i + 1)=dH go L k0 i ++ r:=by
 rw [dH]
 split
 ·exact pb _ _ _
 ·exact ⟨[],by simp⟩
theorem nD {i:Nat}:∀ {j:Nat},i <= j -> ∃ r,dH go L k0 j=dH go L k0 i ++ r
 | 0,h=>by
  obtain rfl:i=0:=by omega
  exact ⟨[],by simp⟩
 | j + 1,h=>by
  by_cases e:i=j + 1
  ·subst e; exact ⟨[],by simp⟩
  ·obtain ⟨r,hr⟩:=nD (i:=i) (j:=j) (by omega)
   obtain ⟨r2,hr2⟩:=Fa (go:=go) (L:=L) (k0:=k0) j
   exact ⟨r ++ r2,by rw [hr2,hr,fE]⟩
theorem mD : ∀ {i:Nat},(dH go L k0 i).Nodup
 | 0=>by simp [dH]
 | i + 1=>by
  rw [dH]
  split
  ·exact pT mD
  ·exact mD
theorem ke {i:Nat} (h:(dH go L k0 i).length <= i):∀ {j:Nat},i <= j -> dH go L k0 j=dH go L k0 i
 | 0,hj=>by
  obtain rfl:i=0:=by omega
  rfl
 | j + 1,hj=>by
  by_cases e:i=j + 1
  ·subst e; rfl
  ·have ih:=ke h (j:=j) (by omega)
   rw [dH,ih,ko (by omega)]
theorem Hx {n m:Nat} (hn:(dH go L k0 n).length=n) (hm:(dH go L k0 m).length=m):dH go L k0 n=dH go L k0 m:=by
 rcases Nat.le_total n m with h | h
 ·exact (ke (by omega) h).symm
 ·exact ke (by omega) h
theorem wT {i j:Nat} (h:i <= j):(dH go L k0 i).length <= (dH go L k0 j).length:=by
 obtain ⟨r,hr⟩:=nD (go:=go) (L:=L) (k0:=k0) h
 rw [hr,di]
 omega
theorem jZ (h0:P k0) (hP:∀ k a,P k -> a < L -> P (go k a)):∀ {i:Nat} {k:K},k ∈ dH go L k0 i -> P k
 | 0,k,h=>by
  simp [dH] at h
  exact h ▸ h0
 | i + 1,k,h=>by
  rw [dH] at h
  split at h
  ·rename_i q hq
   rcases jm.1 h with h | ⟨a,ha,rfl⟩
   ·exact jZ h0 hP h
   ·exact hP _ _ (jZ h0 hP (dC hq)) ha
  ·exact jZ h0 hP h
theorem BQ (i:Nat):(dH go L k0 i)[0]? = some k0:=by
 obtain ⟨r,hr⟩:=nD (go:=go) (L:=L) (k0:=k0) (cy i)
 rw [hr]
 simp [dH]
theorem Hy {n j:Nat} {k:K} (hj:j < n) (hk:(dH go L k0 n)[j]? = some k):(dH go L k0 j)[j]? = some k:=by
 obtain ⟨r,hr⟩:=nD (go:=go) (L:=L) (k0:=k0) (Nat.le_of_lt hj)
 by_cases h:j < (dH go L k0 j).length
 ·rw [hr,mV h] at hk
  exact hk
 ·have e:=ke (go:=go) (L:=L) (k0:=k0) (i:=j) (by omega) (j:=n) (by omega)
  rw [e,ko (by omega)] at hk
  cases hk
theorem AO {n:Nat} (hn:(dH go L k0 n).length=n) {k:K} (hk:k ∈ dH go L k0 n) {a:Nat} (ha:a < L):go k a ∈ dH go L k0 n:=by
 obtain ⟨j,hj⟩:=iB hk
 have hlt:j < n:=by
  have:=(cg.1 hj).1
  omega
 have h1:=Hy hlt hj
 obtain ⟨r,hr⟩:=nD (go:=go) (L:=L) (k0:=k0) (show j + 1 <= n from hlt)
 rw [hr]
 refine kp _ ?_
 rw [dH,h1]
 exact jm.2 (.inr ⟨a,ha,rfl⟩)
theorem wU {m:List K} (h0:k0 ∈ m) (hP:∀ k a,k ∈ m -> a < L -> go k a ∈ m):∃ n,(dH go L k0 n).length=n /\ n <= m.length:=by
 have hall:∀ i,(dH go L k0 i).length <= m.length:=fun i=>iJ mD fun x hx=>jZ (P:=fun k=>k ∈ m) h0 hP hx
 by_cases h:∃ n,n <= m.length /\ (dH go L k0 n).length <= n
 ·obtain ⟨n,h1,h2⟩:=h
  have h3:(dH go L k0 (dH go L k0 n).length).length <= (dH go L k0 n).length:=wT h2
  have h4:=ke h3 h2
  exact ⟨(dH go L k0 n).length,by rw [<- h4],hall n⟩
 ·exfalso
  have:=hall m.length
  exact h ⟨m.length,bP _,this⟩
def jQ (go:K -> Nat -> K) (L:Nat) (l:List K) (k:K):List Int:=(List.range L).map fun a=>(l.idxOf (go k a):Int)
def lS (go:K -> Nat -> K) (mark:K -> Int) (L:Nat) (l:List K):bz:=⟨L,0,l.map (jQ go L l),l.map mark⟩
open Classical in
def oH (go:K -> Nat -> K) (L:Nat) (k0:K):List K:=if h:∃ n,(dH go L k0 n).length=n then dH go L k0 h.choose else [k0]
theorem pZ {n:Nat} (h:(dH go L k0 n).length=n):oH go L k0=dH go L k0 n:=by
 unfold oH
 have hx:∃ n,(dH go L k0 n).length=n:=⟨n,h⟩
 rw [dif_pos hx]
 exact Hx hx.choose_spec h
def iR (go:K -> Nat -> K) (mark:K -> Int) (L:Nat) (k0:K):bz:=lS go mark L (oH go L k0)
open Classical in
def dh (go:K -> Nat -> K) (mark:K -> Int) (L:Nat) (k0:K) (limit:Int):bz × Bool:=
 if ∃ n:Nat,(dH go L k0 n).length=n /\ (n:Int) <= limit then (iR go mark L k0,true) else (⟨0,0,[],[]⟩,false)
theorem uX {limit:Int} {m:List K} (h0:k0 ∈ m) (hP:∀ k a,k ∈ m -> a < L -> go k a ∈ m) (hl:(m.length:Int) <= limit):dh go mark L k0 limit=(iR go mark L k0,true):=by
 obtain ⟨n,h1,h2⟩:=wU (L:=L) h0 hP
 unfold dh
 rw [if_pos ⟨n,h1,by omega⟩]
section
variable {K':Type} [DecidableEq K'] {go':K' -> Nat -> K'} {mark':K' -> Int} {φ:K -> K'}
theorem uU (inj:∀ x y,P x -> P y -> φ x=φ y -> x=y) (hg:∀ k a,P k -> a < L -> φ (go k a)=go' (φ k) a) (hP:∀ k a,P k -> a < L -> P (go k a)) {k:K} (hk:P k):∀ {n:Nat} {l:List K},n <= L -> (∀ x ∈ l,P x) -> dw go' (φ k) n (l.map φ)=(dw go k n l).map φ
 | 0,l,_,_=>rfl
 | n + 1,l,hn,hl=>by
  have ih:=uU inj hg hP hk (n:=n) (l:=l) (by omega) hl
  have hin:∀ x ∈ dw go k n l,P x:=fun x hx=>by
   rcases jm.1 hx with h | ⟨a,ha,rfl⟩
   ·exact hl x h
   ·exact hP k a hk (by omega)
  have hmem:go' (φ k) n ∈ (dw go k n l).map φ ↔ go k n ∈ dw go k n l:=by
   rw [<- hg k n hk (by omega),cP]
   constructor
   ·rintro ⟨x,hx,e⟩
    exact inj _ _ (hin x hx) (hP k n hk (by omega)) e ▸ hx
   ·exact fun h=>⟨_,h,rfl⟩
  rw [dw,dw,ih]
  by_cases h:go k n ∈ dw go k n l
  ·rw [if_pos h,if_pos (hmem.2 h)]
  ·rw [if_neg h,if_neg (fun e=>h (hmem.1 e)),jJ,gu,List.map_nil,hg k n hk (by omega)]
theorem pY (h0:P k0) (inj:∀ x y,P x -> P y -> φ x=φ y -> x=y) (hg:∀ k a,P k -> a < L -> φ (go k a)=go' (φ k) a) (hP:∀ k a,P k -> a < L -> P (go k a)):∀ {i:Nat},dH go' L (φ k0) i=(dH go L k0 i).map φ
 | 0=>rfl
 | i + 1=>by
  rw [dH,dH,pY h0 inj hg hP,cY]
  cases hk:(dH go L k0 i)[i]? with
  | none=>rfl
  | some k =>
   show dw go' (φ k) L _=_
   exact uU inj hg hP (jZ h0 hP (dC hk)) (bP _) fun x hx=>jZ h0 hP hx
theorem Fb (h0:P k0) (inj:∀ x y,P x -> P y -> φ x=φ y -> x=y) (hg:∀ k a,P k -> a < L -> φ (go k a)=go' (φ k) a) (hP:∀ k a,P k -> a < L -> P (go k a)):oH go' L (φ k0)=(oH go L k0).map φ:=by
 by_cases h:∃ n,(dH go L k0 n).length=n
 ·obtain ⟨n,hn⟩:=h
  rw [pZ hn,pZ (n:=n) (by rw [pY h0 inj hg hP,df]; exact hn),pY h0 inj hg hP]
 ·have h':¬ ∃ n,(dH go' L (φ k0) n).length=n:=fun ⟨n,hn⟩=>h ⟨n,by rw [pY h0 inj hg hP,df] at hn; exact hn⟩
  unfold oH
  rw [dif_neg h,dif_neg h']
  rfl
theorem AP (h0:P k0) (hP:∀ k a,P k -> a < L -> P (go k a)) {k:K} (hk:k ∈ oH go L k0):P k:=by
 unfold oH at hk
 split at hk
 ·exact jZ h0 hP hk
 ·simp at hk
  exact hk ▸ h0
theorem Fc (h0:P k0) (inj:∀ x y,P x -> P y -> φ x=φ y -> x=y) (hg:∀ k a,P k -> a < L -> φ (go k a)=go' (φ k) a) (hP:∀ k a,P k -> a < L -> P (go k a)) (hm:∀ k,P k -> mark' (φ k)=mark k):iR go' mark' L (φ k0)=iR go mark L k0:=by
 unfold iR lS
 rw [Fb h0 inj hg hP,kk,kk]
 have hin:∀ k ∈ oH go L k0,P k:=fun k hk=>AP h0 hP hk
 refine congr (cZ _ (jc fun k hk=>?_)) (jc fun k hk=>hm k (hin k hk))
 show jQ go' L _ (φ k)=jQ go L _ k
 unfold jQ
 refine jc fun a ha=>?_
 have ha:a < L:=d6.1 ha
 have hk:=hin k hk
 rw [<- hg k a hk ha,wO fun y hy e=>inj _ _ (hin y hy) (hP k a hk ha) e]
end
end
abbrev kF := List Nat -> Int
instance MN : DecidableEq kF:=fun _ _=>Classical.propDecidable _
def rs (L:Nat) (r:kF):kF:=fun w=>if ∀ a ∈ w,a < L then r w else 0
theorem nc {L:Nat} {r s:kF} (h:∀ w,(∀ a ∈ w,a < L) -> r w=s w):rs L r=rs L s:=by
 funext w
 unfold rs
 split
 ·rename_i hw
  exact h w hw
 ·rfl
def der (r:kF) (a:Nat):kF:=fun w=>r (a :: w)
theorem Jp {L:Nat} {r:kF} {a:Nat} (ha:a < L) {w:List Nat}:rs L r (a :: w)=rs L (der r a) w:=by
 unfold rs
 by_cases h:∀ b ∈ w,b < L
 ·rw [if_pos h,if_pos (show ∀ b ∈ a :: w,b < L from fun b hb=>(eh.1 hb).elim (fun e=>e ▸ ha) (h b))]
  rfl
 ·rw [if_neg h,if_neg (fun e=>h fun b hb=>e b (d7 _ hb))]
theorem BW {L:Nat} {r:kF} {a:Nat} (ha:a < L):der (rs L r) a=rs L (der r a):=funext fun _=>Jp ha
theorem Aa {L:Nat} {r s:kF} (h:rs L r=rs L s) {w:List Nat} (hw:∀ a ∈ w,a < L):r w=s w:=by
 have:=congrFun h w
 unfold rs at this
 rw [if_pos hw,if_pos hw] at this
 exact this
def eX (L:Nat) (r:kF):bz:=iR der (fun r=>r []) L (rs L r)
theorem nL {L:Nat} {r s:kF} (h:∀ w,(∀ a ∈ w,a < L) -> r w=s w):eX L r=eX L s:=by
 unfold eX
 rw [nc h]
section
variable {K:Type} [DecidableEq K] {go:K -> Nat -> K} {mark:K -> Int} {L:Nat} {k0:K} {P:K -> Prop}
def iL (go:K -> Nat -> K) (mark:K -> Int) (k:K):kF:=fun w=>mark (w.foldl go k)
theorem HL {k:K} {a:Nat} (ha:a < L):rs L (iL go mark (go k a))=der (rs L (iL go mark k)) a:=by
 rw [BW ha]
 rfl
theorem HR (h0:P k0) (hP:∀ k a,P k -> a < L -> P (go k a)) (inj:∀ x y,P x -> P y -> rs L (iL go mark x)=rs L (iL go mark y) -> x=y):iR go mark L k0=eX L (iL go mark k0):=by
 unfold eX
 refine (Fc (φ:=fun k=>rs L (iL go mark k)) h0 inj (fun k a _ ha=>HL ha) hP fun k _=>?_).symm
 show rs L (iL go mark k) []=_
 unfold rs
 rw [if_pos (fun b hb=>by simp at hb)]
 rfl
end
def im (d:bz) (q:Nat) (a:Nat):Nat:=((d.aa.getD q []).getD a 0).toNat
def fH (d:bz) (q:Nat):kF:=fun w=>d.ay.getD (w.foldl (im d) q) 0
section
variable {K:Type} [DecidableEq K] {go:K -> Nat -> K} {mark:K -> Int} {L:Nat} {k0:K} {P:K -> Prop}
theorem yH {α:Type} {l:List α} {i:Nat} {d x:α} (h:l[i]? = some x):l.getD i d=x:=by simp [h]
theorem wQ {l:List K} {k:K} (h:k ∈ l):l[l.idxOf k]? = some k:=by
 rw [cO (List.idxOf_lt_length_of_mem h)]
 simp
theorem BU {l:List K} {k:K} (hk:k ∈ l) {a:Nat} (ha:a < L):im (lS go mark L l) (l.idxOf k) a=l.idxOf (go k a):=by
 unfold im lS
 have h1:(l.map (jQ go L l)).getD (l.idxOf k) []=jQ go L l k:=yH (by rw [cY,wQ hk]; rfl)
 have h2:(jQ go L l k).getD a 0=(l.idxOf (go k a):Int):=yH (by unfold jQ; rw [cY,List.getElem?_range ha]; rfl)
 show (((l.map (jQ go L l)).getD (l.idxOf k) []).getD a 0).toNat=_
 rw [h1,h2]
 simp
theorem wY {l:List K} (hcl:∀ k ∈ l,∀ a,a < L -> go k a ∈ l):∀ {w:List Nat} {k:K},k ∈ l -> (∀ a ∈ w,a < L) -> w.foldl (im (lS go mark L l)) (l.idxOf k)=l.idxOf (w.foldl go k)
 | [],k,hk,_=>rfl
 | a :: w,k,hk,hw=>by
  have ha:=hw a fD
  rw [List.foldl_cons,List.foldl_cons,BU hk ha,wY hcl (hcl k hk a ha) fun b hb=>hw b (d7 _ hb)]
theorem AL {l:List K} (hcl:∀ k ∈ l,∀ a,a < L -> go k a ∈ l):∀ {w:List Nat} {k:K},k ∈ l -> (∀ a ∈ w,a < L) -> w.foldl go k ∈ l
 | [],k,hk,_=>hk
 | a :: w,k,hk,hw=>AL (w:=w) (k:=go k a) hcl (hcl k hk a (hw a fD)) fun b hb=>hw b (d7 _ hb)
theorem BV {l:List K} (hcl:∀ k ∈ l,∀ a,a < L -> go k a ∈ l) {k:K} (hk:k ∈ l) {w:List Nat} (hw:∀ a ∈ w,a < L):fH (lS go mark L l) (l.idxOf k) w=iL go mark k w:=by
 unfold fH iL
 rw [wY hcl hk hw]
 refine yH ?_
 show (l.map mark)[_]? = _
 rw [cY,wQ (AL hcl hk hw)]
 rfl
theorem kP {m:List K} (h0:k0 ∈ m) (hP:∀ k a,k ∈ m -> a < L -> go k a ∈ m):∃ l:List K,oH go L k0=l /\ l.Nodup /\ (∀ k ∈ l,k ∈ m) /\ l.length <= m.length /\ l[0]? = some k0 /\ ∀ k ∈ l,∀ a,a < L -> go k a ∈ l:=by
 obtain ⟨n,h1,h2⟩:=wU (L:=L) h0 hP
 exact ⟨_,pZ h1,mD,fun k hk=>jZ (P:=fun k=>k ∈ m) h0 hP hk,by omega,BQ n,fun k hk a ha=>AO h1 hk ha⟩
theorem AI {l:List K} (h:l[0]? = some k0):l.idxOf k0=0:=by
 cases l with
 | nil=>simp at h
 | cons x l=>simp at h; simp [h]
theorem uY {m:List K} (h0:k0 ∈ m) (hP:∀ k a,k ∈ m -> a < L -> go k a ∈ m) {w:List Nat} (hw:∀ a ∈ w,a < L):fH (iR go mark L k0) 0 w=iL go mark k0 w:=by
 obtain ⟨l,e,_,_,_,h1,h2⟩:=kP (L:=L) h0 hP
 unfold iR
 rw [e]
 have:=BV (mark:=mark) h2 (dC h1) hw
 rw [AI h1] at this
 exact this
end
structure Wf (d:bz):Prop where
 letters:0 <= d.ae
 rows:∀ r ∈ d.aa,r.length=d.ae.toNat
 next:∀ r ∈ d.aa,∀ x ∈ r,0 <= x /\ x < (d.aa.length:Int)
 start:0 <= d.af /\ d.af < (d.aa.length:Int)
 mark:d.ay.length=d.aa.length
section
variable {K:Type} [DecidableEq K] {go:K -> Nat -> K} {mark:K -> Int} {L:Nat} {k0:K} {P:K -> Prop}
theorem AQ {m:List K} (h0:k0 ∈ m) (hP:∀ k a,k ∈ m -> a < L -> go k a ∈ m):Wf (iR go mark L k0):=by
 obtain ⟨l,e,_,_,_,h1,h2⟩:=kP (L:=L) h0 hP
 unfold iR
 rw [e]
 refine ⟨by simp [lS],?_,?_,?_,by simp [lS]⟩
 ·intro r hr
  obtain ⟨k,_,rfl⟩:=cP.1 hr
  simp [jQ,lS]
 ·intro r hr x hx
  obtain ⟨k,hk,rfl⟩:=cP.1 hr
  obtain ⟨a,ha,rfl⟩:=cP.1 hx
  have:=List.idxOf_lt_length_of_mem (h2 k hk a (d6.1 ha))
  simp only [lS,df]
  omega
 ·have:0 < l.length:=(cg.1 h1).1
  simp only [lS,df]
  omega
theorem sM {m:List K} (h0:k0 ∈ m) (hP:∀ k a,k ∈ m -> a < L -> go k a ∈ m):(iR go mark L k0).aa.length <= m.length:=by
 obtain ⟨l,e,_,_,h3,_⟩:=kP (L:=L) h0 hP
 unfold iR
 rw [e]
 simpa [lS] using h3
theorem AR {Q:Int -> Prop} {m:List K} (h0:k0 ∈ m) (hP:∀ k a,k ∈ m -> a < L -> go k a ∈ m) (hQ:∀ k ∈ m,Q (mark k)):∀ x ∈ (iR go mark L k0).ay,Q x:=fun x hx=>by
 obtain ⟨l,e,_,h4,_⟩:=kP (L:=L) h0 hP
 unfold iR at hx
 rw [e] at hx
 obtain ⟨k,hk,rfl⟩:=cP.1 hx
 exact hQ k (h4 k hk)
end
end
end Go.Proofs.YtmdbjpljlniloaaGreat
namespace Go.Proofs.YtmdbjpljlniloaaGreat
set_option maxRecDepth 100000
noncomputable section
inductive Rn (stp:Nat -> Int -> Int -> Prop) (t:Nat) (p:Int):Nat -> Int -> Prop where
 | nil:Rn stp t p t p
 | step {t':Nat} {q r:Int}:Rn stp t p t' q -> stp t' q r -> Rn stp t p (t' + 1) r
theorem Rn.le {stp:Nat -> Int -> Int -> Prop} {t:Nat} {p:Int} {t':Nat} {q:Int} (h:Rn stp t p t' q):t <= t':=by
 induction h with
 | nil=>exact bP _
 | step _ _ ih=>omega
theorem Rn.trans {stp:Nat -> Int -> Int -> Prop} {t:Nat} {p:Int} {t':Nat} {q:Int} (h:Rn stp t p t' q) {t'':Nat} {r:Int} (h2:Rn stp t' q t'' r):Rn stp t p t'' r:=by
 induction h2 with
 | nil=>exact h
 | step _ hx ih=>exact .step ih hx
theorem Rn.shift {stp:Nat -> Int -> Int -> Prop} {d t t0:Nat} {p:Int} (hd:∀ u,t0 <= u -> stp (u + d)=stp u) (ht:t0 <= t) {t':Nat} {q:Int} (h:Rn stp t p t' q):Rn stp (t + d) p (t' + d) q:=by
 induction h with
 | nil=>exact .nil
 | @step t' q r hr hx ih =>
  have:=Rn.step ih (r:=r) (by rw [hd t' (dp ht hr.le)]; exact hx)
  rwa [show t' + d + 1=t' + 1 + d by omega] at this
def RnF (stp:Nat -> Int -> Int -> Prop) (fin:Int -> Prop) (t:Nat) (p:Int) (t':Nat) (q:Int):Prop:=∃ u f,Rn stp t p u f /\ fin f /\ Rn stp u f t' q
theorem RnF.step {stp:Nat -> Int -> Int -> Prop} {fin:Int -> Prop} {t:Nat} {p:Int} {t':Nat} {q r:Int} (h:RnF stp fin t p t' q) (hx:stp t' q r):RnF stp fin t p (t' + 1) r:=by
 obtain ⟨u,f,h1,h2,h3⟩:=h
 exact ⟨u,f,h1,h2, .step h3 hx⟩
structure Tr4 where
 n:Nat
 lab:Nat -> Int -> Prop
 abv:Nat -> Int
structure sQ (stp:Int -> Int -> Prop) (fin:Int -> Prop) (T T':Tr4) (m:Int):Prop where
 back:∀ k q,k < T'.n -> T'.lab k q -> ∃ i p,i < T.n /\ T.lab i p /\ stp p q
 own:∀ k,k < T'.n -> ∃ q,T'.lab k q
 stay:∀ i:Nat,2 * (i:Int) + 2 <= m -> i < T.n -> i < T'.n /\ (∀ q,T'.lab i q -> ∃ p,T.lab i p /\ stp p q) /\ ∀ k q,k < T'.n -> T'.abv k=i -> T'.lab k q -> (∃ k' p,k' < T.n /\ T.abv k'=i /\ T.lab k' p /\ stp p q) \/ (fin q /\ ∃ p,T.lab i p /\ stp p q)
 flash:∀ i:Nat,m=2 * (i:Int) + 2 -> i < T.n /\ (∀ k,k < T'.n -> T'.abv k ≠ i) /\ ∀ q,T'.lab i q -> (∃ k' p,k' < T.n /\ T.abv k'=i /\ T.lab k' p /\ stp p q) \/ (fin q /\ ∃ p,T.lab i p /\ stp p q)
 root:∀ p q,0 < T.n -> T.lab 0 p -> stp p q -> 0 < T'.n /\ T'.lab 0 q /\ m ≠ 1
 kid:∀ (i k:Nat) p q,2 * (i:Int) + 3 <= m -> i < T.n -> T.lab i p -> stp p q -> T'.lab i q -> k < T.n -> T.abv k=i -> T.lab k p -> ∃ k':Nat,k' < T'.n /\ T'.abv k'=i /\ T'.lab k' q /\ i < k' /\ k' <= k /\ (k'=k -> ∀ j:Nat,j <= k -> m ≠ 2 * (j:Int) + 1)
 kidF:∀ (i:Nat) p q,2 * (i:Int) + 3 <= m -> i < T.n -> T.lab i p -> stp p q -> T'.lab i q -> fin q -> ∃ k:Nat,k < T'.n /\ T'.abv k=i /\ T'.lab k q
section
variable {stp:Nat -> Int -> Int -> Prop} {fin:Int -> Prop} {T:Nat -> Tr4} {m:Nat -> Int}
theorem Lv (h:∀ t,sQ (stp t) fin (T t) (T (t + 1)) (m t)) {ρ:Nat -> Int} (h0:0 < (T 0).n /\ (T 0).lab 0 (ρ 0)) (hs:∀ t,stp t (ρ t) (ρ (t + 1))) (hf:∀ t,∃ s,t <= s /\ fin (ρ s)) {j N:Nat} (hN:∀ t,N <= t -> 2 * (j:Int) + 1 <= m t) (hj:∀ t,∃ s,t <= s /\ m s=2 * (j:Int) + 1):False:=by
 have hr:∀ t,0 < (T t).n /\ (T t).lab 0 (ρ t):=fun t=>by
  induction t with
  | zero=>exact h0
  | succ t ih =>
   obtain ⟨a,b,_⟩:=(h t).root _ _ ih.1 ih.2 (hs t)
   exact ⟨a,b⟩
 have j0:0 < j:=by
  obtain ⟨s,_,e⟩:=hj 0
  have:=((h s).root _ _ (hr s).1 (hr s).2 (hs s)).2.2
  rcases kn j with c | c
  ·subst c
   exact absurd e this
  ·exact c
 have main:∀ d i,j - i=d -> i < j -> (∃ t1,N <= t1 /\ ∀ t,t1 <= t -> i < (T t).n /\ (T t).lab i (ρ t)) -> False:=by
  intro d
  induction d using Nat.strongRecOn with
  | ind d ih =>
   rintro i hd hi ⟨t1,ht1,hP⟩
   have hm:∀ t,t1 <= t -> 2 * (i:Int) + 3 <= m t:=fun t ht=>by have:=hN t (by omega); omega
   let Q:Nat -> Nat -> Prop:=fun k t=>t1 <= t /\ k < (T t).n /\ (T t).abv k=i /\ (T t).lab k (ρ t) /\ i < k
   have go:∀ k t,Q k t -> ∃ k',Q k' (t + 1) /\ k' <= k /\ (k'=k -> ∀ j:Nat,j <= k -> m t ≠ 2 * (j:Int) + 1):=fun k t ⟨q1,q2,q3,q4,_⟩=>by
    obtain ⟨k',a1,a2,a3,a4,a5,a6⟩:=(h t).kid i k _ _ (hm t q1) (hP t q1).1 (hP t q1).2 (hs t) (hP (t + 1) (by omega)).2 q2 q3 q4
    exact ⟨k',⟨by omega,a1,a2,a3,a4⟩,a5,a6⟩
   have ex:∃ k t,t1 <= t /\ k < (T t).n /\ (T t).abv k=i /\ (T t).lab k (ρ t):=by
    obtain ⟨s,hs1,hs2⟩:=hf (t1 + 1)
    obtain ⟨s',rfl⟩:∃ s',s=s' + 1:=⟨s - 1,by omega⟩
    obtain ⟨k,a1,a2,a3⟩:=(h s').kidF i _ _ (hm s' (by omega)) (hP s' (by omega)).1 (hP s' (by omega)).2 (hs s') (hP (s' + 1) (by omega)).2 hs2
    exact ⟨k,s' + 1,by omega,a1,a2,a3⟩
   have ex2:∃ k,∃ t,Q k t:=by
    obtain ⟨k,t,a0,a1,a2,a3⟩:=ex
    obtain ⟨k',b1,b2,b3,b4,b5,b6⟩:=(h t).kid i k _ _ (hm t a0) (hP t a0).1 (hP t a0).2 (hs t) (hP (t + 1) (by omega)).2 a1 a2 a3
    exact ⟨k',t + 1,by omega,b1,b2,b3,b4⟩
   have least:∀ n,(∃ t,Q n t) -> ∃ k,(∃ t,Q k t) /\ ∀ k',k' < k -> ¬ ∃ t,Q k' t:=by
    intro n
    induction n using Nat.strongRecOn with
    | ind n ih2 =>
     intro hn
     by_cases c:∃ k',k' < n /\ ∃ t,Q k' t
     ·obtain ⟨k',c1,c2⟩:=c
      exact ih2 k' c1 c2
     ·exact ⟨n,hn,fun k' h1 h2=>c ⟨k',h1,h2⟩⟩
   obtain ⟨n,hn⟩:=ex2
   obtain ⟨k,⟨t0,hk⟩,hmin⟩:=least n hn
   have stays:∀ d,Q k (t0 + d) /\ ∀ j:Nat,j <= k -> m (t0 + d) ≠ 2 * (j:Int) + 1:=fun d=>by
    have one:∀ t,Q k t -> Q k (t + 1) /\ ∀ j:Nat,j <= k -> m t ≠ 2 * (j:Int) + 1:=fun t hq=>by
     obtain ⟨k',b1,b2,b3⟩:=go k t hq
     have e:k'=k:=by
      rcases dA k' k with c | c
      ·exact absurd ⟨_,b1⟩ (hmin k' c)
      ·omega
     subst e
     exact ⟨b1,b3 rfl⟩
    have all:Q k (t0 + d):=by
     induction d with
     | zero=>exact hk
     | succ d ih3=>exact (one _ ih3).1
    exact ⟨all,(one _ all).2⟩
   have hkj:k < j:=by
    rcases dA k j with c | c
    ·exact c
    ·obtain ⟨s,s1,s2⟩:=hj t0
     obtain ⟨d',rfl⟩:∃ d',s=t0 + d':=⟨s - t0,by omega⟩
     exact absurd s2 ((stays d').2 j c)
   have hik:i < k:=hk.2.2.2.2
   refine ih (j - k) (by omega) k rfl hkj ⟨t0,by have:=hk.1; omega,fun t ht=>?_⟩
   obtain ⟨d',rfl⟩:∃ d',t=t0 + d':=⟨t - t0,by omega⟩
   exact ⟨(stays d').1.2.1,(stays d').1.2.2.2.1⟩
 exact main j 0 (by omega) j0 ⟨N,bP _,fun t _=>hr t⟩
theorem sP (h:∀ t,sQ (stp t) fin (T t) (T (t + 1)) (m t)) {st:Int -> Prop} (h0:∀ i q,i < (T 0).n -> (T 0).lab i q -> st q):∀ t i q,i < (T t).n -> (T t).lab i q -> ∃ s,st s /\ Rn stp 0 s t q
 | 0,i,q,hi,hq=>⟨q,h0 i q hi hq, .nil⟩
 | t + 1,i,q,hi,hq=>by
  obtain ⟨k,p,a1,a2,a3⟩:=(h t).back i q hi hq
  obtain ⟨s,b1,b2⟩:=sP h h0 t k p a1 a2
  exact ⟨s,b1, .step b2 a3⟩
theorem pf (h:∀ t,sQ (stp t) fin (T t) (T (t + 1)) (m t)) {i N:Nat} (hN:∀ t,N <= t -> 2 * (i:Int) + 2 <= m t) {t1:Nat} (ht:N <= t1) (he:m t1=2 * (i:Int) + 2):∀ d,i < (T (t1 + 1 + d)).n /\ (∀ q,(T (t1 + 1 + d)).lab i q -> ∃ p,(T (t1 + 1)).lab i p /\ Rn stp (t1 + 1) p (t1 + 1 + d) q) /\ ∀ k q,k < (T (t1 + 1 + d)).n -> (T (t1 + 1 + d)).abv k=i -> (T (t1 + 1 + d)).lab k q -> ∃ p,(T (t1 + 1)).lab i p /\ RnF stp fin (t1 + 1) p (t1 + 1 + d) q
 | 0=>by
  obtain ⟨f1,f2,_⟩:=(h t1).flash i he
  obtain ⟨s1,_,_⟩:=(h t1).stay i (hN t1 ht) f1
  exact ⟨s1,fun q hq=>⟨q,hq, .nil⟩,fun k q hk ha _=>absurd ha (f2 k hk)⟩
 | d + 1=>by
  obtain ⟨a1,a2,a3⟩:=pf h hN ht he d
  obtain ⟨s1,s2,s3⟩:=(h (t1 + 1 + d)).stay i (hN _ (by omega)) a1
  refine ⟨s1,fun q hq=>?_,fun k q hk ha hq=>?_⟩
  ·obtain ⟨p,b1,b2⟩:=s2 q hq
   obtain ⟨p',c1,c2⟩:=a2 p b1
   exact ⟨p',c1, .step c2 b2⟩
  ·rcases s3 k q hk ha hq with ⟨k',p,b1,b2,b3,b4⟩ | ⟨hfq,p,b1,b2⟩
   ·obtain ⟨p',c1,c2⟩:=a3 k' p b1 b2 b3
    exact ⟨p',c1,c2.step b4⟩
   ·obtain ⟨p',c1,c2⟩:=a2 p b1
    exact ⟨p',c1,_,q, .step c2 b2,hfq, .nil⟩
theorem E9 (h:∀ t,sQ (stp t) fin (T t) (T (t + 1)) (m t)) {i N:Nat} (hN:∀ t,N <= t -> 2 * (i:Int) + 2 <= m t) {t1 t2:Nat} (ht:N <= t1) (he:m t1=2 * (i:Int) + 2) (h2:m t2=2 * (i:Int) + 2) (hlt:t1 < t2) {q:Int} (hq:(T (t2 + 1)).lab i q):∃ p,(T (t1 + 1)).lab i p /\ RnF stp fin (t1 + 1) p (t2 + 1) q:=by
 obtain ⟨d,rfl⟩:∃ d,t2=t1 + 1 + d:=⟨t2 - (t1 + 1),by omega⟩
 obtain ⟨a1,a2,a3⟩:=pf h hN ht he d
 rcases ((h (t1 + 1 + d)).flash i h2).2.2 q hq with ⟨k',p,b1,b2,b3,b4⟩ | ⟨hfq,p,b1,b2⟩
 ·obtain ⟨p',c1,c2⟩:=a3 k' p b1 b2 b3
  exact ⟨p',c1,c2.step b4⟩
 ·obtain ⟨p',c1,c2⟩:=a2 p b1
  exact ⟨p',c1,_,q, .step c2 b2,hfq, .nil⟩
theorem Hz (h:∀ t,sQ (stp t) fin (T t) (T (t + 1)) (m t)) {st:Int -> Prop} (h0:∀ i q,i < (T 0).n -> (T 0).lab i q -> st q) {i N S L:Nat} (hN:∀ t,N <= t -> 2 * (i:Int) + 2 <= m t) (hi:∀ t,∃ s,t <= s /\ m s=2 * (i:Int) + 2) (hS:∀ t k q,k < (T t).n -> (T t).lab k q -> 0 <= q /\ q < (S:Int)) {pos:Nat -> Nat} (hL:∀ t,pos t < L) (hp:∀ t u,pos t=pos u -> ∀ d,stp (t + d)=stp (u + d) /\ pos (t + d)=pos (u + d)):∃ s,st s /\ ∃ (t:Nat) (f:Int) (d:Nat),Rn stp 0 s t f /\ fin f /\ 0 < d /\ Rn stp t f (t + d) f /\ pos (t + d)=pos t:=by
 -- the times of the flashes
 have nx:∀ t,∃ s,t < s /\ N <= s /\ m s=2 * (i:Int) + 2:=fun t=>by
  obtain ⟨s,a,b⟩:=hi (t + 1 + N)
  exact ⟨s,by omega,by omega,b⟩
 let F:Nat -> Nat:=fun k=>Nat.rec (Classical.choose (nx 0)) (fun _ t=>Classical.choose (nx t)) k
 have F0:∀ k,N <= F k /\ m (F k)=2 * (i:Int) + 2:=fun k=>by
  cases k with
  | zero=>exact (gf (nx 0)).2
  | succ k=>exact (gf (nx (F k))).2
 have F1:∀ k,F k < F (k + 1):=fun k=>(gf (nx (F k))).1
 have Fm:∀ k d,F k <= F (k + d):=fun k d=>by
  induction d with
  | zero=>exact bP _
  | succ d ih=>exact dp ih (Nat.le_of_lt (F1 _))
 have hn:∀ k,i < (T (F k + 1)).n:=fun k=>(pf h hN (F0 k).1 (F0 k).2 0).1
 -- chains of states,from flash to flash
 have chain:∀ K q,(T (F K + 1)).lab i q -> ∃ c:Nat -> Int,c K=q /\ (∀ k,k <= K -> (T (F k + 1)).lab i (c k)) /\ ∀ k,k < K -> RnF stp fin (F k + 1) (c k) (F (k + 1) + 1) (c (k + 1)):=by
  intro K
  induction K with
  | zero =>
   intro q hq
   exact ⟨fun _=>q,rfl,fun k hk=>by rw [show k=0 by omega]; exact hq,fun k hk=>by omega⟩
  | succ K ih =>
   intro q hq
   obtain ⟨p,hp1,hp2⟩:=E9 h hN (F0 K).1 (F0 K).2 (F0 (K + 1)).2 (F1 K) hq
   obtain ⟨c,c0,c1,c2⟩:=ih p hp1
   refine ⟨fun k=>if k=K + 1 then q else c k,by simp,fun k hk=>?_,fun k hk=>?_⟩
   ·by_cases ck:k=K + 1
    ·subst ck; simpa using hq
    ·simpa [ck] using c1 k (by omega)
   ·by_cases ck:k=K
    ·subst ck
     simpa [c0] using hp2
    ·simpa [show k ≠ K + 1 by omega,ck] using c2 k (by omega)
 obtain ⟨q,hq⟩:=(h (F (L * S))).own i (hn _)
 obtain ⟨c,_,c1,c2⟩:=chain (L * S) q hq
 have cb:∀ k,k <= L * S -> 0 <= c k /\ c k < (S:Int):=fun k hk=>hS _ i _ (hn k) (c1 k hk)
 -- two of them are at one place with one state
 let G:Nat -> Nat:=fun k=>pos (F k + 1) * S + (c k).toNat
 obtain ⟨x,y,hxy,hy,e⟩:∃ x y,x < y /\ y <= L * S /\ G x=G y:=by
  refine jq fun hno=>?_
  have nd:((List.range (L * S + 1)).map G).Nodup:=by
   rw [List.Nodup,List.pairwise_map]
   refine List.pairwise_lt_range.imp_of_mem ?_
   intro x y _ hy hlt e
   exact hno ⟨x,y,hlt,by have:=d6.1 hy; omega,e⟩
  have:=iJ nd (m:=List.range (L * S)) (fun v hv=>by
   obtain ⟨k,hk,rfl⟩:=cP.1 hv
   have hk:=d6.1 hk
   have hc:=cb k (by omega)
   have hl:=hL (F k + 1)
   rw [d6]
   have:=dL S (show pos (F k + 1) + 1 <= L by omega)
   rw [fk] at this
   show pos (F k + 1) * S + (c k).toNat < L * S
   omega)
  rw [df,g8,g8] at this
  omega
 have hcx:=cb x (by omega)
 have hcy:=cb y hy
 have inj:pos (F x + 1)=pos (F y + 1) /\ c x=c y:=by
  have e:pos (F x + 1) * S + (c x).toNat=pos (F y + 1) * S + (c y).toNat:=e
  have e1:pos (F x + 1)=pos (F y + 1):=by
   rcases nP (pos (F x + 1)) (pos (F y + 1)) with c | c | c
   ·have:=dL S (show pos (F x + 1) + 1 <= pos (F y + 1) by omega)
    rw [fk] at this
    omega
   ·exact c
   ·have:=dL S (show pos (F y + 1) + 1 <= pos (F x + 1) by omega)
    rw [fk] at this
    omega
  rw [e1] at e
  exact ⟨e1,by omega⟩
 obtain ⟨s,s1,s2⟩:=sP h h0 _ _ _ (hn x) (c1 x (by omega))
 obtain ⟨u,f,g1,g2,g3⟩:=c2 x (by omega)
 have rest:∀ d,x + 1 + d <= y -> Rn stp (F (x + 1) + 1) (c (x + 1)) (F (x + 1 + d) + 1) (c (x + 1 + d)):=fun d hd=>by
  induction d with
  | zero=>exact .nil
  | succ d ih =>
   obtain ⟨u,f,g1,_,g3⟩:=c2 (x + 1 + d) (by omega)
   exact (ih (by omega)).trans (g1.trans g3)
 have r1:=rest (y - (x + 1)) (by omega)
 rw [show x + 1 + (y - (x + 1))=y by omega] at r1
 have hFxy:F x < F y:=by
  have:=Fm (x + 1) (y - (x + 1))
  rw [show x + 1 + (y - (x + 1))=y by omega] at this
  exact gv (F1 x) this
 have pp:∀ t,F x + 1 <= t -> stp (t + (F y - F x))=stp t /\ pos (t + (F y - F x))=pos t:=fun t ht=>by
  have:=hp (F x + 1) (F y + 1) inj.1 (t - (F x + 1))
  rw [show F x + 1 + (t - (F x + 1))=t by omega,show F y + 1 + (t - (F x + 1))=t + (F y - F x) by omega] at this
  exact ⟨this.1.symm,this.2.symm⟩
 have hu:F x + 1 <= u:=g1.le
 have r2:=g1.shift (d:=F y - F x) (t0:=F x + 1) (fun u hu=>(pp u hu).1) (bP _)
 rw [show F x + 1 + (F y - F x)=F y + 1 by omega,inj.2] at r2
 exact ⟨s,s1,u,f,F y - F x,s2.trans g1,g2,by omega,(g3.trans r1).trans r2,(pp u hu).2⟩
end
end
end Go.Proofs.YtmdbjpljlniloaaGreat
namespace Go.Proofs.YtmdbjpljlniloaaGreat
open Go.RowKit Go.MapKept
set_option maxRecDepth 100000
noncomputable section
def lb (s:Int):Prop:=0 <= s /\ s < 16
theorem gI (q:Int):cM 0 q=false:=by simp [cM]
theorem yB {x:Int} (hx:lb x) (h:x ≠ 0):∃ q:Int,0 <= q /\ cM x q=true:=by
 obtain ⟨a,rfl⟩:=kX hx.1
 have:∀ a:Fin 16,a.val ≠ 0 -> ∃ q:Fin 4,a.val.testBit q.val=true:=by decide
 obtain ⟨q,hq⟩:=this ⟨a,by have:=hx.2; omega⟩ (by show a ≠ 0; omega)
 exact ⟨(q.val:Int),by omega,hq⟩
theorem AE {x q:Int} (hx:lb x) (h:cM x q=true):q < 4:=by
 refine Int.not_le.1 fun h4=>?_
 have:x.toNat.testBit q.toNat=false:=Nat.testBit_lt_two_pow (gv (show x.toNat < 2 ^ 4 by have:=hx.1; have:=hx.2; omega) (Nat.pow_le_pow_right (by decide) (by omega)))
 rw [cM,this] at h
 cases h
theorem Hj {x y:Int} (hx:lb x) (hy:lb y) (h:∀ q,0 <= q -> cM x q=cM y q):x=y:=by
 have:x.toNat=y.toNat:=Nat.eq_of_testBit_eq fun i=>by
  have:=h (i:Int) (by omega)
  unfold cM at this
  rwa [bE] at this
 have:=hx.1
 have:=hy.1
 omega
theorem yC {x y:Int} (hx:lb x) (hy:lb y):lb (bR .and .i64 x y) /\ ∀ q,cM (bR .and .i64 x y) q=(cM x q && cM y q):=by
 obtain ⟨h1,h2⟩:=hx
 obtain ⟨h3,h4⟩:=hy
 obtain ⟨a,rfl⟩:=kX h1
 obtain ⟨b,rfl⟩:=kX h3
 rw [MF (by omega) (by omega)]
 refine ⟨⟨by omega,?_⟩,fun q=>?_⟩
 ·have:=Nat.and_lt_two_pow a (y:=b) (n:=4) (by omega)
  omega
 ·unfold cM
  rw [bE,bE,bE,Nat.testBit_and]
theorem AD {x y:Int} (hx:lb x) (hy:lb y):lb (bR .or .i64 x y) /\ ∀ q,cM (bR .or .i64 x y) q=(cM x q || cM y q):=by
 obtain ⟨h1,h2⟩:=hx
 obtain ⟨h3,h4⟩:=hy
 obtain ⟨a,rfl⟩:=kX h1
 obtain ⟨b,rfl⟩:=kX h3
 rw [bor (by omega) (by omega)]
 refine ⟨⟨by omega,?_⟩,fun q=>?_⟩
 ·have:=Nat.or_lt_two_pow (x:=a) (y:=b) (n:=4) (by omega) (by omega)
  omega
 ·unfold cM
  rw [bE,bE,bE,Nat.testBit_or]
theorem LA {x y:Int} (hx:lb x) (hy:lb y):lb (bR .andNot .i64 x y) /\ ∀ q,cM (bR .andNot .i64 x y) q=(cM x q && !cM y q):=by
 obtain ⟨h1,h2⟩:=hx
 obtain ⟨h3,h4⟩:=hy
 obtain ⟨a,rfl⟩:=kX h1
 obtain ⟨b,rfl⟩:=kX h3
 rw [Ki (by omega) (by omega)]
 refine ⟨⟨by omega,?_⟩,fun q=>?_⟩
 ·have:=Nat.xor_lt_two_pow (x:=a) (y:=a &&& b) (n:=4) (by omega) (Nat.and_lt_two_pow a (by omega))
  omega
 ·unfold cM
  rw [bE,bE,bE,Nat.testBit_xor,Nat.testBit_and]
  cases a.testBit q.toNat <;> cases b.testBit q.toNat <;> rfl
theorem pS {X:Type} [Inhabited X] {m:List X} {k j:Nat} {x:X} (h:j ≠ k):gx (m.set k x) j=gx m j:=by
 unfold gx
 rw [er,er,mP (Ne.symm h)]
theorem pR {X:Type} [Inhabited X] {m:List X} {k:Nat} {x:X} (h:k < m.length):gx (m.set k x) k=x:=by rw [fS h,if_pos rfl]
structure zN (l:List be):Prop where
 len:l.length <= 12
 lb:∀ k,k < l.length -> lb (gx l k).ap
 up:∀ k,k < l.length -> (gx l k).ak < (k:Int)
 fresh:∀ k,k < l.length -> (gx l k).aF=false /\ (gx l k).aH=false
structure CnR (l c:List be):Prop where
 len:c.length=l.length
 same:∀ k,k < l.length -> (gx c k).ak=(gx l k).ak /\ (gx c k).aI=(gx l k).aI /\ (gx c k).aH=(gx l k).aH
 lb:∀ k,k < l.length -> lb (gx c k).ap
 gone:∀ k,k < l.length -> ((gx c k).aF=true ↔ (gx c k).ap=0)
 has:∀ k,k < l.length -> ∀ q,cM (gx c k).ap q=true ↔ cM (gx l k).ap q=true /\ (0 <= (gx l k).ak -> cM (gx c (gx l k).ak.toNat).ap q=true) /\ ∀ j,j < k -> (gx l j).ak=(gx l k).ak -> cM (gx c j).ap q=false
section
variable {l:List be}
theorem Dq {i j:Nat} (h:j ≠ i):gx (fd l i) j=gx l j:=by
 unfold fd
 split
 ·exact pS h
 ·rfl
theorem tM {i j:Nat} (h:j ≠ i):∀ k,gx (eC l i k) j=gx l j
 | 0=>rfl
 | k + 1=>by
  unfold eC
  split
  ·rw [pS h]
   exact tM h k
  ·exact tM h k
theorem xd {i j:Nat} (h:j ≠ i):gx (ve (eC (fd l i) i i) i) j=gx l j:=by
 unfold ve
 rw [pS h,tM h,Dq h]
theorem Dp {j:Nat}:∀ k,k <= j -> gx (gK l k) j=gx l j
 | 0,_=>rfl
 | k + 1,h=>by
  show gx (ve _ _) j=_
  rw [xd (by omega),Dp k (by omega)]
theorem yS {j:Nat}:∀ k,j < k -> gx (gK l k) j=gx (gK l (j + 1)) j
 | 0,h=>by omega
 | k + 1,h=>by
  by_cases e:j=k
  ·rw [e]
  ·rw [show gK l (k + 1)=ve (eC (fd (gK l k) k) k k) k from rfl,xd e]
   exact yS k (by omega)
theorem xc {m:List be} {i:Nat} (hi:i < m.length) (hl:∀ k,k <= i -> lb (gx m k).ap):∀ k,k <= i -> lb (gx (eC m i k) i).ap /\ (gx (eC m i k) i).ak=(gx m i).ak /\ (gx (eC m i k) i).aI=(gx m i).aI /\ (gx (eC m i k) i).aH=(gx m i).aH /\ ∀ q,cM (gx (eC m i k) i).ap q=true ↔ cM (gx m i).ap q=true /\ ∀ j,j < k -> (gx m j).ak=(gx m i).ak -> cM (gx m j).ap q=false
 | 0,_=>⟨hl i (bP _),rfl,rfl,rfl,fun q=>⟨fun h=>⟨h,fun j hj=>absurd hj (e9 _)⟩,fun h=>h.1⟩⟩
 | k + 1,h=>by
  obtain ⟨a1,a2,a3,a4,a5⟩:=xc hi hl k (by omega)
  have ek:gx (eC m i k) k=gx m k:=tM (by omega) k
  unfold eC
  split
  ·rename_i c
   have c:(gx m k).ak=(gx m i).ak:=by
    have:=eq_of_beq c
    rwa [ek,a2] at this
   rw [pR (by rw [iq]; exact hi),ek]
   obtain ⟨b1,b2⟩:=LA a1 (hl k (by omega))
   refine ⟨b1,a2,a3,a4,fun q=>?_⟩
   show cM (bR .andNot .i64 _ _) q=true ↔ _
   rw [b2,cC,a5 q,Bool.not_eq_true']
   refine ⟨fun ⟨⟨x,y⟩,z⟩=>⟨x,fun j hj e=>?_⟩,fun ⟨x,y⟩=>⟨⟨x,fun j hj=>y j (by omega)⟩,y k (by omega) c⟩⟩
   rcases cU.1 hj with d | rfl
   ·exact y j d e
   ·exact z
  ·rename_i c
   have c:(gx m k).ak ≠ (gx m i).ak:=fun e=>c (by rw [ek,a2,e]; simp)
   refine ⟨a1,a2,a3,a4,fun q=>(a5 q).trans ⟨fun ⟨x,y⟩=>⟨x,fun j hj e=>?_⟩,fun ⟨x,y⟩=>⟨x,fun j hj=>y j (by omega)⟩⟩⟩
   rcases cU.1 hj with d | rfl
   ·exact y j d e
   ·exact absurd e c
theorem Ds (h:zN l):CnR l (eE l):=by
 have hlen:(eE l).length=l.length:=lT _
 have at_:∀ k,k < l.length -> gx (eE l) k=gx (gK l (k + 1)) k:=fun k hk=>yS _ hk
 have key:∀ n k,k < n -> k < l.length -> lb (gx (eE l) k).ap /\ ((gx (eE l) k).ak=(gx l k).ak /\ (gx (eE l) k).aI=(gx l k).aI /\ (gx (eE l) k).aH=(gx l k).aH) /\ ((gx (eE l) k).aF=true ↔ (gx (eE l) k).ap=0) /\ ∀ q,cM (gx (eE l) k).ap q=true ↔ cM (gx l k).ap q=true /\ (0 <= (gx l k).ak -> cM (gx (eE l) (gx l k).ak.toNat).ap q=true) /\ ∀ j,j < k -> (gx l j).ak=(gx l k).ak -> cM (gx (eE l) j).ap q=false:=by
  intro n
  induction n with
  | zero=>intro k hk; omega
  | succ n ih =>
   intro k hk hkl
   rcases cU.1 hk with c | rfl
   ·exact ih k c hkl
   have hup:=h.up k hkl
   have lo:∀ j,j < k -> gx (gK l k) j=gx (eE l) j:=fun j hj=>by rw [at_ j (by omega),yS k hj]
   have hi:gx (gK l k) k=gx l k:=Dp k (bP _)
   have hm:k < (gK l k).length:=by rw [lT]; exact hkl
   -- the meet with what is above
   have hA:lb (gx (fd (gK l k) k) k).ap /\ (gx (fd (gK l k) k) k).ak=(gx l k).ak /\ (gx (fd (gK l k) k) k).aI=(gx l k).aI /\ (gx (fd (gK l k) k) k).aH=(gx l k).aH /\ ∀ q,cM (gx (fd (gK l k) k) k).ap q=true ↔ cM (gx l k).ap q=true /\ (0 <= (gx l k).ak -> cM (gx (eE l) (gx l k).ak.toNat).ap q=true):=by
    unfold fd
    rw [hi]
    split
    ·rename_i c
     rw [pR hm,lo (gx l k).ak.toNat (by omega)]
     obtain ⟨b1,b2⟩:=yC (h.lb k hkl) (ih (gx l k).ak.toNat (by omega) (by omega)).1
     refine ⟨b1,rfl,rfl,rfl,fun q=>?_⟩
     show cM (bR .and .i64 _ _) q=true ↔ _
     rw [b2,cC]
     exact ⟨fun ⟨x,y⟩=>⟨x,fun _=>y⟩,fun ⟨x,y⟩=>⟨x,y c⟩⟩
    ·rename_i c
     rw [hi]
     exact ⟨h.lb k hkl,rfl,rfl,rfl,fun q=>⟨fun x=>⟨x,fun y=>absurd y c⟩,fun x=>x.1⟩⟩
   obtain ⟨a1,a2,a3,a4,a5⟩:=hA
   have loA:∀ j,j < k -> gx (fd (gK l k) k) j=gx (eE l) j:=fun j hj=>by rw [Dq (by omega),lo j hj]
   obtain ⟨s1,s2,s3,s4,s5⟩:=xc (m:=fd (gK l k) k) (i:=k) (by rw [lU]; exact hm) (fun j hj=>by
    rcases Nat.lt_or_eq_of_le hj with c | rfl
    ·rw [loA j c]
     exact (ih j c (by omega)).1
    ·exact a1) k (bP _)
   have e:gx (eE l) k=⟨(gx (eC (fd (gK l k) k) k k) k).ap,(gx (eC (fd (gK l k) k) k k) k).ak,(gx (eC (fd (gK l k) k) k k) k).aI,(gx (eC (fd (gK l k) k) k k) k).ap == 0,(gx (eC (fd (gK l k) k) k k) k).aH⟩:=by
    rw [at_ k hkl]
    exact pR (by rw [iq,lU]; exact hm)
   have hab:∀ j,j < k -> (gx (eE l) j).ak=(gx l j).ak:=fun j hj=>(ih j hj (by omega)).2.1.1
   rw [e]
   refine ⟨s1,⟨s2.trans a2,s3.trans a3,s4.trans a4⟩,by simp,fun q=>?_⟩
   show cM (gx (eC (fd (gK l k) k) k k) k).ap q=true ↔ _
   rw [s5 q,a5 q,a2]
   constructor
   ·rintro ⟨⟨x,y⟩,z⟩
    refine ⟨x,y,fun j hj ej=>?_⟩
    have:=z j hj (by rw [loA j hj,hab j hj]; exact ej)
    rwa [loA j hj] at this
   ·rintro ⟨x,y,z⟩
    refine ⟨⟨x,y⟩,fun j hj ej=>?_⟩
    rw [loA j hj] at ej ⊢
    rw [hab j hj] at ej
    exact z j hj ej
 exact ⟨hlen,fun k hk=>(key (k + 1) k (by omega) hk).2.1,fun k hk=>(key (k + 1) k (by omega) hk).1,fun k hk=>(key (k + 1) k (by omega) hk).2.2.1,fun k hk=>(key (k + 1) k (by omega) hk).2.2.2⟩
theorem BT {i j k:Nat} (h:k ≠ j):gx (lp l i j) k=gx l k:=by
 unfold lp
 split
 ·exact pS h
 ·rfl
theorem BS {i k:Nat}:∀ n,(k <= i \/ i + n < k) -> gx (jD l i n) k=gx l k
 | 0,_=>rfl
 | n + 1,h=>by
  show gx (lp _ _ _) k=_
  rw [BT (by omega),BS n (by omega)]
theorem Fh {i j k:Nat}:(gx (lp l i j) k).ap=(gx l k).ap /\ (gx (lp l i j) k).ak=(gx l k).ak /\ (gx (lp l i j) k).aI=(gx l k).aI /\ (gx (lp l i j) k).aH=(gx l k).aH:=by
 by_cases h:k=j
 ·subst h
  unfold lp
  split
  ·by_cases hk:k < l.length
   ·rw [pR hk]
    exact ⟨rfl,rfl,rfl,rfl⟩
   ·rw [List.set_eq_of_length_le (by omega)]
    exact ⟨rfl,rfl,rfl,rfl⟩
  ·exact ⟨rfl,rfl,rfl,rfl⟩
 ·rw [BT h]
  exact ⟨rfl,rfl,rfl,rfl⟩
theorem sc {i k:Nat}:∀ n,(gx (jD l i n) k).ap=(gx l k).ap /\ (gx (jD l i n) k).ak=(gx l k).ak /\ (gx (jD l i n) k).aI=(gx l k).aI /\ (gx (jD l i n) k).aH=(gx l k).aH
 | 0=>⟨rfl,rfl,rfl,rfl⟩
 | n + 1=>by
  obtain ⟨a,b,c,d⟩:=Fh (l:=jD l i n) (i:=i) (j:=i + 1 + n) (k:=k)
  obtain ⟨a',b',c',d'⟩:=sc (i:=i) (k:=k) n
  exact ⟨a.trans a',b.trans b',c.trans c',d.trans d'⟩
theorem yP {i k:Nat}:∀ n,k < i + 1 + n -> ∀ d,gx (jD l i (n + d)) k=gx (jD l i n) k
 | n,h,0=>rfl
 | n,h,d + 1=>by
  show gx (lp (jD l i (n + d)) i (i + 1 + (n + d))) k=_
  rw [BT (by omega),yP n h d]
theorem Fg (hup:∀ k,k < l.length -> (gx l k).ak < (k:Int)) {i:Nat} (hi:i < l.length) {k:Nat} (hk:k < l.length):(gx (ip l i) k).aF=true ↔ ((gx l k).aF=true \/ (i < k /\ ((gx l k).ak=(i:Int) \/ ((gx l k).ak > (i:Int) /\ (gx (ip l i) (gx l k).ak.toNat).aF=true)))):=by
 by_cases c:i < k
 ·have e1:gx (ip l i) k=gx (lp (jD l i (k - (i + 1))) i k) k:=by
   have:=yP (l:=l) (i:=i) (k:=k) (k - (i + 1) + 1) (by omega) (l.length - (i + 1) - (k - (i + 1) + 1))
   rw [show k - (i + 1) + 1 + (l.length - (i + 1) - (k - (i + 1) + 1))=l.length - (i + 1) by omega] at this
   refine this.trans ?_
   show gx (lp _ _ (i + 1 + (k - (i + 1)))) k=_
   rw [show i + 1 + (k - (i + 1))=k by omega]
  have e2:∀ j,j < k -> gx (jD l i (k - (i + 1))) j=gx (ip l i) j:=fun j hj=>by
   have:=yP (l:=l) (i:=i) (k:=j) (k - (i + 1)) (by omega) (l.length - (i + 1) - (k - (i + 1)))
   rw [show k - (i + 1) + (l.length - (i + 1) - (k - (i + 1)))=l.length - (i + 1) by omega] at this
   exact this.symm
  have e3:gx (jD l i (k - (i + 1))) k=gx l k:=BS _ (.inr (by omega))
  have hu:=hup k hk
  have hlen:k < (jD l i (k - (i + 1))).length:=by rw [nH]; exact hk
  rw [e1]
  unfold lp
  rw [e3]
  split
  ·rename_i d
   rw [pR hlen]
   refine ⟨fun _=>.inr ⟨c,?_⟩,fun _=>rfl⟩
   rcases d with d | ⟨d0,d⟩
   ·exact .inl (eq_of_beq d)
   ·rw [cC,fu,e2 _ (by omega)] at d
    exact .inr ⟨d.2,d.1⟩
  ·rename_i d
   rw [e3]
   refine ⟨.inl,fun h=>h.elim id fun ⟨_,h⟩=>absurd ?_ d⟩
   rcases h with h | ⟨h1,h2⟩
   ·exact .inl (by rw [h]; simp)
   ·refine .inr ⟨by omega,?_⟩
    rw [cC,fu,e2 _ (by omega)]
    exact ⟨h2,h1⟩
 ·rw [show gx (ip l i) k=gx l k from BS _ (.inl (by omega))]
  exact ⟨.inl,fun h=>h.elim id fun h=>absurd h.1 c⟩
end
structure Frs (live:Nat -> Prop) (lab:Nat -> Int -> Prop) (abv:Nat -> Int):Prop where
 root:∀ k,live k -> abv k < 0 -> k=0
 up:∀ k,live k -> 0 <= abv k -> abv k < (k:Int) /\ live (abv k).toNat
 sib:∀ j k q,live j -> live k -> j < k -> abv j=abv k -> lab j q -> ¬ lab k q
theorem Frs.kid {live:Nat -> Prop} {lab:Nat -> Int -> Prop} {abv:Nat -> Int} (h:Frs live lab abv) (hs:∀ k q,live k -> 0 <= abv k -> lab k q -> lab (abv k).toNat q) {q:Int}:∀ n y x,y <= n -> x < y -> live x -> live y -> lab x q -> lab y q -> ∃ k,k <= y /\ live k /\ abv k=(x:Int) /\ lab k q:=by
 intro n
 induction n with
 | zero=>intro y x hn hx; omega
 | succ n ih =>
  intro y x hn hx lx ly qx qy
  have a0:0 <= abv y:=Int.not_lt.1 fun c=>by have:=h.root y ly c; omega
  obtain ⟨u1,u2⟩:=h.up y ly a0
  have qa:=hs y q ly a0 qy
  rcases nP (abv y).toNat x with c | c | c
  ·obtain ⟨k,k1,k2,k3,k4⟩:=ih x (abv y).toNat (by omega) c u2 lx qa qx
   exact absurd qy (h.sib k y q k2 ly (by omega) (by omega) k4)
  ·exact ⟨y,bP _,ly,by omega,qy⟩
  ·obtain ⟨k,k1,k2,k3,k4⟩:=ih (abv y).toNat x (by omega) c lx u2 qx qa
   exact ⟨k,by omega,k2,k3,k4⟩
theorem Frs.few {live:Nat -> Prop} {lab:Nat -> Int -> Prop} {abv:Nat -> Int} (h:Frs live lab abv) (hs:∀ k q,live k -> 0 <= abv k -> lab k q -> lab (abv k).toNat q) {m:List Int} (ho:∀ x,live x -> ∃ q,q ∈ m /\ lab x q /\ ∀ k,live k -> abv k=(x:Int) -> ¬ lab k q) {l:List Nat} (hl:l.Nodup) (hv:∀ x ∈ l,live x):l.length <= m.length:=by
 classical
 let f:Nat -> Int:=fun x=>if hx:live x then Classical.choose (ho x hx) else 0
 have hf:∀ x,live x -> f x ∈ m /\ lab x (f x) /\ ∀ k,live k -> abv k=(x:Int) -> ¬ lab k (f x):=fun x hx=>by
  have:=gf (ho x hx)
  show (if hx:live x then Classical.choose (ho x hx) else 0) ∈ m /\ _
  simp only [f,dif_pos hx]
  exact this
 have hne:∀ x y,x < y -> live x -> live y -> f x ≠ f y:=fun x y hxy lx ly e=>by
  obtain ⟨k,_,k2,k3,k4⟩:=h.kid hs y y x (bP _) hxy lx ly (hf x lx).2.1 (by rw [e]; exact (hf y ly).2.1)
  exact (hf x lx).2.2 k k2 k3 k4
 have nd:(l.map f).Nodup:=by
  rw [List.Nodup,List.pairwise_map]
  refine List.Pairwise.imp_of_mem ?_ hl
  intro x y hx hy hne2 e
  rcases nP x y with c | c | c
  ·exact hne x y c (hv x hx) (hv y hy) e
  ·exact hne2 c
  ·exact hne y x c (hv y hy) (hv x hx) e.symm
 have:=iJ nd (m:=m) (fun v hv2=>by
  obtain ⟨x,hx,rfl⟩:=cP.1 hv2
  exact (hf x (hv x hx)).1)
 rw [df] at this
 exact this
theorem in4 {q:Int} (h:0 <= q /\ q < 4):q ∈ [(0:Int),1,2,3]:=by
 have h4:q=0 \/ q=1 \/ q=2 \/ q=3:=by omega
 simp only [eh,mc,or_false]
 exact h4
section
variable (l:List be)
def gc (i:Int):Nat -> Int
 | 0=>0
 | k + 1=>if ((gx l k).ak == i)=true /\ (gx l k).aF=false then bR .or .i64 (gc i k) (gx l k).ap else gc i k
def gC (i:Nat):List be:=l.set i ⟨(gx l i).ap,(gx l i).ak,(gx l i).aI,(gx l i).aF,true⟩
def AM (i:Nat):List be:=if (gx l i).aF=false /\ gc l i l.length=(gx l i).ap /\ gc l i l.length ≠ 0 then ip (gC l i) i else l
def kz : Nat -> List be
 | 0=>l
 | i + 1=>AM (kz i) i
end
theorem uN {l:List be} {i:Int}:∀ k,(∀ j,j < k -> lb (gx l j).ap) -> lb (gc l i k) /\ ∀ q,cM (gc l i k) q=true ↔ ∃ j,j < k /\ (gx l j).ak=i /\ (gx l j).aF=false /\ cM (gx l j).ap q=true
 | 0,_=>⟨show lb 0 from ⟨by decide,by decide⟩,fun q=>⟨fun h=>(by rw [gc,gI] at h; cases h),fun ⟨j,hj,_⟩=>absurd hj (e9 _)⟩⟩
 | k + 1,h=>by
  obtain ⟨a,b⟩:=uN (i:=i) k fun j hj=>h j (by omega)
  unfold gc
  split
  ·rename_i c
   obtain ⟨c1,c2⟩:=AD a (h k (by omega))
   refine ⟨c1,fun q=>?_⟩
   rw [c2,fc,b q]
   refine ⟨fun d=>?_,fun ⟨j,j1,j2,j3,j4⟩=>?_⟩
   ·rcases d with ⟨j,j1,j2⟩ | d
    ·exact ⟨j,by omega,j2⟩
    ·exact ⟨k,by omega,eq_of_beq c.1,c.2,d⟩
   ·rcases cU.1 j1 with e | rfl
    ·exact .inl ⟨j,e,j2,j3,j4⟩
    ·exact .inr j4
  ·rename_i c
   refine ⟨a,fun q=>(b q).trans ⟨fun ⟨j,j1,j2⟩=>⟨j,by omega,j2⟩,fun ⟨j,j1,j2,j3,j4⟩=>?_⟩⟩
   rcases cU.1 j1 with e | rfl
   ·exact ⟨j,e,j2,j3,j4⟩
   ·exact absurd ⟨by rw [j2]; simp,j3⟩ c
structure FI (c l:List be) (n:Nat):Prop where
 len:l.length=c.length
 same:∀ k,(gx l k).ap=(gx c k).ap /\ (gx l k).ak=(gx c k).ak /\ (gx l k).aI=(gx c k).aI
 zero:∀ k,k < c.length -> (gx c k).ap=0 -> (gx l k).aF=true
 down:∀ k,k < c.length -> 0 <= (gx c k).ak -> (gx l (gx c k).ak.toNat).aF=true -> (gx l k).aF=true
 why:∀ k,k < c.length -> (gx l k).aF=true -> (gx c k).ap=0 \/ (0 <= (gx c k).ak /\ ((gx l (gx c k).ak.toNat).aF=true \/ (gx l (gx c k).ak.toNat).aH=true))
 fl:∀ i,i < c.length -> (gx l i).aH=true -> i < n /\ (∀ k,k < c.length -> (gx c k).ak=(i:Int) -> (gx l k).aF=true) /\ ∀ q,cM (gx c i).ap q=true -> ∃ k,k < c.length /\ (gx c k).ak=(i:Int) /\ cM (gx c k).ap q=true
 nofl:∀ i,i < n -> i < c.length -> (gx l i).aH=false -> (gx l i).aF=false -> ∃ q,0 <= q /\ cM (gx c i).ap q=true /\ ∀ k,k < c.length -> (gx c k).ak=(i:Int) -> (gx l k).aF=false -> cM (gx c k).ap q=false
section
variable {l c:List be}
theorem FI.start (ho:zN l) (h:CnR l c):FI c c 0:=by
 have hup:∀ k,k < c.length -> (gx c k).ak < (k:Int):=fun k hk=>by rw [h.len] at hk; rw [(h.same k hk).1]; exact ho.up k hk
 refine ⟨rfl,fun k=>⟨rfl,rfl,rfl⟩,fun k hk e=>(h.gone k (h.len ▸ hk)).2 e,fun k hk a0 hg=>?_,fun k hk hg=>.inl ((h.gone k (h.len ▸ hk)).1 hg),fun i hi hf=>?_,fun i hi=>absurd hi (e9 _)⟩
 ·have hu:=hup k hk
  rw [h.len] at hk
  have e0:=(h.gone _ (by omega)).1 hg
  refine (h.gone k hk).2 (jq fun hne=>?_)
  obtain ⟨q,_,hq⟩:=yB (h.lb k hk) hne
  have e1:=(h.same k hk).1
  have:=((h.has k hk q).1 hq).2.1 (by omega)
  rw [<- e1,e0,gI] at this
  cases this
 ·rw [h.len] at hi
  rw [(h.same i hi).2.2,(ho.fresh i hi).2] at hf
  cases hf
theorem Hw {i:Nat}:(AM l i).length=l.length:=by
 unfold AM
 split
 ·show (jD _ _ _).length=_
  rw [nH]
  exact cK
 ·rfl
theorem FI.next {l0:List be} {n:Nat} (ho:zN l0) (hc:CnR l0 c) (h:FI c l n) (hn:n < c.length):FI c (AM l n) (n + 1):=by
 have hup:∀ k,k < c.length -> (gx c k).ak < (k:Int):=fun k hk=>by rw [hc.len] at hk; rw [(hc.same k hk).1]; exact ho.up k hk
 obtain ⟨kb,kh⟩:=uN (l:=l) (i:=(n:Int)) l.length (fun j hj=>by rw [(h.same j).1]; exact hc.lb j (by rw [<- hc.len,<- h.len]; exact hj))
 by_cases d:(gx l n).aF=false /\ gc l n l.length=(gx l n).ap /\ gc l n l.length ≠ 0
 ·have e:AM l n=ip (gC l n) n:=if_pos d
  rw [e]
  have hnl:n < l.length:=by rw [h.len]; exact hn
  have ml:(gC l n).length=c.length:=List.length_set.trans h.len
  have ms:∀ k,(gx (gC l n) k).ap=(gx c k).ap /\ (gx (gC l n) k).ak=(gx c k).ak /\ (gx (gC l n) k).aI=(gx c k).aI:=fun k=>by
   refine Eq.mp ?_ (h.same k)
   unfold gC
   rw [fS hnl]
   split
   ·rename_i e
    rw [e]
   ·rfl
  have mg:∀ k,(gx (gC l n) k).aF=(gx l k).aF:=fun k=>by
   unfold gC
   rw [fS hnl]
   split
   ·rename_i e
    rw [e]
   ·rfl
  have mf:∀ k,(gx (gC l n) k).aH=true ↔ k=n \/ (gx l k).aH=true:=fun k=>by
   unfold gC
   rw [fS hnl]
   split
   ·rename_i e
    exact ⟨fun _=>.inl e,fun _=>rfl⟩
   ·rename_i e
    exact ⟨.inr,fun x=>x.elim (fun x=>absurd x e) id⟩
  have hd:∀ k,k < c.length -> ((gx (ip (gC l n) n) k).aF=true ↔ ((gx l k).aF=true \/ (n < k /\ ((gx c k).ak=(n:Int) \/ ((gx c k).ak > (n:Int) /\ (gx (ip (gC l n) n) (gx c k).ak.toNat).aF=true))))):=fun k hk=>by
   have:=Fg (l:=gC l n) (fun k hk=>by rw [(ms k).2.1]; exact hup k (by rw [<- ml]; exact hk)) (i:=n) (by rw [ml]; exact hn) (k:=k) (by rw [ml]; exact hk)
   rw [mg,(ms k).2.1] at this
   exact this
  have hf:∀ k,(gx (ip (gC l n) n) k).aH=true ↔ k=n \/ (gx l k).aH=true:=fun k=>by
   rw [show (gx (ip (gC l n) n) k).aH=_ from (sc (l:=gC l n) (i:=n) (k:=k) _).2.2.2]
   exact mf k
  have hs:∀ k,(gx (ip (gC l n) n) k).ap=(gx c k).ap /\ (gx (ip (gC l n) n) k).ak=(gx c k).ak /\ (gx (ip (gC l n) n) k).aI=(gx c k).aI:=fun k=>by
   obtain ⟨a1,a2,a3,_⟩:=sc (l:=gC l n) (i:=n) (k:=k) ((gC l n).length - (n + 1))
   exact ⟨a1.trans (ms k).1,a2.trans (ms k).2.1,a3.trans (ms k).2.2⟩
  refine ⟨by rw [<- e,Hw]; exact h.len,hs,fun k hk e0=>(hd k hk).2 (.inl (h.zero k hk e0)),fun k hk a0 hg=>?_,fun k hk hg=>?_,fun i hi hfl=>?_,fun i hi hil hfl hg=>?_⟩
  ·have hu:=hup k hk
   rcases (hd _ (by omega)).1 hg with g | ⟨g,_⟩
   ·exact (hd k hk).2 (.inl (h.down k hk a0 g))
   ·exact (hd k hk).2 (.inr ⟨by omega, .inr ⟨by omega,hg⟩⟩)
  ·have hu:=hup k hk
   rcases (hd k hk).1 hg with g | ⟨g,g2⟩
   ·rcases h.why k hk g with w | ⟨w1,w2⟩
    ·exact .inl w
    ·refine .inr ⟨w1,w2.imp (fun w=>(hd _ (by omega)).2 (.inl w)) fun w=>(hf _).2 (.inr w)⟩
   ·rcases g2 with g2 | ⟨g2,g3⟩
    ·exact .inr ⟨by omega, .inr ((hf _).2 (.inl (by omega)))⟩
    ·exact .inr ⟨by omega, .inl g3⟩
  ·rcases (hf i).1 hfl with rfl | g
   ·refine ⟨by omega,fun k hk ea=>(hd k hk).2 (.inr ⟨by have:=hup k hk; omega, .inl ea⟩),fun q hq=>?_⟩
    have:cM (gc l (i:Int) l.length) q=true:=by rw [d.2.1,(h.same i).1]; exact hq
    obtain ⟨j,j1,j2,j3,j4⟩:=(kh q).1 this
    exact ⟨j,by rw [<- h.len]; exact j1,by rw [<- (h.same j).2.1]; exact j2,by rw [<- (h.same j).1]; exact j4⟩
   ·obtain ⟨a1,a2,a3⟩:=h.fl i hi g
    exact ⟨by omega,fun k hk ea=>(hd k hk).2 (.inl (a2 k hk ea)),a3⟩
  ·have ne:i ≠ n:=fun e=>by
    rw [(hf i).2 (.inl e)] at hfl
    cases hfl
   have f0:(gx l i).aH=false:=by
    cases x:(gx l i).aH with
    | false=>rfl
    | true=>rw [(hf i).2 (.inr x)] at hfl; cases hfl
   have g0:∀ k,k < c.length -> (gx (ip (gC l n) n) k).aF=false -> (gx l k).aF=false:=fun k hk x=>by
    cases y:(gx l k).aF with
    | false=>rfl
    | true=>rw [(hd k hk).2 (.inl y)] at x; cases x
   obtain ⟨q,q0,q1,q2⟩:=h.nofl i (by omega) hil f0 (g0 i hil hg)
   exact ⟨q,q0,q1,fun k hk ea hgk=>q2 k hk ea (g0 k hk hgk)⟩
 ·have e:AM l n=l:=if_neg d
  rw [e]
  refine ⟨h.len,h.same,h.zero,h.down,h.why,fun i hi hfl=>?_,fun i hi hil hfl hg=>?_⟩
  ·obtain ⟨a1,a2⟩:=h.fl i hi hfl
   exact ⟨by omega,a2⟩
  ·rcases cU.1 hi with hi | rfl
   ·exact h.nofl i hi hil hfl hg
   refine jq fun hno=>d ?_
   have hlb:=hc.lb i (by rw [<- hc.len]; exact hil)
   have all:gc l (i:Int) l.length=(gx l i).ap:=by
    rw [(h.same i).1]
    refine Hj kb hlb fun q q0=>?_
    rw [Bool.eq_iff_iff,kh q]
    constructor
    ·rintro ⟨j,j1,j2,j3,j4⟩
     rw [(h.same j).2.1] at j2
     rw [(h.same j).1] at j4
     have hj:j < l0.length:=by rw [<- hc.len,<- h.len]; exact j1
     have ea:=(hc.same j hj).1
     have:=((hc.has j hj q).1 j4).2.1 (by omega)
     rw [<- ea,j2,bE] at this
     exact this
    ·intro hq
     refine jq fun hk=>hno ⟨q,q0,hq,fun k hk2 ea hgk=>?_⟩
     cases x:cM (gx c k).ap q with
     | false=>rfl
     | true=>exact absurd ⟨k,by rw [h.len]; exact hk2,by rw [(h.same k).2.1]; exact ea,hgk,by rw [(h.same k).1]; exact x⟩ hk
   refine ⟨hg,all,fun e0=>?_⟩
   rw [all,(h.same i).1] at e0
   rw [h.zero i hil e0] at hg
   cases hg
theorem FI.all {l0:List be} (ho:zN l0) (hc:CnR l0 c):∀ n,n <= c.length -> FI c (kz c n) n
 | 0,_=>FI.start ho hc
 | n + 1,hn=>FI.next ho hc (FI.all ho hc n (by omega)) (by omega)
end
theorem An (x:cA) (k v:Int):∀ j:Nat,j < 4 -> cW (cA.l (cA.put x k v)) (j:Int)=if k=(j:Int) then v else cW (cA.l x) (j:Int)
 | 0,_=>rfl
 | 1,_=>rfl
 | 2,_=>rfl
 | 3,_=>rfl
 | j + 4,h=>by omega
theorem KG (x:cS) (k v:Int):∀ j:Nat,j < 12 -> cW (cS.l (cS.put x k v)) (j:Int)=if k=(j:Int) then v else cW (cS.l x) (j:Int)
 | 0,_=>rfl
 | 1,_=>rfl
 | 2,_=>rfl
 | 3,_=>rfl
 | 4,_=>rfl
 | 5,_=>rfl
 | 6,_=>rfl
 | 7,_=>rfl
 | 8,_=>rfl
 | 9,_=>rfl
 | 10,_=>rfl
 | 11,_=>rfl
 | j + 12,h=>by omega
def dP (f:List be):Nat -> Nat
 | 0=>0
 | k + 1=>if (gx f k).aF=true then dP f k else dP f k + 1
section
variable {f:List be}
theorem gJ (k:Nat):dP f k <= dP f (k + 1) /\ dP f (k + 1) <= dP f k + 1 /\ ((gx f k).aF=false -> dP f (k + 1)=dP f k + 1) /\ ((gx f k).aF=true -> dP f (k + 1)=dP f k):=by
 rw [dP]
 split
 ·rename_i c
  exact ⟨bP _,by omega,fun h=>(by rw [c] at h; cases h),fun _=>rfl⟩
 ·rename_i c
  exact ⟨by omega,bP _,fun _=>rfl,fun h=>absurd h c⟩
theorem w9 {j:Nat}:∀ d,dP f j <= dP f (j + d)
 | 0=>bP _
 | d + 1=>dp (w9 d) (gJ (j + d)).1
theorem tL {j k:Nat} (h:j <= k):dP f j <= dP f k:=by
 have:=w9 (f:=f) (j:=j) (k - j)
 rwa [show j + (k - j)=k by omega] at this
theorem mF {j k:Nat} (h:j < k) (g:(gx f j).aF=false):dP f j < dP f k:=by
 have:=tL (f:=f) (show j + 1 <= k from h)
 have:=(gJ (f:=f) j).2.2.1 g
 omega
theorem p9 {j k:Nat} (gj:(gx f j).aF=false) (gk:(gx f k).aF=false) (e:dP f j=dP f k):j=k:=by
 rcases nP j k with c | c | c
 ·have:=mF c gj
  omega
 ·exact c
 ·have:=mF c gk
  omega
theorem w8 : ∀ n x,x < dP f n -> ∃ k,k < n /\ (gx f k).aF=false /\ dP f k=x
 | 0,x,h=>absurd h (e9 _)
 | n + 1,x,h=>by
  by_cases c:x < dP f n
  ·obtain ⟨k,k1,k2⟩:=w8 n x c
   exact ⟨k,by omega,k2⟩
  ·obtain ⟨s1,s2,s3,s4⟩:=gJ (f:=f) n
   refine ⟨n,by omega,?_,by omega⟩
   cases g:(gx f n).aF with
   | false=>rfl
   | true=>have:=s4 g; omega
theorem vc : ∀ k,dP f k <= k
 | 0=>bP _
 | k + 1=>by have:=vc k; have:=(gJ (f:=f) k).2.1; omega
theorem AY : ∀ {i:Nat},(∀ j,j < i -> (gx f j).aF=false) -> dP f i=i
 | 0,_=>rfl
 | i + 1,h=>by rw [(gJ i).2.2.1 (h i (by omega)),AY fun j hj=>h j (by omega)]
theorem xb : ∀ {k:Nat},dP f k=k -> ∀ j,j < k -> (gx f j).aF=false
 | 0,_,j,hj=>absurd hj (e9 _)
 | k + 1,e,j,hj=>by
  obtain ⟨s1,s2,s3,s4⟩:=gJ (f:=f) k
  have t:=vc (f:=f) k
  have g:(gx f k).aF=false:=by
   cases g:(gx f k).aF with
   | false=>rfl
   | true=>have:=s4 g; omega
  rcases cU.1 hj with c | rfl
  ·exact xb (by have:=s3 g; omega) j c
  ·exact g
theorem xa : ∀ k,∃ l:List Nat,l.Nodup /\ (∀ x ∈ l,x < k /\ (gx f x).aF=false) /\ l.length=dP f k
 | 0=>⟨[],List.nodup_nil,fun x hx=>(by cases hx),rfl⟩
 | k + 1=>by
  obtain ⟨l,l1,l2,l3⟩:=xa k
  cases g:(gx f k).aF with
  | true=>exact ⟨l,l1,fun x hx=>⟨by have:=(l2 x hx).1; omega,(l2 x hx).2⟩,by rw [l3,(gJ k).2.2.2 g]⟩
  | false =>
   refine ⟨k :: l,oM.2 ⟨fun h=>by have:=(l2 k h).1; omega,l1⟩,fun x hx=>?_,by rw [dq,l3,(gJ k).2.2.1 g]⟩
   rcases eh.1 hx with rfl | hx
   ·exact ⟨by omega,g⟩
   ·exact ⟨by have:=(l2 x hx).1; omega,(l2 x hx).2⟩
end
abbrev tl (t:bO) (k:Nat):Int:=cW (cA.l t.ap) (k:Int)
abbrev ta (t:bO) (k:Nat):Int:=cW (cA.l t.ak) (k:Int)
def MkR (f:List be) (k:Nat) (m:Int):Prop:=(∀ j,j < k -> (gx f j).aI=true -> ((gx f j).aF=true -> m <= 2 * (j:Int) + 1) /\ ((gx f j).aF=false -> (gx f j).aH=true -> m <= 2 * (j:Int) + 2)) /\ (m=9 \/ ∃ j:Nat,j < k /\ (gx f j).aI=true /\ (((gx f j).aF=true /\ m=2 * (j:Int) + 1) \/ ((gx f j).aF=false /\ (gx f j).aH=true /\ m=2 * (j:Int) + 2)))
theorem Dd (a b:Int):BK a b <= a /\ BK a b <= b /\ (BK a b=a \/ BK a b=b):=by
 unfold BK
 split <;> omega
theorem MkR.next {f:List be} {k:Nat} {m:Int} (h:MkR f k m):MkR f (k + 1) (kZ (gx f k) k m):=by
 have up:∀ m',m' <= m -> ∀ j,j < k -> (gx f j).aI=true -> ((gx f j).aF=true -> m' <= 2 * (j:Int) + 1) /\ ((gx f j).aF=false -> (gx f j).aH=true -> m' <= 2 * (j:Int) + 2):=fun m' hm j hj ho=>⟨fun g=>Int.le_trans hm ((h.1 j hj ho).1 g),fun g g2=>Int.le_trans hm ((h.1 j hj ho).2 g g2)⟩
 have old:m=9 \/ ∃ j:Nat,j < k + 1 /\ (gx f j).aI=true /\ (((gx f j).aF=true /\ m=2 * (j:Int) + 1) \/ ((gx f j).aF=false /\ (gx f j).aH=true /\ m=2 * (j:Int) + 2)):=h.2.imp id fun ⟨j,hj,r⟩=>⟨j,by omega,r⟩
 unfold kZ
 split
 ·rename_i c1
  split
  ·rename_i c2
   obtain ⟨a1,a2,a3⟩:=Dd (2 * (k:Int) + 1) m
   refine ⟨fun j hj ho=>?_,?_⟩
   ·rcases cU.1 hj with e | rfl
    ·exact up _ a2 j e ho
    ·exact ⟨fun _=>a1,fun g=>(by rw [c2] at g; cases g)⟩
   ·rcases a3 with e | e
    ·exact .inr ⟨k,by omega,c1, .inl ⟨c2,e⟩⟩
    ·rw [e]
     exact old
  ·rename_i c2
   have c2:(gx f k).aF=false:=by simpa using c2
   split
   ·rename_i c3
    obtain ⟨a1,a2,a3⟩:=Dd (2 * (k:Int) + 2) m
    refine ⟨fun j hj ho=>?_,?_⟩
    ·rcases cU.1 hj with e | rfl
     ·exact up _ a2 j e ho
     ·exact ⟨fun g=>(by rw [c2] at g; cases g),fun _ _=>a1⟩
    ·rcases a3 with e | e
     ·exact .inr ⟨k,by omega,c1, .inr ⟨c2,c3,e⟩⟩
     ·rw [e]
      exact old
   ·rename_i c3
    refine ⟨fun j hj ho=>?_,old⟩
    rcases cU.1 hj with e | rfl
    ·exact up _ (eN _) j e ho
    ·exact ⟨fun g=>(by rw [c2] at g; cases g),fun _ g=>absurd g c3⟩
 ·rename_i c1
  refine ⟨fun j hj ho=>?_,old⟩
  rcases cU.1 hj with e | rfl
  ·exact up _ (eN _) j e ho
  ·exact absurd ho c1
structure TdR (f:List be) (k:Nat) (s:bc × cS):Prop where
 count:s.1.ai.aC=(dP f k:Int)
 now:∀ j:Nat,j < k -> (gx f j).aF=false -> cW (cS.l s.2) (j:Int)=(dP f j:Int)
 lab:∀ j,j < k -> (gx f j).aF=false -> tl s.1.ai (dP f j)=(gx f j).ap
 abv:∀ j,j < k -> (gx f j).aF=false -> ta s.1.ai (dP f j)=if 0 <= (gx f j).ak then (dP f (gx f j).ak.toNat:Int) else -1
 zero:∀ x:Nat,dP f k <= x -> x < 4 -> tl s.1.ai x=0 /\ ta s.1.ai x=0
 mark:MkR f k s.1.ay
theorem Gs {f:List be} (hl:f.length <= 12) (hc:dP f f.length <= 4) (hup:∀ k,k < f.length -> (gx f k).aF=false -> 0 <= (gx f k).ak -> (gx f k).ak < (k:Int) /\ (gx f (gx f k).ak.toNat).aF=false):∀ k,k <= f.length -> TdR f k (mM f k)
 | 0,_=>by
  refine ⟨rfl,fun j hj=>absurd hj (e9 _),fun j hj=>absurd hj (e9 _),fun j hj=>absurd hj (e9 _),fun x _ hx=>?_,⟨fun j hj=>absurd hj (e9 _), .inl rfl⟩⟩
  match x,hx with
  | 0,_=>exact ⟨rfl,rfl⟩
  | 1,_=>exact ⟨rfl,rfl⟩
  | 2,_=>exact ⟨rfl,rfl⟩
  | 3,_=>exact ⟨rfl,rfl⟩
  | x + 4,h=>omega
 | k + 1,hk=>by
  have ih:=Gs hl hc hup k (by omega)
  rw [mM]
  generalize mM f k=s at ih
  obtain ⟨h1,h2,h3,h4,h5,h6⟩:=ih
  obtain ⟨s1,s2,s3,s4⟩:=gJ (f:=f) k
  cases g:(gx f k).aF with
  | true =>
   have e:=s4 g
   have ne:∀ j,j < k + 1 -> (gx f j).aF=false -> j < k:=fun j hj gj=>by
    rcases cU.1 hj with c | rfl
    ·exact c
    ·rw [g] at gj
     cases gj
   rw [Gt,if_pos g]
   exact ⟨by rw [e]; exact h1,fun j hj gj=>h2 j (ne j hj gj) gj,fun j hj gj=>h3 j (ne j hj gj) gj,fun j hj gj=>h4 j (ne j hj gj) gj,fun x hx=>h5 x (by omega),h6.next⟩
  | false =>
   have e:=s3 g
   have c4:dP f k < 4:=by have:=mF (f:=f) (show k < f.length from hk) g; omega
   rw [Gt,if_neg (by rw [g]; simp),h1]
   have ns:∀ j:Nat,j < k + 1 -> (gx f j).aF=false -> j < k -> ((k:Int)=(j:Int))=False:=fun j _ _ hj=>by simp; omega
   refine ⟨by rw [e]; rfl,fun j hj gj=>?_,fun j hj gj=>?_,fun j hj gj=>?_,fun x hx hx4=>?_,h6.next⟩
   ·show cW (cS.l (cS.put s.2 (k:Int) (dP f k:Int))) (j:Int)=_
    rw [KG _ _ _ j (by omega)]
    split
    ·rename_i c
     rw [show j=k by omega]
    ·exact h2 j (by omega) gj
   ·show cW (cA.l (cA.put s.1.ai.ap (dP f k:Int) (gx f k).ap)) (dP f j:Int)=_
    have hj4:dP f j < 4:=by have:=tL (f:=f) (show j <= k by omega); omega
    rw [An _ _ _ _ hj4]
    split
    ·rename_i c
     rw [p9 gj g (by omega)]
    ·rename_i c
     exact h3 j (by
      rcases cU.1 hj with d | rfl
      ·exact d
      ·exact absurd rfl c) gj
   ·have hj4:dP f j < 4:=by have:=tL (f:=f) (show j <= k by omega); omega
    have lt:¬ (dP f k:Int)=(dP f j:Int) -> j < k:=fun c=>by
     rcases cU.1 hj with d | rfl
     ·exact d
     ·exact absurd rfl c
    show cW (cA.l (if 0 <= (gx f k).ak then cA.put (cA.put s.1.ai.ak (dP f k:Int) (-1)) (dP f k:Int) (cW (cS.l (cS.put s.2 (k:Int) (dP f k:Int))) (gx f k).ak) else cA.put s.1.ai.ak (dP f k:Int) (-1))) (dP f j:Int)=_
    by_cases c0:0 <= (gx f k).ak
    ·obtain ⟨u1,u2⟩:=hup k (by omega) g c0
     rw [if_pos c0,An _ _ _ _ hj4]
     split
     ·rename_i c
      rw [p9 gj g (by omega),if_pos c0]
      have:=KG s.2 (k:Int) (dP f k:Int) (gx f k).ak.toNat (by omega)
      rw [dB c0] at this
      rw [this,if_neg (by omega)]
      have:=h2 (gx f k).ak.toNat (by omega) u2
      rw [dB c0] at this
      exact this
     ·rename_i c
      rw [An _ _ _ _ hj4,if_neg c]
      exact h4 j (lt c) gj
    ·rw [if_neg c0,An _ _ _ _ hj4]
     split
     ·rename_i c
      rw [p9 gj g (by omega),if_neg c0]
     ·rename_i c
      exact h4 j (lt c) gj
   ·obtain ⟨z1,z2⟩:=h5 x (by omega) hx4
    refine ⟨?_,?_⟩
    ·show cW (cA.l (cA.put s.1.ai.ap (dP f k:Int) (gx f k).ap)) (x:Int)=_
     rw [An _ _ _ _ hx4,if_neg (by omega)]
     exact z1
    ·show cW (cA.l (if 0 <= (gx f k).ak then cA.put (cA.put s.1.ai.ak (dP f k:Int) (-1)) (dP f k:Int) (cW (cS.l (cS.put s.2 (k:Int) (dP f k:Int))) (gx f k).ak) else cA.put s.1.ai.ak (dP f k:Int) (-1))) (x:Int)=_
     split
     ·rw [An _ _ _ _ hx4,if_neg (by omega),An _ _ _ _ hx4,if_neg (by omega)]
      exact z2
     ·rw [An _ _ _ _ hx4,if_neg (by omega)]
      exact z2
end
end Go.Proofs.YtmdbjpljlniloaaGreat
