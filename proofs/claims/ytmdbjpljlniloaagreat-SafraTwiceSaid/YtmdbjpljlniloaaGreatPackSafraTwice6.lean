/- Lemmas towards the statement: mirrors of functions, and plain laws. No condition. -/
import Derived.Test.YtmdbjpljlniloaaGreatPackSafraTwice5
set_option linter.unusedSectionVars false
set_option linter.unusedSimpArgs false
set_option linter.unusedVariables false
namespace Go.Proofs.YtmdbjpljlniloaaGreat
open Go.RowKit Go.MapKept
set_option maxRecDepth 100000
noncomputable section
theorem G2 {m:Nat} {f:Nat -> Nat} (hon:∀ j,j < m -> ∃ i,i < m /\ f i=j) {i j:Nat} (hi:i < m) (hj:j < m) (h:f i=f j):i=j:=by
 refine rp fun hne=>?_
 have:=iJ (l:=List.range m) (m:=((List.range m).erase i).map f) List.nodup_range fun x hx=>by
  obtain ⟨q,hq,rfl⟩:=hon x (d6.1 hx)
  rw [cP]
  by_cases e:q=i
  ·subst e
   exact ⟨j,(List.mem_erase_of_ne (fun e=>hne e.symm)).2 (d6.2 hj),h.symm⟩
  ·exact ⟨q,(List.mem_erase_of_ne e).2 (d6.2 hq),rfl⟩
 rw [g8,df,List.length_erase_of_mem (d6.2 hi),g8] at this
 omega
theorem JI {k m:Nat} {f:Nat -> Nat} (hon:∀ j,j < k -> ∃ i,i < m /\ f i=j):k <= m:=by
 have:=iJ (l:=List.range k) (m:=(List.range m).map f) List.nodup_range fun x hx=>by
  obtain ⟨q,hq,rfl⟩:=hon x (d6.1 hx)
  exact cP.2 ⟨q,d6.2 hq,rfl⟩
 simpa using this
def mZ (c:Int):List Int:=[c % 256,c / 256 % 256]
theorem Gq {c d:Int} (hc:0 <= c /\ c < 65536) (hd:0 <= d /\ d < 65536) (h:mZ c=mZ d):c=d:=by
 unfold mZ at h
 simp only [List.cons.injEq] at h
 omega
theorem IQ {c:Int}:∀ x ∈ mZ c,0 <= x /\ x < 256:=by
 intro x hx
 unfold mZ at hx
 simp only [eh,mc,or_false] at hx
 omega
theorem IR (c:Int):[IntKind.wrap .u8 c,IntKind.wrap .u8 (Int.fdiv c (2 ^ (min 8 64)))]=mZ c:=by
 have h:((2:Int) ^ (min 8 64))=256:=by decide
 rw [h,IntKind.wrap_u8,IntKind.wrap_u8,xn _ (by omega)]
 rfl
theorem zR : ∀ {l m:List Int},(∀ x ∈ l,0 <= x /\ x < 65536) -> (∀ x ∈ m,0 <= x /\ x < 65536) -> l.flatMap mZ=m.flatMap mZ -> l=m
 | [],[],_,_,_=>rfl
 | [],_ :: _,_,_,h=>by simp [mZ] at h
 | _ :: _,[],_,_,h=>by simp [mZ] at h
 | x :: l,y :: m,hl,hm,h=>by
  rw [jP,jP] at h
  have h1:=List.append_inj h (by simp [mZ])
  rw [Gq (hl x fD) (hm y fD) h1.1,zR (fun z hz=>hl z (d7 _ hz)) (fun z hz=>hm z (d7 _ hz)) h1.2]
theorem Cr {l:List Int}:∀ x ∈ l.flatMap mZ,0 <= x /\ x < 256:=fun x hx=>by
 obtain ⟨c,_,h⟩:=ib.1 hx
 exact IQ x h
def gR (cls:List Int) (r:List Int):List Int:=r.map fun t=>cls.getD t.toNat 0
def jR (cls:List Int) (q:Nat) (r:List Int):bN:=⟨cls.getD q 0,d5 ((gR cls r).flatMap mZ)⟩
structure ri (N:List (List Int)) (cls next:List Int) (m:Nat):Prop where
 len:next.length=N.length
 range:∀ x ∈ next,0 <= x /\ x < (m:Int)
 onto:∀ j:Nat,j < m -> (j:Int) ∈ next
 same:∀ (p q:Nat) (r s:List Int) (x y:Int),N[p]? = some r -> N[q]? = some s -> next[p]? = some x -> next[q]? = some y -> (x=y ↔ jR cls p r=jR cls q s)
structure Cf (d:bz):Prop where
 size:d.aa.length <= 65536
 next:∀ r ∈ d.aa,∀ x ∈ r,0 <= x /\ x < (d.aa.length:Int)
 wide:∀ r ∈ d.aa,r.length <= 1000
 marks:d.ay.length=d.aa.length
 small:∀ x ∈ d.ay,0 <= x /\ x < 65536
structure px (N:List (List Int)) (cls:List Int) (q:Nat) (m2:List (bN × Int)) (next:List Int):Prop where
 len:next.length=N.length
 get:∀ (p:Nat) (r:List Int),p < q -> N[p]? = some r -> ∃ x:Int,next[p]? = some x /\ fm (jR cls p r) m2=some x
 range:∀ (k:bN) (x:Int),fm k m2=some x -> 0 <= x /\ x < (m2.length:Int)
 inj:∀ (k l:bN) (x:Int),fm k m2=some x -> fm l m2=some x -> k=l
 onto:∀ j:Nat,j < m2.length -> ∃ p:Nat,p < q /\ next[p]? = some (j:Int)
 size:m2.length <= q
theorem sH {κ:Type} [DecidableEq κ] {a:κ} {v:Int}:∀ {D:List (κ × Int)},fm a D=none -> (fM a v D).length=D.length + 1
 | [],_=>rfl
 | x :: D,h=>by
  rw [fm] at h
  split at h
  ·cases h
  ·rename_i e
   rw [fM,if_neg e,dq,sH h,dq]
theorem px.start {N:List (List Int)} {cls next:List Int} (h:next.length=N.length):px N cls 0 [] next:=
 ⟨h,fun p r hp=>absurd hp (e9 _),fun k x e=>by simp [fm] at e,fun k l x e=>by simp [fm] at e,fun j hj=>by simp at hj,bP _⟩
theorem px.known {N:List (List Int)} {cls next:List Int} {q:Nat} {m2:List (bN × Int)} (h:px N cls q m2 next) {r:List Int} (hr:N[q]? = some r) {x:Int} (hx:fm (jR cls q r) m2=some x):px N cls (q + 1) m2 (next.set q x):=by
 have hq:q < next.length:=by rw [h.len]; exact (cg.1 hr).1
 refine ⟨by simp [h.len],fun p s hp hs=>?_,h.range,h.inj,fun j hj=>?_,Nat.le_succ_of_le h.size⟩
 ·by_cases e:p=q
  ·subst e
   rw [hr] at hs
   cases hs
   exact ⟨x,by rw [ro hq],hx⟩
  ·obtain ⟨y,h1,h2⟩:=h.get p s (by omega) hs
   exact ⟨y,by rw [mP (Ne.symm e)]; exact h1,h2⟩
 ·obtain ⟨p,h1,h2⟩:=h.onto j hj
  exact ⟨p,by omega,by rw [mP (by omega)]; exact h2⟩
theorem px.new {N:List (List Int)} {cls next:List Int} {q:Nat} {m2:List (bN × Int)} (h:px N cls q m2 next) {r:List Int} (hr:N[q]? = some r) (hx:fm (jR cls q r) m2=none):px N cls (q + 1) (fM (jR cls q r) (m2.length:Int) m2) (next.set q (m2.length:Int)):=by
 have hq:q < next.length:=by rw [h.len]; exact (cg.1 hr).1
 have hl:=sH (v:=(m2.length:Int)) hx
 refine ⟨by simp [h.len],fun p s hp hs=>?_,fun k x e=>?_,fun k l x e1 e2=>?_,fun j hj=>?_,by rw [hl]; have:=h.size; omega⟩
 ·by_cases e:p=q
  ·subst e
   rw [hr] at hs
   cases hs
   exact ⟨_,by rw [ro hq],by rw [kx,if_pos rfl]⟩
  ·obtain ⟨y,h1,h2⟩:=h.get p s (by omega) hs
   refine ⟨y,by rw [mP (Ne.symm e)]; exact h1,?_⟩
   rw [kx,if_neg (fun e2=>by rw [e2,hx] at h2; cases h2)]
   exact h2
 ·rw [kx] at e
  rw [hl]
  split at e
  ·cases e; omega
  ·have:=h.range k x e
   omega
 ·rw [kx] at e1 e2
  split at e1 <;> split at e2
  ·rename_i a b; rw [a,b]
  ·cases e1
   have:=h.range l _ e2
   omega
  ·cases e2
   have:=h.range k _ e1
   omega
  ·exact h.inj k l x e1 e2
 ·rw [hl] at hj
  by_cases e:j=m2.length
  ·subst e
   exact ⟨q,by omega,by rw [ro hq]⟩
  ·obtain ⟨p,h1,h2⟩:=h.onto j (by omega)
   exact ⟨p,by omega,by rw [mP (by omega)]; exact h2⟩
theorem px.round {N:List (List Int)} {cls next:List Int} {m2:List (bN × Int)} (h:px N cls N.length m2 next):ri N cls next m2.length:=by
 have hget:∀ (p:Nat) (r:List Int) (x:Int),N[p]? = some r -> next[p]? = some x -> fm (jR cls p r) m2=some x:=fun p r x h1 h2=>by
  obtain ⟨y,h3,h4⟩:=h.get p r (cg.1 h1).1 h1
  rw [h2] at h3
  cases h3
  exact h4
 refine ⟨h.len,fun x hx=>?_,fun j hj=>?_,fun p q r s x y h1 h2 h3 h4=>?_⟩
 ·obtain ⟨p,hp⟩:=iB hx
  have hlt:=(cg.1 hp).1
  rw [h.len] at hlt
  exact h.range _ x (hget p _ x (cO hlt) hp)
 ·obtain ⟨p,_,h2⟩:=h.onto j hj
  exact dC h2
 ·have k1:=hget p r x h1 h3
  have k2:=hget q s y h2 h4
  constructor
  ·rintro rfl
   exact h.inj _ _ x k1 k2
  ·intro e
   rw [e,k2] at k1
   cases k1
   rfl
theorem CB {d:bz} {L p q a:Nat} (h:rs L (fH d p)=rs L (fH d q)) (ha:a < L):rs L (fH d (im d p a))=rs L (fH d (im d q a)):=
 nc fun w hw=>Aa (w:=a :: w) h fun b hb=>(eh.1 hb).elim (fun e=>e ▸ ha) (hw b)
structure lz (d:bz) (L:Nat) (x4:Int) (cls:List Int):Prop where
 len:cls.length=d.aa.length
 range:∀ x ∈ cls,0 <= x /\ x < 65536
 sound:∀ p q,p < d.aa.length -> q < d.aa.length -> rs L (fH d p)=rs L (fH d q) -> cls.getD p 0=cls.getD q 0
 marks:∀ p q,p < d.aa.length -> q < d.aa.length -> cls.getD p 0=cls.getD q 0 -> d.ay.getD p 0=d.ay.getD q 0
 count:x4=0 \/ ∃ m:Nat,x4=m /\ m <= d.aa.length /\ (∀ x ∈ cls,0 <= x /\ x < (m:Int)) /\ ∀ j:Nat,j < m -> (j:Int) ∈ cls
theorem dx {α:Type} {l:List α} {i:Nat} {z:α} (h:i < l.length):l.getD i z ∈ l:=by
 rw [er,cO h]
 exact dK h
theorem getD_some {α:Type} {l:List α} {i:Nat} {z:α} (h:i < l.length):l[i]? = some (l.getD i z):=by
 rw [er,cO h]
 rfl
section
variable {d:bz} (hd:Cf d) {L:Nat} (hL:∀ r ∈ d.aa,r.length=L)
include hd
theorem Cf.step {q a:Nat} (hq:q < d.aa.length):im d q a < d.aa.length:=by
 unfold im
 have hr:=dx (z:=[]) hq
 by_cases h:a < (d.aa.getD q []).length
 ·have:=hd.next _ hr _ (dx (z:=0) h)
  omega
 ·rw [er (l:=d.aa.getD q []),ko (by omega)]
  simp only [Option.getD_none]
  omega
theorem rU {cls:List Int} (hr:∀ x ∈ cls,0 <= x /\ x < 65536) (hlen:cls.length=d.aa.length) {p q:Nat} (hp:p < d.aa.length) (hq:q < d.aa.length) (hrows:(d.aa.getD p []).length=(d.aa.getD q []).length) :
  jR cls p (d.aa.getD p [])=jR cls q (d.aa.getD q []) ↔ cls.getD p 0=cls.getD q 0 /\ ∀ a,a < (d.aa.getD p []).length -> cls.getD (im d p a) 0=cls.getD (im d q a) 0:=by
 have hin:∀ r ∈ d.aa,∀ x ∈ gR cls r,0 <= x /\ x < 65536:=fun r hr2 x hx=>by
  obtain ⟨t,ht,rfl⟩:=cP.1 hx
  have:=hd.next r hr2 t ht
  exact hr _ (dx (by omega))
 unfold jR
 simp only [bN.mk.injEq]
 refine and_congr Iff.rfl ⟨fun h a ha=>?_,fun h=>?_⟩
 ·have h1:=zR (hin _ (dx hp)) (hin _ (dx hq)) (A2 Cr Cr h)
  have h2:=cZ (fun l=>l[a]?) h1
  simp only [gR,cY,getD_some (z:=(0:Int)) ha,getD_some (z:=(0:Int)) (show a < (d.aa.getD q []).length by omega),eO,Option.some.injEq] at h2
  exact h2
 ·have:gR cls (d.aa.getD p [])=gR cls (d.aa.getD q []):=by
   unfold gR
   refine mX fun a=>?_
   rw [cY,cY]
   by_cases ha:a < (d.aa.getD p []).length
   ·rw [getD_some (z:=(0:Int)) ha,getD_some (z:=(0:Int)) (show a < (d.aa.getD q []).length by omega),eO,eO]
    exact cZ some (h a ha)
   ·rw [ko (by omega),ko (by omega)]
  rw [this]
include hL
theorem lz.next {cls next:List Int} {x4:Int} {m:Nat} (h:lz d L x4 cls) (hR:ri d.aa cls next m) (hm:m <= d.aa.length):lz d L m next:=by
 have hrow:∀ p,p < d.aa.length -> (d.aa.getD p []).length=L:=fun p hp=>hL _ (dx hp)
 have key:∀ p q,p < d.aa.length -> q < d.aa.length -> (next.getD p 0=next.getD q 0 ↔ cls.getD p 0=cls.getD q 0 /\ ∀ a,a < L -> cls.getD (im d p a) 0=cls.getD (im d q a) 0):=fun p q hp hq=>by
  rw [hR.same p q _ _ _ _ (getD_some (z:=[]) hp) (getD_some (z:=[]) hq) (getD_some (z:=0) (by rw [hR.len]; exact hp)) (getD_some (z:=0) (by rw [hR.len]; exact hq)),rU hd h.range h.len hp hq (by rw [hrow p hp,hrow q hq]),hrow p hp]
 have h65:=hd.size
 refine ⟨hR.len,fun x hx=>by have:=hR.range x hx; omega,fun p q hp hq hw=>?_,fun p q hp hq e=>h.marks p q hp hq ((key p q hp hq).1 e).1, .inr ⟨m,rfl,hm,hR.range,hR.onto⟩⟩
 exact (key p q hp hq).2 ⟨h.sound p q hp hq hw,fun a ha=>h.sound _ _ (hd.step hp) (hd.step hq) (CB hw ha)⟩
theorem lz.factor {cls next:List Int} {x4:Int} {m:Nat} (h:lz d L x4 cls) (hR:ri d.aa cls next m):∃ f:Nat -> Nat,∀ i,i < d.aa.length -> f (next.getD i 0).toNat=(cls.getD i 0).toNat:=by
 have hrow:∀ p,p < d.aa.length -> (d.aa.getD p []).length=L:=fun p hp=>hL _ (dx hp)
 have key:∀ p q,p < d.aa.length -> q < d.aa.length -> next.getD p 0=next.getD q 0 -> cls.getD p 0=cls.getD q 0:=fun p q hp hq e =>
  ((rU hd h.range h.len hp hq (by rw [hrow p hp,hrow q hq])).1 ((hR.same p q _ _ _ _ (getD_some (z:=[]) hp) (getD_some (z:=[]) hq) (getD_some (z:=0) (by rw [hR.len]; exact hp)) (getD_some (z:=0) (by rw [hR.len]; exact hq))).1 e)).1
 have hx:∀ j:Nat,j < m -> ∃ i:Nat,i < d.aa.length /\ next.getD i 0=(j:Int):=fun j hj=>by
  obtain ⟨i,hi⟩:=iB (hR.onto j hj)
  have hlt:=(cg.1 hi).1
  exact ⟨i,by rw [hR.len] at hlt; exact hlt,by simp [hi]⟩
 refine ⟨fun j=>if hj:j < m then (cls.getD (hx j hj).choose 0).toNat else 0,fun i hi=>?_⟩
 have hr:=hR.range _ (dx (l:=next) (z:=0) (by rw [hR.len]; exact hi))
 have hj:(next.getD i 0).toNat < m:=by omega
 show (if hj:_ then _ else _)=_
 rw [dif_pos hj]
 obtain ⟨k1,k2⟩:=(hx _ hj).choose_spec
 rw [key _ i k1 hi (by rw [k2]; omega)]
theorem lz.le {cls next:List Int} {x4:Int} {m:Nat} (h:lz d L x4 cls) (hR:ri d.aa cls next m):x4 <= m:=by
 rcases h.count with h0 | ⟨m',h1,h2,h3,h4⟩
 ·omega
 ·obtain ⟨f,hf⟩:=h.factor hd hL hR
  have:=JI (k:=m') (m:=m) (f:=f) fun j hj=>by
   obtain ⟨i,hi⟩:=iB (h4 j hj)
   have hlt:=(cg.1 hi).1
   rw [h.len] at hlt
   have hr:=hR.range _ (dx (l:=next) (z:=0) (by rw [hR.len]; exact hlt))
   refine ⟨(next.getD i 0).toNat,by omega,?_⟩
   rw [hf i hlt]
   simp [hi]
  omega
theorem lz.ends {cls next:List Int} {x4:Int} {m:Nat} (h:lz d L x4 cls) (hR:ri d.aa cls next m) (hm:m <= d.aa.length) (he:(m:Int)=x4):∀ p q,p < d.aa.length -> q < d.aa.length -> (next.getD p 0=next.getD q 0 ↔ rs L (fH d p)=rs L (fH d q)):=by
 have hrow:∀ p,p < d.aa.length -> (d.aa.getD p []).length=L:=fun p hp=>hL _ (dx hp)
 have key:∀ p q,p < d.aa.length -> q < d.aa.length -> (next.getD p 0=next.getD q 0 ↔ cls.getD p 0=cls.getD q 0 /\ ∀ a,a < L -> cls.getD (im d p a) 0=cls.getD (im d q a) 0):=fun p q hp hq=>by
  rw [hR.same p q _ _ _ _ (getD_some (z:=[]) hp) (getD_some (z:=[]) hq) (getD_some (z:=0) (by rw [hR.len]; exact hp)) (getD_some (z:=0) (by rw [hR.len]; exact hq)),rU hd h.range h.len hp hq (by rw [hrow p hp,hrow q hq]),hrow p hp]
 intro p q hp hq
 -- no class was split
 have stay:∀ p q,p < d.aa.length -> q < d.aa.length -> cls.getD p 0=cls.getD q 0 -> next.getD p 0=next.getD q 0:=by
  intro p q hp hq e
  have hnp:=hR.range _ (dx (l:=next) (z:=0) (by rw [hR.len]; exact hp))
  have hnq:=hR.range _ (dx (l:=next) (z:=0) (by rw [hR.len]; exact hq))
  rcases h.count with h0 | ⟨m',h1,h2,h3,h4⟩
  ·omega
  ·have hmm:m'=m:=by omega
   subst hmm
   obtain ⟨f,hf⟩:=h.factor hd hL hR
   have hon:∀ j,j < m' -> ∃ i,i < m' /\ f i=j:=fun j hj=>by
    obtain ⟨i,hi⟩:=iB (h4 j hj)
    have hlt:=(cg.1 hi).1
    rw [h.len] at hlt
    have hr:=hR.range _ (dx (l:=next) (z:=0) (by rw [hR.len]; exact hlt))
    refine ⟨(next.getD i 0).toNat,by omega,?_⟩
    rw [hf i hlt]
    simp [hi]
   have:=G2 hon (i:=(next.getD p 0).toNat) (j:=(next.getD q 0).toNat) (by omega) (by omega) (by rw [hf p hp,hf q hq,e])
   omega
 constructor
 ·intro e
  have go:∀ (w:List Nat) (p q:Nat),p < d.aa.length -> q < d.aa.length -> next.getD p 0=next.getD q 0 -> (∀ a ∈ w,a < L) -> fH d p w=fH d q w:=by
   intro w
   induction w with
   | nil=>exact fun p q hp hq e _=>h.marks p q hp hq ((key p q hp hq).1 e).1
   | cons a w ih =>
    intro p q hp hq e hw
    exact ih (im d p a) (im d q a) (hd.step hp) (hd.step hq) (stay _ _ (hd.step hp) (hd.step hq) (((key p q hp hq).1 e).2 a (hw a fD))) fun b hb=>hw b (d7 _ hb)
  exact nc fun w hw=>go w p q hp hq e hw
 ·exact fun e=>(key p q hp hq).2 ⟨h.sound p q hp hq e,fun a ha=>h.sound _ _ (hd.step hp) (hd.step hq) (CB e ha)⟩
end
structure mL (d:bz):Prop where
 wf:Wf d
 size:d.aa.length <= 65536
 wide:d.ae <= 1000
 small:∀ x ∈ d.ay,0 <= x /\ x < 65536
theorem mL.pre {d:bz} (h:mL d):Cf d:=
 ⟨h.size,h.wf.next,fun r hr=>by have:=h.wf.rows r hr; have:=h.wide; have:=h.wf.letters; omega,h.wf.mark,h.small⟩
structure kU (d:bz) (cls:List Int):Prop where
 len:cls.length=d.aa.length
 range:∀ x ∈ cls,0 <= x /\ x < (d.aa.length:Int)
 same:∀ p q,p < d.aa.length -> q < d.aa.length -> (cls.getD p 0=cls.getD q 0 ↔ rs d.ae.toNat (fH d p)=rs d.ae.toNat (fH d q))
theorem vT (d:bz) (h:mL d):pl d (kU d):=by
 have hd:=h.pre
 have hsz:=h.size
 have hL:∀ r ∈ d.aa,r.length=d.ae.toNat:=h.wf.rows
 intro _ _
 refine ⟨by rw [h.wf.mark]; omega,fun x4 l1=>lz d d.ae.toNat x4 l1,fun x4 _=>((d.aa.length:Int) + 1 - x4).toNat,⟨h.wf.mark,h.small,fun p q _ _ e=>?_,fun p q _ _ e=>e, .inl rfl⟩,?_⟩
 ·exact Aa (w:=[]) e fun b hb=>by simp at hb
 intro x4 l1 hI
 refine ⟨⟨by omega,eN _,by rw [hI.len]; omega⟩,fun x m next=>∃ q:Nat,x=q /\ q <= d.aa.length /\ px d.aa l1 q m next,fun x _ _=>d.aa.length - x.toNat,⟨0,rfl,cy _,px.start (by simp [hI.len])⟩,?_⟩
 rintro x m2 l3 ⟨q,rfl,hq,hH⟩
 refine ⟨fun hb=>?_,fun hb=>?_⟩
 ·have hlt:q < d.aa.length:=by
   have:=ca hb
   omega
  have he:d.aa[q]? = some d.aa[q]:=cO hlt
  generalize d.aa[q]=e at he
  have hem:=dC he
  have hew:=hd.wide e hem
  refine ⟨e,by simp [cq,he],fun x l=>∃ a:Nat,x=a /\ a <= e.length /\ l=((gR l1 e).take a).flatMap mZ,fun x _=>e.length - x.toNat,⟨0,rfl,cy _,by simp⟩,?_⟩
  rintro x l4 ⟨a,rfl,ha,rfl⟩
  refine ⟨fun hb2=>?_,fun hb2=>?_⟩
  ·have hlt2:a < e.length:=by
    have:=ca hb2
    omega
   have hx:=hd.next e hem _ (dK hlt2)
   have hg:cq l1 e[a]=some (l1.getD e[a].toNat 0):=by
    unfold cq
    rw [if_pos hx.1]
    exact getD_some (by rw [hI.len]; omega)
   have hlen:(((gR l1 e).take a).flatMap mZ).length=2 * a:=by
    rw [List.length_flatMap]
    have:(List.map (fun x=>(mZ x).length) (List.take a (gR l1 e)))=List.replicate a 2:=by
     rw [List.eq_replicate_iff]
     refine ⟨by simp [gR]; omega,fun z hz=>?_⟩
     obtain ⟨y,_,rfl⟩:=cP.1 hz
     rfl
    rw [this]
    simp
    omega
   refine ⟨e[a],by simp [cq,hlt2],_,hg,_,hg,?_,?_,?_⟩
   ·unfold ed
    rw [hlen]
    simp only [dq,dI]
    omega
   ·refine ⟨a + 1,?_,hlt2,?_⟩
    ·rw [bL (by omega) (by omega)]
     omega
    ·rw [IR,ia,List.flatMap_append]
     congr 1
     have:(gR l1 e)[a]? = some (l1.getD e[a].toNat 0):=by
      unfold gR
      rw [cY,cO hlt2]
      rfl
     rw [this]
     simp
   ·rw [bL (by omega) (by omega)]
    simp only
    omega
  ·have hae:a=e.length:=by
    have:=cx hb2
    omega
   subst hae
   have hall:(gR l1 e).take e.length=gR l1 e:=f8 (by simp [gR])
   rw [hall]
   have hq1:cq l1 (q:Int)=some (l1.getD q 0):=by
    unfold cq
    rw [if_pos (by omega),bE]
    exact getD_some (by rw [hI.len]; exact hlt)
   have hkey:(bN.mk (l1.getD q 0) (d5 ((gR l1 e).flatMap mZ)))=jR l1 q e:=rfl
   refine ⟨l1.getD q 0,hq1,fun m=>px d.aa l1 (q + 1) m (l3.set q ((fm (jR l1 q e) m).getD 0)),?_,?_⟩
   ·rw [hkey]
    cases hm:fm (jR l1 q e) m2 with
    | none =>
     refine ⟨fun _=>?_,fun h=>(by cases h)⟩
     show px _ _ _ _ (l3.set q ((fm (jR l1 q e) (fM (jR l1 q e) (m2.length:Int) m2)).getD 0))
     rw [kx,if_pos rfl]
     exact hH.new he hm
    | some y =>
     refine ⟨fun h=>(by cases h),fun _=>?_⟩
     show px _ _ _ _ (l3.set q ((fm (jR l1 q e) m2).getD 0))
     rw [hm]
     exact hH.known he hm
   ·intro m3 hm3
    refine ⟨l3.getD q 0,?_,⟨q + 1,?_,hlt,?_⟩,?_⟩
    ·unfold cq
     rw [if_pos (by omega),bE]
     exact getD_some (by rw [hH.len]; exact hlt)
    ·rw [bL (by omega) (by omega)]
     omega
    ·rw [bE,hkey]
     exact hm3
    ·rw [bL (by omega) (by omega)]
     simp only
     omega
 ·have hqe:q=d.aa.length:=by
   have:=cx hb
   omega
  subst hqe
  have hR:=hH.round
  have hle:=hH.size
  refine ⟨fun he=>?_,fun he=>⟨hI.next hd hL hR hle,?_⟩⟩
  ·have he:(m2.length:Int)=x4:=by simpa using he
   exact ⟨hR.len,fun x hx=>by have:=hR.range x hx; omega,hI.ends hd hL hR hle he⟩
  ·have he:(m2.length:Int) ≠ x4:=by simpa using he
   have:=hI.le hd hL hR
   simp only
   omega
theorem BZ (d:bz) (h:mL d):Ct 65 [.sv (.agg [I d.ae,I d.af,LS (cB aZ) d.aa,LS aZ d.ay])] [] (kU d) (fun r=>.sv (.one (LS aZ r))):=yZ d _ (vT d h)
def tT {K:Type} (letters:Int) (start:K) (domgo:(K × Int) -> Prop) (go:(K × Int) -> K) (dommark:K -> Prop) (limit:Int):Prop:=
 (0 <= letters /\ letters <= 1000) /\ (1 <= limit /\ limit <= 2097152) /\ ∃ P:K -> Prop,P start /\ (∀ k (a:Nat),P k -> (a:Int) < letters -> domgo (k,(a:Int)) /\ P (go (k,(a:Int)))) /\ ∀ k,P k -> dommark k
theorem nC (letters:Int) (start:bc) (domgo:((bc × Int) -> Prop)) (go:((bc × Int) -> bc)) (dommark:(bc -> Prop)) (mark:(bc -> Int)) (limit:Int) (hp:tT letters start domgo go dommark limit):Ct 33 [.sv (.one (I letters)), .sv (.agg [I start.ai.aC,I start.ai.ap.aj,I start.ai.ap.aq,I start.ai.ap.aw,I start.ai.ap.ax,I start.ai.ak.aj,I start.ai.ak.aq,I start.ai.ak.aw,I start.ai.ak.ax,I start.ay]), .sv (.one (fv5 domgo go)), .sv (.one (fv6 dommark mark)), .sv (.one (I limit))] [] (fun (_:Unit)=>True) (fun _=>.tup [.agg [I (dh (fun k (a:Nat)=>go (k,(a:Int))) mark letters.toNat start limit).1.ae,I (dh (fun k (a:Nat)=>go (k,(a:Int))) mark letters.toNat start limit).1.af,LS (cB aZ) (dh (fun k (a:Nat)=>go (k,(a:Int))) mark letters.toNat start limit).1.aa,LS aZ (dh (fun k (a:Nat)=>go (k,(a:Int))) mark letters.toNat start limit).1.ay], .one (B (dh (fun k (a:Nat)=>go (k,(a:Int))) mark letters.toNat start limit).2)]):=by
 refine (mC letters start domgo go dommark mark limit (fun res_=>res_=(dh (fun k (a:Nat)=>go (k,(a:Int))) mark letters.toNat start limit)) ?_).fun
 obtain ⟨h1,h2,P,h3,h4,h5⟩:=hp
 exact oE letters start domgo go dommark mark limit 80 (fun r=>r=dh (fun k (a:Nat)=>go (k,(a:Int))) mark letters.toNat start limit) P h3 h4 h5 h1 h2 (by decide) rfl
theorem vR (letters:Int) (start:Int) (domgo:((Int × Int) -> Prop)) (go:((Int × Int) -> Int)) (dommark:(Int -> Prop)) (mark:(Int -> Int)) (limit:Int) (hp:tT letters start domgo go dommark limit):Ct 66 [.sv (.one (I letters)), .sv (.one (I start)), .sv (.one (fv7 domgo go)), .sv (.one (fv8 dommark mark)), .sv (.one (I limit))] [] (fun (_:Unit)=>True) (fun _=>.tup [.agg [I (dh (fun k (a:Nat)=>go (k,(a:Int))) mark letters.toNat start limit).1.ae,I (dh (fun k (a:Nat)=>go (k,(a:Int))) mark letters.toNat start limit).1.af,LS (cB aZ) (dh (fun k (a:Nat)=>go (k,(a:Int))) mark letters.toNat start limit).1.aa,LS aZ (dh (fun k (a:Nat)=>go (k,(a:Int))) mark letters.toNat start limit).1.ay], .one (B (dh (fun k (a:Nat)=>go (k,(a:Int))) mark letters.toNat start limit).2)]):=by
 refine (sZ letters start domgo go dommark mark limit (fun res_=>res_=(dh (fun k (a:Nat)=>go (k,(a:Int))) mark letters.toNat start limit)) ?_).fun
 obtain ⟨h1,h2,P,h3,h4,h5⟩:=hp
 exact oE letters start domgo go dommark mark limit 8 (fun r=>r=dh (fun k (a:Nat)=>go (k,(a:Int))) mark letters.toNat start limit) P h3 h4 h5 h1 h2 (by decide) rfl
def CE (k:Int) (a:Int) (cls:List Int) (d:bz) (back:List Int) (Q:Int -> Prop):Prop:=
 ∃ e,cq back k=some e /\
 ∃ e_2,cq d.aa e=some e_2 /\
 ∃ e_3,cq e_2 a=some e_3 /\
 ∃ e_4,cq cls e_3=some e_4 /\
 Q e_4
abbrev JA (cls:List Int) (d:bz) (back:List Int):=([.box [LS aZ cls] 22 true, .box [I d.ae,I d.af,LS (cB aZ) d.aa,LS aZ d.ay] 35 true, .box [LS aZ back] 22 true]:List br)
abbrev Lo (k:Int) (a:Int) (cls:List Int) (d:bz) (back:List Int):=([bg 0 (I k),bg 1 (I a),bg 2 (.ptr 0 0),bg 3 (.ptr 1 0),bg 4 (.ptr 2 0),bg 8 (LS aZ cls),bg 9 (.ptr 1 2),bg 10 (LS (cB aZ) d.aa),bg 11 (LS aZ back),bg 12 (I k)]:List (Nat × SC))
theorem Eb (k:Int) (a:Int) (cls:List Int) (d:bz) (back:List Int) (Q:Int -> Prop) (h:CE k a cls d back Q):Ct 67 [.sv (.one (I k)), .sv (.one (I a)), .sv (.one (.ptr 0 0)), .sv (.one (.ptr 1 0)), .sv (.one (.ptr 2 0))] [.box [LS aZ cls] 22 true, .box [I d.ae,I d.af,LS (cB aZ) d.aa,LS aZ d.ay] 35 true, .box [LS aZ back] 22 true] Q (fun (r:Int)=>.sv (.one (I r))):=by
 have ht:=bA
 refine Ct.body Tryz.func67 rfl rfl rfl rfl (fun c hn=>?_)
 unfold CE at h
 refine bp (cw ht hn 1 ⟨[ba 0 k,ba 1 a,bu 2 0 0,bu 3 1 0,bu 4 2 0],(JA cls d back)⟩ ?_)
 refine bi (fU (by kernel_rfl) (by kernel_rfl) ?_)
 refine eV ht hn 5 ⟨(Lo k a cls d back),(JA cls d back)⟩ (by kernel_rfl) ?_
 obtain ⟨e,he,h⟩:=h
 refine dr hn (by rfl) (gQ (T:=aZ) (l:=back) (i:=k) ht rfl he) (by rfl) ?_
 refine dr hn (by rfl) (fQ (s:=.one (I e)) ht rfl) (by rfl) ?_
 obtain ⟨e_2,he_2,h⟩:=h
 refine dr hn (by rfl) (gQ (T:=(cB aZ)) (l:=d.aa) (i:=e) ht rfl he_2) (by rfl) ?_
 refine dr hn (by rfl) (fQ (s:=.one (LS aZ e_2)) ht rfl) (by rfl) ?_
 refine eV ht hn 1 ⟨sl 13 (.pe (eu (.one (I e))) 1) :: ba 14 e :: bg 15 (.pe (eu (.one (LS aZ e_2))) 1) :: bg 16 (LS aZ e_2) :: ba 17 a :: (Lo k a cls d back),(JA cls d back)⟩ (by kernel_rfl) ?_
 obtain ⟨e_3,he_3,h⟩:=h
 refine dr hn (by rfl) (gQ (T:=aZ) (l:=e_2) (i:=a) ht rfl he_3) (by rfl) ?_
 refine dr hn (by rfl) (fQ (s:=.one (I e_3)) ht rfl) (by rfl) ?_
 obtain ⟨e_4,he_4,h⟩:=h
 refine dr hn (by rfl) (gQ (T:=aZ) (l:=cls) (i:=e_3) ht rfl he_4) (by rfl) ?_
 refine dr hn (by rfl) (fQ (s:=.one (I e_4)) ht rfl) (by rfl) ?_
 refine eV ht hn 1 ⟨ba 7 e_4 :: bg 13 (.pe (eu (.one (I e))) 1) :: ba 14 e :: bg 15 (.pe (eu (.one (LS aZ e_2))) 1) :: bg 16 (LS aZ e_2) :: ba 17 a :: bg 18 (.pe (eu (.one (I e_3))) 1) :: ba 19 e_3 :: bg 20 (.pe (eu (.one (I e_4))) 1) :: ba 21 e_4 :: (Lo k a cls d back),(JA cls d back)⟩ (by kernel_rfl) ?_
 refine lu ⟨by kernel_rfl,?_⟩
 exact fL ht e_4 h
theorem Ni : ∀ args w,(callFunc 67 args).run Tryz.prog w=.ok (.enter 67 args) w:=enters_of Tryz.func67 (by kernel_rfl) rfl
def v9 (k:Int) (d:bz) (back:List Int) (Q:Int -> Prop):Prop:=
 ∃ e,cq back k=some e /\
 ∃ e_2,cq d.ay e=some e_2 /\
 Q e_2
abbrev Ln (d:bz) (back:List Int):=([.box [I d.ae,I d.af,LS (cB aZ) d.aa,LS aZ d.ay] 35 true, .box [LS aZ back] 22 true]:List br)
theorem z5 (k:Int) (d:bz) (back:List Int) (Q:Int -> Prop) (h:v9 k d back Q):Ct 68 [.sv (.one (I k)), .sv (.one (.ptr 0 0)), .sv (.one (.ptr 1 0))] [.box [I d.ae,I d.af,LS (cB aZ) d.aa,LS aZ d.ay] 35 true, .box [LS aZ back] 22 true] Q (fun (r:Int)=>.sv (.one (I r))):=by
 have ht:=bA
 refine Ct.body Tryz.func68 rfl rfl rfl rfl (fun c hn=>?_)
 unfold v9 at h
 refine bp (cw ht hn 1 ⟨[ba 0 k,bu 1 0 0,bu 2 1 0],(Ln d back)⟩ ?_)
 refine bi (fU (by kernel_rfl) (by kernel_rfl) ?_)
 refine eV ht hn 4 ⟨[ba 0 k,bu 1 0 0,bu 2 1 0,bu 5 0 3,bg 6 (LS aZ d.ay),bg 7 (LS aZ back),ba 8 k],(Ln d back)⟩ (by kernel_rfl) ?_
 obtain ⟨e,he,h⟩:=h
 refine dr hn (by rfl) (gQ (T:=aZ) (l:=back) (i:=k) ht rfl he) (by rfl) ?_
 refine dr hn (by rfl) (fQ (s:=.one (I e)) ht rfl) (by rfl) ?_
 obtain ⟨e_2,he_2,h⟩:=h
 refine dr hn (by rfl) (gQ (T:=aZ) (l:=d.ay) (i:=e) ht rfl he_2) (by rfl) ?_
 refine dr hn (by rfl) (fQ (s:=.one (I e_2)) ht rfl) (by rfl) ?_
 refine eV ht hn 1 ⟨ba 4 e_2 :: bg 9 (.pe (eu (.one (I e))) 1) :: ba 10 e :: bg 11 (.pe (eu (.one (I e_2))) 1) :: ba 12 e_2 :: [ba 0 k,bu 1 0 0,bu 2 1 0,bu 5 0 3,bg 6 (LS aZ d.ay),bg 7 (LS aZ back),ba 8 k],(Ln d back)⟩ (by kernel_rfl) ?_
 refine lu ⟨by kernel_rfl,?_⟩
 exact fL ht e_2 h
theorem Nh : ∀ args w,(callFunc 68 args).run Tryz.prog w=.ok (.enter 68 args) w:=enters_of Tryz.func68 (by kernel_rfl) rfl
def fX (cls:List Int) (d:bz) (back:List Int) (c a:Int):Int:=cls.getD ((d.aa.getD (back.getD c.toNat 0).toNat []).getD a.toNat 0).toNat 0
def wc (cls:List Int) (d:bz) (back:List Int) (c a:Int):Prop:=(0 <= c /\ c < (back.length:Int)) /\ (0 <= back.getD c.toNat 0 /\ back.getD c.toNat 0 < (d.aa.length:Int)) /\ (0 <= a /\ a < ((d.aa.getD (back.getD c.toNat 0).toNat []).length:Int)) /\ 0 <= (d.aa.getD (back.getD c.toNat 0).toNat []).getD a.toNat 0 /\ (d.aa.getD (back.getD c.toNat 0).toNat []).getD a.toNat 0 < (cls.length:Int)
def dD (d:bz) (back:List Int) (c:Int):Int:=d.ay.getD (back.getD c.toNat 0).toNat 0
def ka (d:bz) (back:List Int) (c:Int):Prop:=(0 <= c /\ c < (back.length:Int)) /\ 0 <= back.getD c.toNat 0 /\ back.getD c.toNat 0 < (d.ay.length:Int)
theorem iQ {α:Type} {l:List α} {i:Int} (z:α) (h0:0 <= i) (h1:i < (l.length:Int)):cq l i=some (l.getD i.toNat z):=by
 unfold cq
 rw [if_pos h0]
 exact getD_some (by omega)
theorem IV (k:Int) (a:Int) (cls:List Int) (d:bz) (back:List Int) (hd:wc cls d back k a):Ct 67 [.sv (.one (I k)), .sv (.one (I a)), .sv (.one (.ptr 0 0)), .sv (.one (.ptr 1 0)), .sv (.one (.ptr 2 0))] [.box [LS aZ cls] 22 true, .box [I d.ae,I d.af,LS (cB aZ) d.aa,LS aZ d.ay] 35 true, .box [LS aZ back] 22 true] (fun (_:Unit)=>True) (fun _=>.sv (.one (I (fX cls d back k a)))):=by
 refine (Eb k a cls d back (fun res_=>res_=(fX cls d back k a)) ?_).fun
 obtain ⟨⟨h1,h2⟩,⟨h3,h4⟩,⟨h5,h6⟩,h7,h8⟩:=hd
 exact ⟨_,iQ 0 h1 h2,_,iQ [] h3 h4,_,iQ 0 h5 h6,_,iQ 0 h7 h8,rfl⟩
theorem Ea (k:Int) (d:bz) (back:List Int) (hd:ka d back k):Ct 68 [.sv (.one (I k)), .sv (.one (.ptr 0 0)), .sv (.one (.ptr 1 0))] [.box [I d.ae,I d.af,LS (cB aZ) d.aa,LS aZ d.ay] 35 true, .box [LS aZ back] 22 true] (fun (_:Unit)=>True) (fun _=>.sv (.one (I (dD d back k)))):=by
 refine (z5 k d back (fun res_=>res_=(dD d back k)) ?_).fun
 obtain ⟨⟨h1,h2⟩,h3,h4⟩:=hd
 exact ⟨_,iQ 0 h1 h2,_,iQ 0 h3 h4,rfl⟩
def m8 (d:bz) (Q:bz -> Prop):Prop:=
 d.aa.length <= 9223372036854775807 ->
 d.ay.length <= 9223372036854775807 ->
 ((mL d) /\
 ∀ r:(List Int),(kU d) r ->
 (jM (r.length:Int) (r.length:Int) 8 /\
 ∃ (Inv:Int -> (List Int) -> Prop) (mu:Int -> (List Int) -> Nat),Inv 0 (List.replicate ((r.length:Int)).toNat (0:Int)) /\
 ∀ x16 l3,Inv x16 l3 -> (cv (decide (x16 < (r.length:Int))) (∃ e,cq r x16=some e /\
 ∃ e_2,cq l3 e=some e_2 /\
 (Inv (wr (x16 + 1)) (l3.set (e).toNat x16) /\ mu (wr (x16 + 1)) (l3.set (e).toNat x16) < mu x16 l3)) (∃ e_3,cq r d.af=some e_3 /\
 (tT d.ae e_3 (fun (x:Int × Int)=>wc r d l3 x.1 x.2) (fun (x:Int × Int)=>fX r d l3 x.1 x.2) (ka d l3) (wr ((r.length:Int) + 1))) /\
 Q (dh (fun k (a:Nat)=>(fun (x:Int × Int)=>fX r d l3 x.1 x.2) (k,(a:Int))) (dD d l3) (d.ae).toNat e_3 (wr ((r.length:Int) + 1))).1))))
abbrev BB := (.box [I 0,I 0, .v (.slice none 0 0), .v (.slice none 0 0)] 35 false:br)
abbrev Jz (d:bz):=(.box [I d.ae,I d.af,LS (cB aZ) d.aa,LS aZ d.ay] 35 false:br)
abbrev GP (d:bz):=(.box [I d.ae,I d.af,LS (cB aZ) d.aa,LS aZ d.ay] 35 true:br)
abbrev Lm := ([bg 1 (.ptr 0 0),bg 2 (.ptr 1 0),bg 3 (.ptr 2 0)]:List (Nat × SC))
theorem vC (d:bz) (Q:bz -> Prop) (h:m8 d Q):Ct 37 [.sv (.agg [I d.ae,I d.af,LS (cB aZ) d.aa,LS aZ d.ay])] [] Q (fun (r:bz)=>.sv (.agg [I r.ae,I r.af,LS (cB aZ) r.aa,LS aZ r.ay])):=by
 have ht:=bA
 refine Ct.body Tryz.func37 rfl rfl rfl rfl (fun c hn=>?_)
 unfold m8 at h
 refine bQ 0 2 (by rfl) (by rfl) (fun hl=>?_)
 replace h:=h hl
 clear hl
 refine bQ 0 3 (by rfl) (by rfl) (fun hl=>?_)
 replace h:=h hl
 clear hl
 refine bk hn ?_
 refine bp (bC ht hn 1 ⟨[bu 1 0 0,bu 2 1 0,(9, .sv (.agg [I d.ae,I d.af,LS (cB aZ) d.aa,LS aZ d.ay]))],[Jz d,BB]⟩ ?_)
 obtain ⟨hp,h⟩:=h
 refine fw (Q:=kU d) (x:=fun (r:List Int)=>.sv (.one (LS aZ r))) (p:=fun _=>none) hn (by rfl) (eH (BZ d hp) Nk (caps:=[]) [] rfl (by rfl) (by kernel_rfl) (by kernel_rfl) (by rfl) (fun _=>rfl) (by rfl)) (fun r hr_2=>⟨by rfl,_,by rfl,?_⟩)
 replace h:=h r hr_2
 refine bM hn ?_
 refine bp (bC ht hn 2 ⟨ba 12 (r.length:Int) :: Lm,[Jz d,BB, .box [LS aZ r] 22 false]⟩ ?_)
 obtain ⟨hp,h⟩:=h
 refine dg (K:=[]) (p:=some (3,bf 3 aZ (List.replicate (r.length:Int).toNat (0:Int)))) hn (by rfl) (kN (T:=aZ) (0:Int) (zv:=(.int .i64 0)) 3 (l:=(r.length:Int)) (cp:=(r.length:Int)) ht rfl (by rfl) (by rfl) (by rfl) (by rfl) (by decide) (by rfl) (by rfl) hp.1 hp.2.1 hp.2.2 (hp.le (by decide)) rfl (fun _=>⟨rfl,trivial⟩)) (by rfl) (by rfl) (by rfl) ?_
 refine bM hn ?_
 refine bi (bk hn ?_)
 refine bj (dV h (fun zz=>⟨[bu 1 0 0,bu 2 1 0,bu 3 2 0,bu 4 4 0,bg 14 (LS aZ r),ba 15 (r.length:Int),ba 16 zz.1],[Jz d,BB, .box [LS aZ r] 22 false,bf 3 aZ zz.2, .box [.own 3] 22 false]⟩) fun Inv mu x16 l3 h=>?_)
 refine bp (cw ht hn 1 ⟨bu 4 4 0 :: bg 14 (LS aZ r) :: ba 15 (r.length:Int) :: ba 16 x16 :: bG 17 (decide (x16 < (r.length:Int))) :: Lm,[Jz d,BB, .box [LS aZ r] 22 false,bf 3 aZ l3, .box [.own 3] 22 false]⟩ ?_)
 refine bi (bv h (fun h=>?_) (fun h=>?_))
 refine bn (bi (bj (bp (cN hn 1 ?_))))
 obtain ⟨e,he,h⟩:=h
 refine bT hn (iX (T:=aZ) rfl he) ?_
 refine bT hn (lD (s:=.one (I e)) rfl) ?_
 refine bM hn ?_
 refine bI (cN hn 3 ?_)
 obtain ⟨e_2,he_2,h⟩:=h
 refine bT hn (iO (T:=aZ) rfl he_2) ?_
 refine gg (T:=aZ) (y:=x16) hn rfl (dd he_2) ?_
 exact bH (cn hn ((wr (x16 + 1)),(l3.set (e).toNat x16)) h)
 refine bD rfl (bi (iZ (T:=aZ) (l:=l3) (e:=3) 3 rfl ?_))
 refine iz [2,0,4] (by rfl) ?_
 obtain ⟨e_3,he_3,h⟩:=h
 obtain ⟨hp_2,h⟩:=h
 refine da ⟨bu 4 4 0 :: Lm,[cQ 0 0,bq d.ae,o1 (LS aZ r),cQ 0 1,bq d.af,o1 (.pe (eu (.one (I e_3))) 1),bq e_3,o1 (fv9 (fun (x:Int × Int)=>wc r d l3 x.1 x.2) (fun (x:Int × Int)=>fX r d l3 x.1 x.2)),o1 (JZ (ka d l3) (dD d l3)),o1 (LS aZ r),bq (r.length:Int),bq (wr ((r.length:Int) + 1)), .tup [.agg [I (dh (fun k (a:Nat)=>(fun (x:Int × Int)=>fX r d l3 x.1 x.2) (k,(a:Int))) (dD d l3) (d.ae).toNat e_3 (wr ((r.length:Int) + 1))).1.ae,I (dh (fun k (a:Nat)=>(fun (x:Int × Int)=>fX r d l3 x.1 x.2) (k,(a:Int))) (dD d l3) (d.ae).toNat e_3 (wr ((r.length:Int) + 1))).1.af,LS (cB aZ) (dh (fun k (a:Nat)=>(fun (x:Int × Int)=>fX r d l3 x.1 x.2) (k,(a:Int))) (dD d l3) (d.ae).toNat e_3 (wr ((r.length:Int) + 1))).1.aa,LS aZ (dh (fun k (a:Nat)=>(fun (x:Int × Int)=>fX r d l3 x.1 x.2) (k,(a:Int))) (dD d l3) (d.ae).toNat e_3 (wr ((r.length:Int) + 1))).1.ay], .one (B (dh (fun k (a:Nat)=>(fun (x:Int × Int)=>fX r d l3 x.1 x.2) (k,(a:Int))) (dD d l3) (d.ae).toNat e_3 (wr ((r.length:Int) + 1))).2)], .tup [.agg [I (dh (fun k (a:Nat)=>(fun (x:Int × Int)=>fX r d l3 x.1 x.2) (k,(a:Int))) (dD d l3) (d.ae).toNat e_3 (wr ((r.length:Int) + 1))).1.ae,I (dh (fun k (a:Nat)=>(fun (x:Int × Int)=>fX r d l3 x.1 x.2) (k,(a:Int))) (dD d l3) (d.ae).toNat e_3 (wr ((r.length:Int) + 1))).1.af,LS (cB aZ) (dh (fun k (a:Nat)=>(fun (x:Int × Int)=>fX r d l3 x.1 x.2) (k,(a:Int))) (dD d l3) (d.ae).toNat e_3 (wr ((r.length:Int) + 1))).1.aa,LS aZ (dh (fun k (a:Nat)=>(fun (x:Int × Int)=>fX r d l3 x.1 x.2) (k,(a:Int))) (dD d l3) (d.ae).toNat e_3 (wr ((r.length:Int) + 1))).1.ay], .one (B (dh (fun k (a:Nat)=>(fun (x:Int × Int)=>fX r d l3 x.1 x.2) (k,(a:Int))) (dD d l3) (d.ae).toNat e_3 (wr ((r.length:Int) + 1))).2)], .sv (.agg [I (dh (fun k (a:Nat)=>(fun (x:Int × Int)=>fX r d l3 x.1 x.2) (k,(a:Int))) (dD d l3) (d.ae).toNat e_3 (wr ((r.length:Int) + 1))).1.ae,I (dh (fun k (a:Nat)=>(fun (x:Int × Int)=>fX r d l3 x.1 x.2) (k,(a:Int))) (dD d l3) (d.ae).toNat e_3 (wr ((r.length:Int) + 1))).1.af,LS (cB aZ) (dh (fun k (a:Nat)=>(fun (x:Int × Int)=>fX r d l3 x.1 x.2) (k,(a:Int))) (dD d l3) (d.ae).toNat e_3 (wr ((r.length:Int) + 1))).1.aa,LS aZ (dh (fun k (a:Nat)=>(fun (x:Int × Int)=>fX r d l3 x.1 x.2) (k,(a:Int))) (dD d l3) (d.ae).toNat e_3 (wr ((r.length:Int) + 1))).1.ay]),o1 (B (dh (fun k (a:Nat)=>(fun (x:Int × Int)=>fX r d l3 x.1 x.2) (k,(a:Int))) (dD d l3) (d.ae).toNat e_3 (wr ((r.length:Int) + 1))).2),cQ 5 0,bJ,o1 (B (dh (fun k (a:Nat)=>(fun (x:Int × Int)=>fX r d l3 x.1 x.2) (k,(a:Int))) (dD d l3) (d.ae).toNat e_3 (wr ((r.length:Int) + 1))).2)],[bU (GP d),bU (BB),bU (.box [LS aZ r] 22 true),bU .gone,bU (.box [LS aZ l3] 22 true),⟨(BB),some 16,none,some (17, .box [I (dh (fun k (a:Nat)=>(fun (x:Int × Int)=>fX r d l3 x.1 x.2) (k,(a:Int))) (dD d l3) (d.ae).toNat e_3 (wr ((r.length:Int) + 1))).1.ae,I (dh (fun k (a:Nat)=>(fun (x:Int × Int)=>fX r d l3 x.1 x.2) (k,(a:Int))) (dD d l3) (d.ae).toNat e_3 (wr ((r.length:Int) + 1))).1.af,LS (cB aZ) (dh (fun k (a:Nat)=>(fun (x:Int × Int)=>fX r d l3 x.1 x.2) (k,(a:Int))) (dD d l3) (d.ae).toNat e_3 (wr ((r.length:Int) + 1))).1.aa,LS aZ (dh (fun k (a:Nat)=>(fun (x:Int × Int)=>fX r d l3 x.1 x.2) (k,(a:Int))) (dD d l3) (d.ae).toNat e_3 (wr ((r.length:Int) + 1))).1.ay] 35 false)⟩]⟩ hn ?_ ?_
 exact ⟨.e,
 .e,
 .e,
 .e,
 .e,
 .v (bX (iX (T:=aZ) rfl he_3)),
 .v (bX (lD (s:=.one (I e_3)) rfl)),
 .mt ⟨[bu 1 0 0,bu 3 2 0,bu 4 4 0],[GP d, .gone, .box [LS aZ r] 22 true, .gone, .box [LS aZ l3] 22 true]⟩ [] none (by kernel_rfl) (by rfl) (KI (x:=.sv (.one (.fn 67 [2,0,4]))) ht (by kernel_rfl) (gV (M:=[.box [LS aZ r] 22 true,GP d, .box [LS aZ l3] 22 true]) (caps:=[2,0,4]) (fun x_ hx=>IV x_.1 x_.2 r d l3 hx) Ni rfl (by kernel_rfl) (by rfl) (fun _=>rfl))) rfl rfl rfl rfl,
 .mt ⟨[bu 1 0 0,bu 4 4 0],[GP d, .gone, .gone, .gone, .box [LS aZ l3] 22 true]⟩ [] none (by kernel_rfl) (by rfl) (KI (x:=.sv (.one (.fn 68 [0,4]))) ht (by kernel_rfl) (gV (M:=[GP d, .box [LS aZ l3] 22 true]) (caps:=[0,4]) (fun x_ hx=>Ea x_ d l3 hx) Nh rfl (by kernel_rfl) (by rfl) (fun _=>rfl))) rfl rfl rfl rfl,
 .e,
 .e,
 .e,
 .v (cL (vR d.ae e_3 (fun (x:Int × Int)=>wc r d l3 x.1 x.2) (fun (x:Int × Int)=>fX r d l3 x.1 x.2) (ka d l3) (dD d l3) (wr ((r.length:Int) + 1)) hp_2) Nj rfl),
 .e,
 .e,
 .e,
 .mt ⟨[],[]⟩ [] (some 5) (by kernel_rfl) (by rfl) (rT 5 35 ht rfl (by rfl) (by rfl)) rfl rfl rfl rfl,
 .mu ⟨[bu 7 5 0,(40, .sv (.agg [I (dh (fun k (a:Nat)=>(fun (x:Int × Int)=>fX r d l3 x.1 x.2) (k,(a:Int))) (dD d l3) (d.ae).toNat e_3 (wr ((r.length:Int) + 1))).1.ae,I (dh (fun k (a:Nat)=>(fun (x:Int × Int)=>fX r d l3 x.1 x.2) (k,(a:Int))) (dD d l3) (d.ae).toNat e_3 (wr ((r.length:Int) + 1))).1.af,LS (cB aZ) (dh (fun k (a:Nat)=>(fun (x:Int × Int)=>fX r d l3 x.1 x.2) (k,(a:Int))) (dD d l3) (d.ae).toNat e_3 (wr ((r.length:Int) + 1))).1.aa,LS aZ (dh (fun k (a:Nat)=>(fun (x:Int × Int)=>fX r d l3 x.1 x.2) (k,(a:Int))) (dD d l3) (d.ae).toNat e_3 (wr ((r.length:Int) + 1))).1.ay]))],[.gone, .gone, .gone, .gone, .gone,BB]⟩ 5 _ _ rfl rfl (by kernel_rfl) (by rfl) (eY ht rfl (by rfl) (by rfl) (by rfl) (by rfl) (fun h=>by cases h) (by rfl) (by rfl)) rfl rfl rfl rfl rfl rfl rfl,
 .e,
 trivial⟩
 refine bk hn ?_
 exact cT (eW ht (dh (fun k (a:Nat)=>(fun (x:Int × Int)=>fX r d l3 x.1 x.2) (k,(a:Int))) (dD d l3) (d.ae).toNat e_3 (wr ((r.length:Int) + 1))).1 h (by kernel_rfl) rfl)
theorem NG : ∀ args w,(callFunc 37 args).run Tryz.prog w=.ok (.enter 37 args) w:=enters_of Tryz.func37 (by kernel_rfl) rfl
def sy (cls back:List Int) (n:Nat):Prop:=back.length=n /\ ∀ q,q < n -> ∃ p:Nat,p < n /\ back.getD (cls.getD q 0).toNat 0=(p:Int) /\ cls.getD p 0=cls.getD q 0
section
variable {d:bz} {cls back:List Int}
theorem xN (hb:sy cls back d.aa.length) {q:Nat} (hq:q < d.aa.length):∃ p:Nat,p < d.aa.length /\ cls.getD p 0=cls.getD q 0 /\ (∀ a:Nat,fX cls d back (cls.getD q 0) a=cls.getD (im d p a) 0) /\ dD d back (cls.getD q 0)=d.ay.getD p 0:=by
 obtain ⟨p,h1,h2,h3⟩:=hb.2 q hq
 refine ⟨p,h1,h3,fun a=>?_,?_⟩
 ·unfold fX im
  rw [h2,bE,bE]
 ·unfold dD
  rw [h2,bE]
theorem Bp (h:mL d) (hc:kU d cls) (hb:sy cls back d.aa.length):∀ (w:List Nat) (q:Nat),q < d.aa.length -> (∀ a ∈ w,a < d.ae.toNat) -> iL (fun k (a:Nat)=>fX cls d back k (a:Int)) (dD d back) (cls.getD q 0) w=fH d q w:=by
 intro w
 induction w with
 | nil =>
  intro q hq _
  obtain ⟨p,h1,h2,_,h4⟩:=xN hb hq
  show dD d back (cls.getD q 0)=d.ay.getD q 0
  rw [h4]
  exact Aa (w:=[]) ((hc.same p q h1 hq).1 h2) fun b hb=>by simp at hb
 | cons a w ih =>
  intro q hq hw
  obtain ⟨p,h1,h2,h3,_⟩:=xN hb hq
  show iL (fun k (a:Nat)=>fX cls d back k (a:Int)) (dD d back) (fX cls d back (cls.getD q 0) a) w=_
  rw [h3,ih (im d p a) (h.pre.step h1) fun b hb=>hw b (d7 _ hb)]
  exact Aa (w:=a :: w) ((hc.same p q h1 hq).1 h2) hw
theorem Bq (h:mL d) (hc:kU d cls) (hb:sy cls back d.aa.length) {k:Int} (hk:k ∈ cls) (a:Nat):fX cls d back k a ∈ cls:=by
 obtain ⟨q,hq⟩:=iB hk
 have hlt:=(cg.1 hq).1
 rw [hc.len] at hlt
 obtain ⟨p,h1,_,h3,_⟩:=xN (cls:=cls) hb hlt
 rw [show k=cls.getD q 0 by simp [hq],h3]
 exact dx (by rw [hc.len]; exact h.pre.step h1)
theorem IW (h:mL d) (hc:kU d cls) (hb:sy cls back d.aa.length) {q:Nat} (hq:q < d.aa.length) (limit:Int) (hl:(cls.length:Int) <= limit) :
  dh (fun k (a:Nat)=>fX cls d back k (a:Int)) (dD d back) d.ae.toNat (cls.getD q 0) limit=(eX d.ae.toNat (fH d q),true):=by
 have h0:cls.getD q 0 ∈ cls:=dx (by rw [hc.len]; exact hq)
 rw [uX h0 (fun k a hk _=>Bq h hc hb hk a) hl]
 congr 1
 rw [HR (P:=fun k=>k ∈ cls) h0 (fun k a hk _=>Bq h hc hb hk a) ?_]
 ·exact nL fun w hw=>Bp h hc hb w q hq hw
 ·intro x y hx hy e
  obtain ⟨p,hp⟩:=iB hx
  obtain ⟨s,hs⟩:=iB hy
  have hpl:=(cg.1 hp).1
  have hsl:=(cg.1 hs).1
  rw [hc.len] at hpl hsl
  have ex:x=cls.getD p 0:=by simp [hp]
  have ey:y=cls.getD s 0:=by simp [hs]
  rw [ex,ey] at e ⊢
  refine (hc.same p s hpl hsl).2 (nc fun w hw=>?_)
  rw [<- Bp h hc hb w p hpl hw,<- Bp h hc hb w s hsl hw]
  exact Aa e hw
theorem z6 (h:mL d) (hc:kU d cls) (hb:sy cls back d.aa.length) {k:Int} (hk:k ∈ cls):(∀ a:Nat,(a:Int) < d.ae -> wc cls d back k a) /\ ka d back k:=by
 obtain ⟨q,hq⟩:=iB hk
 have hlt:=(cg.1 hq).1
 rw [hc.len] at hlt
 obtain ⟨p,h1,h2,h3⟩:=hb.2 q hlt
 have hkr:=hc.range k hk
 have ek:k=cls.getD q 0:=by simp [hq]
 rw [<- ek] at h2
 have hb1:=hb.1
 have hrow:=h.wf.rows _ (dx (l:=d.aa) (z:=[]) h1)
 have hlet:=h.wf.letters
 refine ⟨fun a ha=>?_,?_⟩
 ·unfold wc
  rw [h2,bE,bE,hrow]
  have hn:=h.wf.next _ (dx (l:=d.aa) (z:=[]) h1) _ (dx (l:=d.aa.getD p []) (i:=a) (z:=0) (by omega))
  rw [hc.len]
  omega
 ·unfold ka
  rw [h2,h.wf.mark]
  omega
end
theorem uc (d:bz) (h:mL d):m8 d (fun r=>r=eX d.ae.toNat (fH d d.af.toNat)):=by
 intro _ _
 have hsz:=h.size
 refine ⟨h,fun cls hc=>⟨⟨by omega,eN _,by rw [hc.len]; omega⟩,fun x l=>∃ k:Nat,x=k /\ k <= cls.length /\ l.length=cls.length /\ ∀ q,q < k -> ∃ p:Nat,p < cls.length /\ l.getD (cls.getD q 0).toNat 0=(p:Int) /\ cls.getD p 0=cls.getD q 0,fun x _=>cls.length - x.toNat,
  ⟨0,rfl,cy _,by simp,fun q hq=>absurd hq (e9 _)⟩,?_⟩⟩
 rintro x l ⟨k,rfl,hk,hl,hg⟩
 refine ⟨fun hb=>?_,fun hb=>?_⟩
 ·have hlt:k < cls.length:=by
   have:=ca hb
   omega
  have hr:=hc.range _ (dx (z:=0) hlt)
  have hcl:=hc.len
  refine ⟨cls.getD k 0,by rw [iQ 0 (by omega) (by omega),bE],l.getD (cls.getD k 0).toNat 0,iQ 0 hr.1 (by omega),⟨k + 1,?_,hlt,by simp [hl],fun q hq=>?_⟩,?_⟩
  ·rw [bL (by omega) (by omega)]
   omega
  ·by_cases e:cls.getD q 0=cls.getD k 0
   ·refine ⟨k,hlt,?_,e.symm⟩
    rw [e]
    have:(l.set (cls.getD k 0).toNat (k:Int))[(cls.getD k 0).toNat]? = some (k:Int):=ro (by omega)
    rw [er,this]
    rfl
   ·have hqk:q < k:=by
     rcases dA q k with h | h
     ·exact h
     ·exact absurd (by rw [show q=k by omega]) e
    obtain ⟨p,h1,h2,h3⟩:=hg q hqk
    refine ⟨p,h1,?_,h3⟩
    have hrq:=hc.range _ (dx (l:=cls) (i:=q) (z:=0) (by omega))
    rw [er,mP (by omega),<- er]
    exact h2
  ·rw [bL (by omega) (by omega)]
   simp only
   omega
 ·have hke:k=cls.length:=by
   have:=cx hb
   omega
  subst hke
  have hst:=h.wf.start
  have hback:sy cls l d.aa.length:=⟨by rw [hl,hc.len],by rw [<- hc.len]; exact hg⟩
  have hcl:=hc.len
  have h0:cls.getD d.af.toNat 0 ∈ cls:=dx (by omega)
  refine ⟨cls.getD d.af.toNat 0,iQ 0 hst.1 (by omega),⟨⟨h.wf.letters,h.wide⟩,?_,fun k=>k ∈ cls,h0,fun k a hk ha=>⟨(z6 h hc hback hk).1 a ha,Bq h hc hback hk a⟩,fun k hk=>(z6 h hc hback hk).2⟩,?_⟩
  ·rw [bL (by omega) (by omega)]
   omega
  ·rw [bL (by omega) (by omega)]
   have:=IW h hc hback (q:=d.af.toNat) (by omega) ((cls.length:Int) + 1) (by omega)
   exact cZ Prod.fst this
theorem z3 (d:bz) (h:mL d):Ct 37 [.sv (.agg [I d.ae,I d.af,LS (cB aZ) d.aa,LS aZ d.ay])] [] (fun (_:Unit)=>True) (fun _=>.sv (.agg [I (eX d.ae.toNat (fH d d.af.toNat)).ae,I (eX d.ae.toNat (fH d d.af.toNat)).af,LS (cB aZ) (eX d.ae.toNat (fH d d.af.toNat)).aa,LS aZ (eX d.ae.toNat (fH d d.af.toNat)).ay])):=
 (vC d (fun r=>r=eX d.ae.toNat (fH d d.af.toNat)) (uc d h)).fun
theorem wR : ∀ (w:List Nat) (k:kF) (u:List Nat),(w.foldl der k) u=k (w ++ u)
 | [],_,_=>rfl
 | a :: w,k,u=>by
  rw [List.foldl_cons,wR w]
  rfl
theorem E6 (k:kF) (w:List Nat):iL der (fun r=>r []) k w=k w:=by
 show (w.foldl der k) []=_
 rw [wR,List.append_nil]
structure rm (L:Nat) (r:kF) (n:Nat):Prop where
 wf:Wf (eX L r)
 letters:(eX L r).ae=L
 start:(eX L r).af=0
 count:(eX L r).aa.length <= n
 lang:∀ w,(∀ a ∈ w,a < L) -> fH (eX L r) 0 w=r w
 marks:∀ m ∈ (eX L r).ay,∃ u,m=r u
theorem vg {L:Nat} {r:kF}:∀ m ∈ (eX L r).ay,∃ u,m=r u:=fun m hm=>by
 unfold eX iR lS at hm
 obtain ⟨k,hk,rfl⟩:=cP.1 hm
 obtain ⟨u,rfl⟩:=AP (P:=fun s:kF=>∃ u:List Nat,s=rs L (fun w=>r (u ++ w))) ⟨[],rfl⟩ (by
  rintro k a ⟨u,rfl⟩ ha
  refine ⟨u ++ [a],?_⟩
  rw [BW ha]
  refine nc fun w _=>?_
  show r (u ++ a :: w)=_
  rw [fE]
  rfl) hk
 exact ⟨u,by simp [rs]⟩
theorem za {K:Type} {go:K -> Nat -> K} {mark:K -> Int} {L:Nat} {k0:K} {m:List K} (h0:k0 ∈ m) (hP:∀ k a,k ∈ m -> a < L -> go k a ∈ m):rm L (iL go mark k0) m.length:=by
 have h1:rs L (iL go mark k0) ∈ m.map fun k=>rs L (iL go mark k):=cP.2 ⟨k0,h0,rfl⟩
 have h2:∀ s a,s ∈ (m.map fun k=>rs L (iL go mark k)) -> a < L -> der s a ∈ m.map fun k=>rs L (iL go mark k):=fun s a hs ha=>by
  obtain ⟨k,hk,rfl⟩:=cP.1 hs
  exact cP.2 ⟨go k a,hP k a hk ha,by rw [BW ha]; rfl⟩
 have hc:=sM (mark:=fun r:kF=>r []) h1 h2
 rw [df] at hc
 refine ⟨AQ (mark:=fun r:kF=>r []) h1 h2,rfl,rfl,hc,fun w hw=>?_,vg⟩
 have:=uY (mark:=fun r:kF=>r []) h1 h2 hw
 rw [E6] at this
 refine this.trans ?_
 unfold rs
 rw [if_pos hw]
theorem rm.mono {L n k:Nat} {r:kF} (h:rm L r n) (hk:n <= k):rm L r k:=⟨h.wf,h.letters,h.start,dp h.count hk,h.lang,h.marks⟩
def De (n:Int) (w:List Int) (Q:Int -> Prop):Prop:=
 w.length <= 9223372036854775807 ->
 (cv ((decide (n < 1)) || (decide (n > 4))) (Q 2) (cv (decide ((w.length:Int) > 60)) (Q 1) (∃ (Inv:Int -> Prop) (mu:Int -> Nat),Inv 0 /\
 ∀ x18,Inv x18 -> (cv (decide (x18 < (w.length:Int))) (∃ e,cq w x18=some e /\
 cv ((decide (e < 0)) || (decide (e >= n))) (Q 2) ((Inv (wr (x18 + 1)) /\ mu (wr (x18 + 1)) < mu x18))) (Q 0)))))
abbrev Jy (n:Int) (w:List Int) (y0):=([bg 0 (I n),bg 16 (LS aZ w),bg 17 (I (w.length:Int)),bg 18 (I y0)]:List (Nat × SC))
theorem E2 (n:Int) (w:List Int) (Q:Int -> Prop) (h:De n w Q):Ct 47 [.sv (.one (I n)), .sv (.one (LS aZ w))] [] Q (fun (r:Int)=>.sv (.one (I r))):=by
 have ht:=bA
 refine Ct.body Tryz.func47 rfl rfl rfl rfl (fun c hn=>?_)
 unfold De at h
 refine de 1 (by rfl) (fun hl=>?_)
 replace h:=h hl
 clear hl
 refine bk hn ?_
 refine bi (bp (bC ht hn 3 ⟨[ba 0 n,bg 1 (LS aZ w),bG 9 (decide (n < 1))],[]⟩ ?_))
 refine eB ⟨[ba 0 n,bg 1 (LS aZ w),bG 12 ((decide (n < 1)) || (decide (n > 4)))],[]⟩ ?_ ?_
 refine cz (decide (n < 1)) (fun hb0=>?_) (fun hb0=>?_)
 refine cf 9 hb0 ?_
 refine bC ht hn 3 ⟨[ba 0 n,bg 1 (LS aZ w),bG 12 true],[]⟩ ?_
 exact bH (sub_ok (by simp only [hb0]; kernel_rfl))
 refine cf 9 hb0 ?_
 refine bC ht hn 3 ⟨[ba 0 n,bg 1 (LS aZ w),bG 12 (decide (n > 4))],[]⟩ ?_
 exact bH (sub_ok (by simp only [hb0]; kernel_rfl))
 refine bv h (fun h=>?_) (fun h=>?_)
 exact cD hn 2 h
 refine bn (bi (bk hn ?_))
 refine bv h (fun h=>?_) (fun h=>?_)
 exact cD hn 1 h
 refine bn (bi (bk hn ?_))
 refine bj (fC h (fun zz=>⟨[ba 0 n,bg 16 (LS aZ w),ba 17 (w.length:Int),ba 18 zz],[]⟩) fun Inv mu x18 h=>?_)
 refine bk hn ?_
 refine bi (bv h (fun h=>?_) (fun h=>?_))
 refine bn (bi (bj (bp ?_)))
 obtain ⟨e,he,h⟩:=h
 refine bT hn (iX (T:=aZ) rfl he) ?_
 refine bT hn (lD (s:=.one (I e)) rfl) ?_
 refine bM hn ?_
 refine bp (bC ht hn 3 ⟨ba 6 e :: bG 24 (decide (e < 0)) :: (Jy n w x18),[]⟩ ?_)
 refine eB ⟨bG 28 ((decide (e < 0)) || (decide (e >= n))) :: (Jy n w x18),[]⟩ ?_ ?_
 refine cz (decide (e < 0)) (fun hb0=>?_) (fun hb0=>?_)
 refine cf 24 hb0 ?_
 refine bC ht hn 4 ⟨bG 28 true :: (Jy n w x18),[]⟩ ?_
 exact bH (sub_ok (by simp only [hb0]; kernel_rfl))
 refine cf 24 hb0 ?_
 refine bC ht hn 4 ⟨bG 28 (decide (e >= n)) :: (Jy n w x18),[]⟩ ?_
 exact bH (sub_ok (by simp only [hb0]; kernel_rfl))
 refine bv h (fun h=>?_) (fun h=>?_)
 exact cD hn 2 h
 exact bn (cn hn (wr (x18 + 1)) h)
 exact bD rfl (cD hn 0 h)
theorem Ny : ∀ args w,(callFunc 47 args).run Tryz.prog w=.ok (.enter 47 args) w:=enters_of Tryz.func47 (by kernel_rfl) rfl
def jW (n:Int) (w:List Int):Int:=if (decide (n < 1)) || (decide (n > 4)) then 2 else if w.length > 60 then 1 else if w.any (fun a=>(decide (a < 0)) || (decide (a >= n))) then 2 else 0
theorem Df {n:Int} {w:List Int} (h:jW n w=0):w.length <= 60 /\ ∀ a ∈ w,0 <= a /\ a < n:=by
 unfold jW at h
 split at h
 ·cases h
 split at h
 ·cases h
 split at h
 ·cases h
 rename_i _ h2 h3
 refine ⟨by omega,fun a ha=>?_⟩
 have:=(Bool.not_eq_true _).mp h3
 rw [oL] at this
 have:=this a ha
 simp at this
 omega
theorem JO (n:Int) (w:List Int)  : Ct 47 [.sv (.one (I n)), .sv (.one (LS aZ w))] [] (fun (_:Unit)=>True) (fun _=>.sv (.one (I (jW n w)))):=by
 refine (E2 n w (fun res_=>res_=(jW n w)) ?_).fun
 intro hl
 refine ⟨fun h=>?_,fun h=>⟨fun h2=>?_,fun h2=>?_⟩⟩
 ·show _=jW n w
  unfold jW
  rw [if_pos h]
 ·show _=jW n w
  have:=ca h2
  unfold jW
  rw [if_neg (by rw [h]; decide),if_pos (by omega)]
 have h2:=cx h2
 refine ⟨fun i=>∃ k:Nat,i=k /\ k <= w.length /\ (w.take k).any (fun a=>(decide (a < 0)) || (decide (a >= n)))=false,fun i=>w.length - i.toNat,⟨0,rfl,cy _,rfl⟩,?_⟩
 rintro i ⟨k,rfl,hk,ht⟩
 refine ⟨fun hb=>?_,fun hb=>?_⟩
 ·have hlt:=dlt hb
  refine ⟨_,eP hlt,fun hne=>?_,fun he=>⟨⟨k + 1,dj (by omega),hlt,?_⟩,dQ hlt (by omega)⟩⟩
  ·show _=jW n w
   unfold jW
   rw [if_neg (by rw [h]; decide),if_neg (by omega),if_pos (jH.2 ⟨_,dK hlt,hne⟩)]
  ·rw [ia,List.any_append,ht,cO hlt]
   simpa using he
 ·have hge:=dge hb
  rw [f8 hge] at ht
  show _=jW n w
  unfold jW
  rw [if_neg (by rw [h]; decide),if_neg (by omega),if_neg (by rw [ht]; decide)]
def xI (n:Int) (l:bt) (Q:Int -> Prop):Prop:=
 l.aG.length <= 9223372036854775807 ->
 l.aD.length <= 9223372036854775807 ->
 (∃ (Inv:Int -> Prop) (mu:Int -> Nat),Inv 0 /\
 ∀ x13,Inv x13 -> (cv (decide (x13 < 2)) (∃ e,cq ([l.aG,l.aD]:List (List Int)) x13=some e /\
 cv ((jW n e) != 0) (Q (jW n e)) ((Inv (wr (x13 + 1)) /\ mu (wr (x13 + 1)) < mu x13))) (cv ((l.aD.length:Int) == 0) (Q 1) (Q 0))))
theorem D5 (n:Int) (l:bt) (Q:Int -> Prop) (h:xI n l Q):Ct 16 [.sv (.one (I n)), .sv (.agg [LS aZ l.aG,LS aZ l.aD])] [] Q (fun (r:Int)=>.sv (.one (I r))):=by
 have ht:=bA
 refine Ct.body Tryz.func16 rfl rfl rfl rfl (fun c hn=>?_)
 unfold xI at h
 refine bQ 1 0 (by rfl) (by rfl) (fun hl=>?_)
 replace h:=h hl
 clear hl
 refine bQ 1 1 (by rfl) (by rfl) (fun hl=>?_)
 replace h:=h hl
 clear hl
 refine bk hn ?_
 refine bi (bk hn ?_)
 refine bj (fC h (fun zz=>⟨[ba 0 n,bu 3 0 0,(12, .sv (.agg (bt.cl l))),ba 13 zz],[.box (bt.cl l) 27 false]⟩) fun Inv mu x13 h=>?_)
 refine bp (cw ht hn 1 ⟨[ba 0 n,bu 3 0 0,(12, .sv (.agg (bt.cl l))),ba 13 x13,bG 14 (decide (x13 < 2))],[.box (bt.cl l) 27 false]⟩ ?_)
 refine bi (bv h (fun h=>?_) (fun h=>?_))
 refine bn (bi (bj (bp ?_)))
 obtain ⟨e,he,h⟩:=h
 refine fe hn (Bm (T:=aZ) (ls:=([l.aG,l.aD]:List (List Int))) (k:=x13) ht rfl Tryz.underlying96 (by rfl) (by rfl) (by rfl) (by rfl) rfl (by rfl) (by rfl) he) ?_
 refine bM hn ?_
 refine bp (cN hn 2 ?_)
 refine fK hn (cL (JO n e) Ny rfl) ?_
 refine bM hn ?_
 refine bk hn ?_
 refine bv h (fun h=>?_) (fun h=>?_)
 exact cD hn (jW n e) h
 exact bn (cn hn (wr (x13 + 1)) h)
 refine bD rfl (bi (bk hn ?_))
 refine bv h (fun h=>?_) (fun h=>?_)
 exact cD hn 1 h
 exact bn (cD hn 0 h)
theorem Mz : ∀ args w,(callFunc 16 args).run Tryz.prog w=.ok (.enter 16 args) w:=enters_of Tryz.func16 (by kernel_rfl) rfl
def nr (n:Int) (l:bt):Int:=if jW n l.aG ≠ 0 then jW n l.aG else if jW n l.aD ≠ 0 then jW n l.aD else if l.aD.length=0 then 1 else 0
structure oJ (n:Int) (l:bt):Prop where
 hl:l.aG.length <= 60
 ll:l.aD.length <= 60
 head:∀ a ∈ l.aG,0 <= a /\ a < n
 loop:∀ a ∈ l.aD,0 <= a /\ a < n
 pos:0 < l.aD.length
theorem Dg {n:Int} {l:bt} (h:nr n l=0):oJ n l:=by
 unfold nr at h
 split at h
 ·contradiction
 rename_i h1
 split at h
 ·contradiction
 rename_i h2
 split at h
 ·cases h
 rename_i h3
 obtain ⟨k1,k2⟩:=Df (jp.1 h1)
 obtain ⟨k3,k4⟩:=Df (jp.1 h2)
 exact ⟨k1,k3,k2,k4,by omega⟩
theorem Cn (n:Int) (l:bt)  : Ct 16 [.sv (.one (I n)), .sv (.agg [LS aZ l.aG,LS aZ l.aD])] [] (fun (_:Unit)=>True) (fun _=>.sv (.one (I (nr n l)))):=by
 refine (D5 n l (fun res_=>res_=(nr n l)) ?_).fun
 unfold xI
 intro _ _
 have k0:cq [l.aG,l.aD] 0=some l.aG:=rfl
 have k1:cq [l.aG,l.aD] 1=some l.aD:=rfl
 refine ⟨fun x=>x=0 \/ (x=1 /\ jW n l.aG=0) \/ (x=2 /\ jW n l.aG=0 /\ jW n l.aD=0),fun x=>2 - x.toNat, .inl rfl,?_⟩
 unfold nr
 rintro x (rfl | ⟨rfl,h1⟩ | ⟨rfl,h1,h2⟩)
 ·refine ⟨fun _=>⟨_,k0,fun h=>?_,fun h=>⟨.inr (.inl ⟨rfl,by simpa using h⟩),by decide⟩⟩,fun h=>absurd h (by decide)⟩
  rw [if_pos (by simpa using h)]
 ·refine ⟨fun _=>⟨_,k1,fun h=>?_,fun h=>⟨.inr (.inr ⟨rfl,h1,by simpa using h⟩),by decide⟩⟩,fun h=>absurd h (by decide)⟩
  rw [if_neg (by simp [h1]),if_pos (by simpa using h)]
 ·refine ⟨fun h=>absurd h (by decide),fun _=>?_⟩
  rw [if_neg (by simp [h1]),if_neg (by simp [h2])]
  refine ⟨fun h=>?_,fun h=>?_⟩
  ·have h:(l.aD.length:Int)=0:=by simpa using h
   rw [if_pos (by omega)]
  ·have h:¬ (l.aD.length:Int)=0:=by simpa using h
   rw [if_neg (by omega)]
def zk (g:cj) (l:List Int) (Q:(List Bool) -> Prop):Prop:=
 l.length <= 9223372036854775807 ->
 (jM (g.aa.length:Int) (g.aa.length:Int) 1 /\
 (l.length * 8 <= 140737488355328) /\
 ∃ (Inv:(List Bool) -> (List Int) -> Prop) (mu:(List Bool) -> (List Int) -> Nat),Inv (List.replicate ((g.aa.length:Int)).toNat false) (l) /\
 ∀ l0 l1,Inv l0 l1 -> (cv (decide ((l1.length:Int) > 0)) (∃ e,cq l1 (wr ((l1.length:Int) - 1))=some e /\
 (0 <= (wr ((l1.length:Int) - 1)) /\ (wr ((l1.length:Int) - 1)) <= (l1.length:Int)) /\
 ∃ e_2,cq g.aa e=some e_2 /\
 ∃ (Inv_2:Int -> (List Bool) -> (List Int) -> Prop) (mu_2:Int -> (List Bool) -> (List Int) -> Nat),Inv_2 0 l0 (l1.take ((wr ((l1.length:Int) - 1)):Int).toNat) /\
 ∀ x40 l0_2 l1_2,Inv_2 x40 l0_2 l1_2 -> (cv (decide (x40 < (e_2.length:Int))) (∃ J:(List Bool) -> (List Int) -> Prop,(∃ e_3,cq e_2 x40=some e_3 /\
 ∃ e_4,cq l0_2 e_3=some e_4 /\
 cv (!e_4) (∃ e_5,cq l0_2 e_3=some e_5 /\
 ed l1_2.length ([e_3]:List Int).length 8 /\
 J (l0_2.set (e_3).toNat true) (l1_2 ++ ([e_3]:List Int))) (J l0_2 l1_2)) /\
 (∀ l0_3 l1_3,J l0_3 l1_3 -> (Inv_2 (wr (x40 + 1)) l0_3 l1_3 /\ mu_2 (wr (x40 + 1)) l0_3 l1_3 < mu_2 x40 l0_2 l1_2))) ((Inv l0_2 l1_2 /\ mu l0_2 l1_2 < mu l0 l1)))) (Q l0)))
abbrev vJ (g:cj):=sl 0 (.pe (eu (.agg [LS (cB aZ) g.aa,LS cJ g.aW])) 2)
theorem Fx (g:cj) (l:List Int) (Q:(List Bool) -> Prop) (h:zk g l Q):CtJ 18 [.sv (.one (.pe (eu (.agg [LS (cB aZ) g.aa,LS cJ g.aW])) 2)), .sv (.one (LS aZ l))] [] Q (fun (r:List Bool)=>bf 4 cJ r):=by
 have ht:=bA
 refine CtJ.body Tryz.func18 rfl rfl rfl rfl (fun c hn hmay=>?_)
 unfold zk at h
 refine de 1 (by rfl) (fun hl=>?_)
 replace h:=h hl
 clear hl
 refine bk hn ?_
 refine bp (cN hn 2 ?_)
 refine bT hn (aB (l:=[LS (cB aZ) g.aa,LS cJ g.aW]) (r:=.one (LS (cB aZ) g.aa)) rfl) ?_
 refine bT hn (lD (s:=.one (LS (cB aZ) g.aa)) rfl) ?_
 refine bC ht hn 1 ⟨[vJ g,bg 1 (LS aZ l),ba 14 (g.aa.length:Int)],[]⟩ ?_
 obtain ⟨hp,h⟩:=h
 refine dg (K:=[]) (p:=some (0,bf 4 cJ (List.replicate (g.aa.length:Int).toNat false))) hn (by rfl) (kN (T:=cJ) false (zv:=(.bool false)) 0 (l:=(g.aa.length:Int)) (cp:=(g.aa.length:Int)) ht rfl (by rfl) (by rfl) (by rfl) (by rfl) (by decide) (by rfl) (by rfl) hp.1 hp.2.1 hp.2.2 (hp.le (by decide)) rfl (fun _=>⟨rfl,trivial⟩)) (by rfl) (by rfl) (by rfl) ?_
 refine bM hn ?_
 refine bp (bC ht hn 1 ⟨sl 16 (LS aZ l) :: [vJ g,bx 5 0],[bf 4 cJ (List.replicate (g.aa.length:Int).toNat false)]⟩ ?_)
 obtain ⟨hp,h⟩:=h
 refine dg (K:=[]) (p:=some (1,bf 3 aZ l)) hn (by rfl) (iK 1 (ir l hp) Fe (caps:=[]) [] rfl rfl (by rfl) (by kernel_rfl) (by kernel_rfl) (by rfl) (by rfl)) (by rfl) (by rfl) (by rfl) ?_
 refine bM hn ?_
 refine bi (bj (dV h (fun zz=>⟨[vJ g,bx 5 0,bx 6 1],[bf 4 cJ zz.1,bf 3 aZ zz.2]⟩) fun Inv mu l0 l1 h=>?_))
 refine bi (bk hn ?_)
 refine bv h (fun h=>?_) (fun h=>?_)
 refine bn (bj (bp (cN hn 4 ?_)))
 obtain ⟨e,he,h⟩:=h
 refine bT hn (iO (T:=aZ) rfl he) ?_
 refine bT hn (lO (T:=aZ) rfl (bs he).2.2) ?_
 refine bM hn ?_
 refine bp (bC ht hn 4 ⟨ba 7 e :: bx 27 1 :: ba 30 (wr ((l1.length:Int) - 1)) :: [vJ g,bx 5 0],[bf 4 cJ l0,bf 3 aZ l1]⟩ ?_)
 obtain ⟨hp_2,h⟩:=h
 refine jF (S2:=⟨ba 7 e :: ba 30 (wr ((l1.length:Int) - 1)) :: [vJ g,bx 5 0],[bf 4 cJ l0,bf 3 aZ l1]⟩) (K:=[1]) (p:=some (1,bf 3 aZ (l1.take ((wr ((l1.length:Int) - 1)):Int).toNat))) hn (by rfl) (EY (T:=aZ) (l:=l1) (p:=1) (hv:=(wr ((l1.length:Int) - 1))) ht rfl (by rfl) (by rfl) (by rfl) (by rfl) (by rfl) (by rfl) (by rfl) hp_2) (by kernel_rfl) (by rfl) (by rfl) (by rfl) ?_
 refine bM hn ?_
 refine bp (cN hn 2 ?_)
 refine bT hn (aB (l:=[LS (cB aZ) g.aa,LS cJ g.aW]) (r:=.one (LS (cB aZ) g.aa)) rfl) ?_
 refine bT hn (lD (s:=.one (LS (cB aZ) g.aa)) rfl) ?_
 refine cN hn 1 ?_
 obtain ⟨e_2,he_2,h⟩:=h
 refine bT hn (iX (T:=(cB aZ)) rfl he_2) ?_
 refine bT hn (lD (s:=.one (LS aZ e_2)) rfl) ?_
 refine bM hn ?_
 refine bj (ma h (fun zz=>⟨[vJ g,bx 5 0,bx 6 1,bg 38 (LS aZ e_2),ba 39 (e_2.length:Int),ba 40 zz.1],[bf 4 cJ zz.2.1,bf 3 aZ zz.2.2]⟩) fun Inv_2 mu_2 x40 l0_2 l1_2 h=>?_)
 refine bk hn ?_
 refine bi (bv h (fun h=>?_) (fun h=>?_))
 refine bn ?_
 obtain ⟨J,h,hJ⟩:=h
 refine bS (σ:=(List Bool) × (List Int)) (fun zz=>J zz.1 zz.2) (fun zz=>⟨[vJ g,bx 5 0,bx 6 1,bg 38 (LS aZ e_2),ba 39 (e_2.length:Int),ba 40 x40],[bf 4 cJ zz.1,bf 3 aZ zz.2]⟩) ?_ ?_
 refine bj (bp ?_)
 obtain ⟨e_3,he_3,h⟩:=h
 refine bT hn (iX (T:=aZ) rfl he_3) ?_
 refine bT hn (lD (s:=.one (I e_3)) rfl) ?_
 refine bM hn ?_
 refine bp (cN hn 2 ?_)
 obtain ⟨e_4,he_4,h⟩:=h
 refine bT hn (iO (T:=cJ) rfl he_4) ?_
 refine bT hn (lO (T:=cJ) rfl (bs he_4).2.2) ?_
 refine bM hn ?_
 refine bv h (fun h=>?_) (fun h=>?_)
 refine bp (cN hn 2 ?_)
 obtain ⟨e_5,he_5,h⟩:=h
 refine bT hn (iO (T:=cJ) rfl he_5) ?_
 refine gg (T:=cJ) (y:=true) hn rfl (dd he_5) ?_
 refine bH (bI (bC ht hn 2 ⟨sl 38 (LS aZ e_2) :: ba 39 (e_2.length:Int) :: ba 40 x40 :: bx 52 1 :: ba 53 e_3 :: [vJ g,bx 5 0],[bf 4 cJ (l0_2.set (e_3).toNat true),bf 3 aZ l1_2]⟩ ?_))
 refine dg (K:=[]) (p:=some (2,bf 3 aZ ([e_3]:List Int))) hn (by rfl) (lI (T:=aZ) ([e_3]:List Int) 2 rfl) (by rfl) (by rfl) (by rfl) ?_
 refine dE (T:=aZ) (l:=([e_3]:List Int)) (e:=3) 2 rfl ?_
 refine bC ht hn 0 ⟨sl 38 (LS aZ e_2) :: ba 39 (e_2.length:Int) :: ba 40 x40 :: bx 52 1 :: ba 53 e_3 :: bg 54 (LS aZ ([e_3]:List Int)) :: [vJ g,bx 5 0],[bf 4 cJ (l0_2.set (e_3).toNat true),bf 3 aZ l1_2, .gone]⟩ ?_
 obtain ⟨hp,h⟩:=h
 refine jF (S2:=⟨sl 38 (LS aZ e_2) :: ba 39 (e_2.length:Int) :: ba 40 x40 :: ba 53 e_3 :: bg 54 (LS aZ ([e_3]:List Int)) :: [vJ g,bx 5 0],[bf 4 cJ (l0_2.set (e_3).toNat true),bf 3 aZ l1_2, .gone]⟩) (K:=[1]) (p:=some (1,bf 3 aZ (l1_2 ++ ([e_3]:List Int)))) hn (by rfl) (aP (T:=aZ) (l:=l1_2) (es:=([e_3]:List Int)) rfl hp) (by kernel_rfl) (by rfl) (by rfl) (by rfl) ?_
 refine bM hn ?_
 exact bZ ((l0_2.set (e_3).toNat true),(l1_2 ++ ([e_3]:List Int))) h
 exact bn (bZ (l0_2,l1_2) h)
 rintro ⟨l0_3,l1_3⟩ h
 replace h:=hJ _ _ h
 exact cn hn ((wr (x40 + 1)),l0_3,l1_3) h
 exact bD rfl (bZ (l0_2,l1_2) h)
 refine bD rfl (bp (cw ht hn 2 ⟨[bx 4 0],[bf 4 cJ l0, .gone]⟩ ?_))
 exact cT (vA (itf:=fun l=>bf 4 cJ l) hmay (by rfl) (by rfl) rfl rfl h)
theorem My : ∀ args w,(callFunc 18 args).run Tryz.prog w=.ok (.enter 18 args) w:=enters_of Tryz.func18 (by kernel_rfl) rfl
def Ce (g:cj) (p q:Int):Prop:=∃ row,cq g.aa p=some row /\ q ∈ row
inductive rj (g:cj) (l:List Int):Int -> Prop where
 | one {p q:Int}:p ∈ l -> Ce g p q -> rj g l q
 | step {p q:Int}:rj g l p -> Ce g p q -> rj g l q
open Classical in
def lJ (g:cj) (l:List Int):List Bool:=(List.range g.aa.length).map fun (k:Nat)=>decide (rj g l (k:Int))
open Classical in
theorem wu {g:cj} {l:List Int} {k:Nat} (hk:k < g.aa.length) (h:rj g l (k:Int)):gx (lJ g l) k=true:=by
 unfold lJ
 rw [eS (by simpa using hk),nR,List.getElem_range]
 exact decide_eq_true h
open Classical in
theorem ui {g:cj} {l:List Int} {k:Nat} (hk:k < g.aa.length) (h:¬ rj g l (k:Int)):gx (lJ g l) k=false:=by
 unfold lJ
 rw [eS (by simpa using hk),nR,List.getElem_range]
 exact decide_eq_false h
theorem Ae {g:cj} {l:List Int}:(lJ g l).length=g.aa.length:=by unfold lJ; rw [df,g8]
structure zE (g:cj) (l:List Int):Prop where
 len:g.aa.length <= 1000000
 next:∀ row ∈ g.aa,∀ q ∈ row,0 <= q /\ q < (g.aa.length:Int)
 from_:∀ q ∈ l,0 <= q /\ q < (g.aa.length:Int)
 few:l.length <= 1000000
 rows:∀ row ∈ g.aa,row.length <= 1000000000
structure NX (g:cj) (l:List Int) (m:List Bool) (s:List Int):Prop where
 len:m.length=g.aa.length
 sound:∀ k:Nat,k < m.length -> gx m k=true -> rj g l (k:Int)
 stack:∀ q ∈ s,(0 <= q /\ q < (g.aa.length:Int)) /\ (q ∈ l \/ gx m q.toNat=true)
 closed:∀ p:Int,0 <= p -> p < (g.aa.length:Int) -> (p ∈ l \/ gx m p.toNat=true) -> p ∉ s -> ∀ q,Ce g p q -> gx m q.toNat=true
 few:s.length + m.count false <= l.length + g.aa.length
theorem Hp {n k:Nat} {b:Bool} (h:k < n):gx (List.replicate n b) k=b:=by
 rw [eS (by simpa using h),List.getElem_replicate]
theorem va {m:List Bool} {k:Nat} (h:k < m.length) (hf:gx m k=false):(m.set k true).count false + 1=m.count false:=by
 rw [eS h] at hf
 have h1:0 < m.count false:=List.count_pos_iff.2 (by rw [<- hf]; exact dK h)
 rw [List.count_set h,hf]
 simp
 omega
theorem Dz (g:cj) (l:List Int) (hp:zE g l)  : CtI 18 [.sv (.one (.pe (eu (.agg [LS (cB aZ) g.aa,LS cJ g.aW])) 2)), .sv (.one (LS aZ l))] [] (bf 4 cJ (lJ g l)):=by
 refine (Fx g l (fun res_=>res_=(lJ g l)) ?_).fun
 obtain ⟨h1,h2,h3,h4,h5⟩:=hp
 unfold zk
 intro _
 rw [bE]
 refine ⟨⟨by omega,by omega,by omega⟩,by omega,fun m s=>NX g l m s,fun m s=>2 * m.count false + s.length,⟨jb,fun k hk hg=>?_,fun q hq=>⟨h3 q hq, .inl hq⟩,fun p p0 p1 hp hs=>?_,?_⟩,?_⟩
 ·rw [jb] at hk
  rw [Hp hk] at hg
  cases hg
 ·rcases hp with hp | hp
  ·exact absurd hp hs
  ·rw [Hp (by omega)] at hp
   cases hp
 ·rw [List.count_replicate]
  simp
 rintro m s hI
 obtain ⟨i1,i2,i3,i4,i5⟩:=hI
 refine ⟨fun hb=>?_,fun hb=>?_⟩
 rotate_left
 ·have hb:=cx hb
  have hs:s=[]:=List.length_eq_zero_iff.1 (by omega)
  subst hs
  have cl:∀ q,rj g l q -> 0 <= q /\ q < (g.aa.length:Int) /\ gx m q.toNat=true:=fun q hq=>by
   have rg:∀ p q,Ce g p q -> 0 <= q /\ q < (g.aa.length:Int):=fun p q ⟨row,e1,e2⟩=>h2 row (dC (bs e1).2.2) q e2
   induction hq with
   | one hp he=>exact ⟨(rg _ _ he).1,(rg _ _ he).2,i4 _ (h3 _ hp).1 (h3 _ hp).2 (.inl hp) (by simp) _ he⟩
   | step _ he ih=>exact ⟨(rg _ _ he).1,(rg _ _ he).2,i4 _ ih.1 ih.2.1 (.inr ih.2.2) (by simp) _ he⟩
  show m=lJ g l
  refine List.ext_getElem (by rw [Ae]; exact i1) fun k k1 k2=>?_
  rw [<- eS k1,<- eS k2]
  cases c:gx m k with
  | false =>
   refine (ui (by omega) fun hr=>?_).symm
   have:=(cl _ hr).2.2
   rw [bE,c] at this
   cases this
  | true=>exact (wu (by omega) (i2 k k1 c)).symm
 have hb:=ca hb
 have wl:wr ((s.length:Int) - 1)=((s.length - 1:Nat):Int):=by rw [bL (by omega) (by omega)]; omega
 rw [wl]
 have hlast:gx s (s.length - 1) ∈ s:=by rw [eS (by omega)]; exact dK _
 obtain ⟨p,hp⟩:∃ p,p=gx s (s.length - 1):=⟨_,rfl⟩
 rw [<- hp] at hlast
 obtain ⟨⟨p0,p1⟩,pm⟩:=i3 p hlast
 obtain ⟨row,hrow⟩:∃ row,cq g.aa p=some row:=⟨_,bB p0 p1⟩
 have hmem:row ∈ g.aa:=dC (bs hrow).2.2
 have hrl:=h5 row hmem
 have hsb:s.length - 1 < s.length:=by omega
 refine ⟨p,by rw [hp]; exact eP (by omega) |>.trans (by rw [eS hsb]),⟨by omega,by omega⟩,row,hrow,?_⟩
 rw [bE]
 obtain ⟨s0,gS⟩:∃ s0,s0=s.take (s.length - 1):=⟨_,rfl⟩
 rw [<- gS]
 have hsl:s0.length + 1=s.length:=by rw [gS,eU]; omega
 have hss:∀ q,q ∈ s -> q=p \/ q ∈ s0:=fun q hq=>by
  obtain ⟨k,hk,rfl⟩:=List.mem_iff_getElem.1 hq
  rcases dA k (s.length - 1) with c | c
  ·exact .inr (by rw [gS]; exact List.mem_iff_getElem.2 ⟨k,by rw [eU]; omega,List.getElem_take ..⟩)
  ·have:k=s.length - 1:=by omega
   subst this
   exact .inl (by rw [hp,eS hk])
 have hs0s:∀ q ∈ s0,q ∈ s:=fun q hq=>by rw [gS] at hq; exact List.mem_of_mem_take hq
 refine ⟨fun x m2 s2=>∃ k:Nat,x=k /\ k <= row.length /\ m2.length=m.length /\ (∀ j:Nat,gx m j=true -> gx m2 j=true) /\ (∀ j,j < k -> ∀ q,row[j]? = some q -> gx m2 q.toNat=true) /\ (∀ j:Nat,j < m2.length -> gx m2 j=true -> rj g l (j:Int)) /\ (∀ q ∈ s2,(0 <= q /\ q < (g.aa.length:Int)) /\ (q ∈ l \/ gx m2 q.toNat=true)) /\ (∀ q,q ∈ s0 -> q ∈ s2) /\ (∀ j:Nat,j < m2.length -> gx m2 j=true -> gx m j=false -> (j:Int) ∈ s2) /\ s2.length + m2.count false=s0.length + m.count false /\ m2.count false <= m.count false,fun x _ _=>row.length - x.toNat,⟨0,rfl,cy _,rfl,fun _ h=>h,fun j hj=>absurd hj (e9 _),i2,fun q hq=>i3 q (hs0s q hq),fun _ h=>h,fun j _ h1 h2=>(by rw [h1] at h2; cases h2),rfl,bP _⟩,?_⟩
 rintro x m2 s2 ⟨k,rfl,hk,c1,c2,c3,c4,c5,c6,c7,c8,c9⟩
 refine ⟨fun hb2=>?_,fun hb2=>?_⟩
 rotate_left
 ·have hge:=dge hb2
  have few2:s2.length + m2.count false <= l.length + g.aa.length:=by omega
  have mu2:2 * m2.count false + s2.length < 2 * m.count false + s.length:=by omega
  refine ⟨⟨c1.trans i1,c4,c5,fun q q0 q1 hq hqs r hr=>?_,few2⟩,mu2⟩
  obtain ⟨row',e1,e2⟩:=hr
  by_cases hqp:q=p
  ·subst hqp
   rw [hrow] at e1
   cases e1
   obtain ⟨j,hj,rfl⟩:=List.mem_iff_getElem.1 e2
   exact c3 j (by omega) _ (cO hj)
  ·have hqm:q ∈ l \/ gx m q.toNat=true:=by
    rcases hq with hq | hq
    ·exact .inl hq
    ·cases c:gx m q.toNat with
     | true=>exact .inr rfl
     | false =>
      have:=c7 q.toNat (by omega) hq c
      rw [dB q0] at this
      exact absurd this hqs
   refine c2 _ (i4 q q0 q1 hqm (fun hqs'=>?_) r ⟨row',e1,e2⟩)
   rcases hss q hqs' with c | c
   ·exact hqp c
   ·exact hqs (c6 q c)
 have hlt:=dlt hb2
 obtain ⟨r0,r1⟩:=h2 row hmem _ (dK hlt)
 obtain ⟨q,hq⟩:∃ q,q=row[k]:=⟨_,rfl⟩
 rw [<- hq] at r0 r1
 have hqn:q.toNat < m2.length:=by omega
 have hrc:rj g l q:=by
  have he:Ce g p q:=⟨row,hrow,by rw [hq]; exact dK hlt⟩
  rcases pm with c | c
  ·exact .one c he
  ·have:=i2 p.toNat (by omega) c
   rw [dB p0] at this
   exact .step this he
 refine ⟨fun m3 s3=>(gx m2 q.toNat=false /\ m3=m2.set q.toNat true /\ s3=s2 ++ [q]) \/ (gx m2 q.toNat=true /\ m3=m2 /\ s3=s2),⟨q,by rw [hq]; exact eP hlt,_,bB r0 (by omega),fun e=>⟨_,bB r0 (by omega),eI ?_, .inl ⟨by simpa using e,rfl,rfl⟩⟩,fun e=>.inr ⟨by simpa using e,rfl,rfl⟩⟩,?_⟩
 ·simp only [dq,dI]
  omega
 rintro m3 s3 (⟨e,rfl,rfl⟩ | ⟨e,rfl,rfl⟩)
 ·have gs:∀ j,gx (m2.set q.toNat true) j=if j=q.toNat then true else gx m2 j:=fun j=>fS hqn
  have hcm:=va hqn e
  refine ⟨⟨k + 1,dj (by omega),hlt,by rw [cK]; exact c1,fun j hj=>?_,fun j hj r hr=>?_,fun j hj hg=>?_,fun r hr=>?_,fun r hr=>kp _ (c6 r hr),fun j hj hg hn=>?_,?_,by omega⟩,dQ hlt (by omega)⟩
  ·rw [gs]
   split
   ·rfl
   ·exact c2 j hj
  ·rw [gs]
   split
   ·rfl
   ·rcases cU.1 hj with c | rfl
    ·exact c3 j c r hr
    ·rw [cO hlt,<- hq] at hr
     cases hr
     contradiction
  ·rw [gs] at hg
   split at hg
   ·rename_i c
    rw [c,dB r0]
    exact hrc
   ·exact c4 j (by rw [cK] at hj; exact hj) hg
  ·rcases gO.1 hr with hr | hr
   ·refine ⟨(c5 r hr).1,(c5 r hr).2.imp id fun h=>?_⟩
    rw [gs]
    split
    ·rfl
    ·exact h
   ·rw [et.1 hr]
    exact ⟨⟨r0,r1⟩, .inr (by rw [gs,if_pos rfl])⟩
  ·rw [gs] at hg
   split at hg
   ·rename_i c
    rw [c,dB r0]
    exact List.mem_append_right _ (et.2 rfl)
   ·exact kp _ (c7 j (by rw [cK] at hj; exact hj) hg hn)
  ·rw [di]
   simp only [dq,dI]
   omega
 ·refine ⟨⟨k + 1,dj (by omega),hlt,c1,c2,fun j hj r hr=>?_,c4,c5,c6,c7,c8,c9⟩,dQ hlt (by omega)⟩
  rcases cU.1 hj with c | rfl
  ·exact c3 j c r hr
  ·rw [cO hlt,<- hq] at hr
   cases hr
   exact e
def zr (a:bd) (l:bt) (Q:(Bool × Int) -> Prop):Prop:=
 a.af.length <= 9223372036854775807 ->
 a.ar.length <= 9223372036854775807 ->
 a.av.length <= 9223372036854775807 ->
 l.aG.length <= 9223372036854775807 ->
 l.aD.length <= 9223372036854775807 ->
 (cv ((ee a) != 0) (Q (false,(ee a))) (cv ((nr a.ae l) != 0) (Q (false,(nr a.ae l))) ((l.aG.length * 8 <= 140737488355328) /\
 ed (l.aG).length (l.aD:List Int).length 8 /\
 jM (wr (a.ac * (((l.aG) ++ l.aD).length:Int))) (wr (a.ac * (((l.aG) ++ l.aD).length:Int))) 24 /\
 jM (wr (a.ac * (((l.aG) ++ l.aD).length:Int))) (wr (a.ac * (((l.aG) ++ l.aD).length:Int))) 1 /\
 ∃ (Inv:Int -> (List (List Int)) -> (List Bool) -> Prop) (mu:Int -> (List (List Int)) -> (List Bool) -> Nat),Inv 0 (List.replicate ((wr (a.ac * (((l.aG) ++ l.aD).length:Int)))).toNat ([]:List Int)) (List.replicate ((wr (a.ac * (((l.aG) ++ l.aD).length:Int)))).toNat false) /\
 ∀ x57 g4 l5,Inv x57 g4 l5 -> (cv (decide (x57 < (((l.aG) ++ l.aD).length:Int))) (∃ e,cq ((l.aG) ++ l.aD) x57=some e /\
 ∃ J:Int -> Prop,(cv ((wr (x57 + 1)) == (((l.aG) ++ l.aD).length:Int)) (J (l.aG.length:Int)) (J (wr (x57 + 1)))) /\
 (∀ x13,J x13 -> ∃ (Inv_2:Int -> (List (List Int)) -> Prop) (mu_2:Int -> (List (List Int)) -> Nat),Inv_2 0 g4 /\
 ∀ x73 g4_2,Inv_2 x73 g4_2 -> (cv (decide (x73 < (a.ar.length:Int))) (∃ J_2:(List (List Int)) -> Prop,(∃ e_2,cq a.ar x73=some e_2 /\
 cv (e_2.az == e) (∃ e_3,cq g4_2 (wr ((wr (x57 * a.ac)) + e_2.am))=some e_3 /\
 ∃ e_4,cq g4_2 (wr ((wr (x57 * a.ac)) + e_2.am))=some e_4 /\
 ed e_3.length ([(wr ((wr (x13 * a.ac)) + e_2.aA))]:List Int).length 8 /\
 ∃ e_5,cq g4_2 (wr ((wr (x57 * a.ac)) + e_2.am))=some e_5 /\
 J_2 (g4_2.set ((wr ((wr (x57 * a.ac)) + e_2.am))).toNat (e_3 ++ ([(wr ((wr (x13 * a.ac)) + e_2.aA))]:List Int)))) (J_2 g4_2)) /\
 (∀ g4_3,J_2 g4_3 -> (Inv_2 (wr (x73 + 1)) g4_3 /\ mu_2 (wr (x73 + 1)) g4_3 < mu_2 x73 g4_2))) (∃ (Inv_3:Int -> (List Bool) -> Prop) (mu_3:Int -> (List Bool) -> Nat),Inv_3 0 l5 /\
 ∀ x119 l5_2,Inv_3 x119 l5_2 -> (cv (decide (x119 < (a.av.length:Int))) (∃ e_6,cq a.av x119=some e_6 /\
 ∃ e_7,cq l5_2 (wr ((wr (x57 * a.ac)) + e_6))=some e_7 /\
 (Inv_3 (wr (x119 + 1)) (l5_2.set ((wr ((wr (x57 * a.ac)) + e_6))).toNat true) /\ mu_3 (wr (x119 + 1)) (l5_2.set ((wr ((wr (x57 * a.ac)) + e_6))).toNat true) < mu_3 x119 l5_2)) ((Inv (wr (x57 + 1)) g4_2 l5_2 /\ mu (wr (x57 + 1)) g4_2 l5_2 < mu x57 g4 l5))))))) ((zE (cj.mk g4 l5) a.af) /\
 ∃ (Inv_4:Int -> (List Bool) -> Prop) (mu_4:Int -> (List Bool) -> Nat),Inv_4 0 (lJ (cj.mk g4 l5) a.af) /\
 ∀ x143 l7,Inv_4 x143 l7 -> (cv (decide (x143 < (a.af.length:Int))) (∃ e_8,cq a.af x143=some e_8 /\
 ∃ e_9,cq l7 e_8=some e_9 /\
 (Inv_4 (wr (x143 + 1)) (l7.set (e_8).toNat true) /\ mu_4 (wr (x143 + 1)) (l7.set (e_8).toNat true) < mu_4 x143 l7)) (∃ (Inv_5:Int -> Prop) (mu_5:Int -> Nat),Inv_5 0 /\
 ∀ x153,Inv_5 x153 -> (cv (decide (x153 < (l7.length:Int))) (∃ e_10,cq l7 x153=some e_10 /\
 ∃ J_3:Bool -> Prop,(cv e_10 (∃ e_11,cq l5 x153=some e_11 /\
 cv e_11 ((zE (cj.mk g4 l5) ([x153]:List Int)) /\
 ∃ e_12,cq (lJ (cj.mk g4 l5) ([x153]:List Int)) x153=some e_12 /\
 J_3 e_12) (J_3 false)) (J_3 false)) /\
 (∀ x176,J_3 x176 -> cv x176 (Q (true,0)) ((Inv_5 (wr (x153 + 1)) /\ mu_5 (wr (x153 + 1)) < mu_5 x153)))) (Q (false,0))))))))))
abbrev ED (l:bt) (a:bd) (y0) (y1) (y2) (y3):=([bg 2 (.ptr 0 0),bg 3 (.ptr 1 0),bg 9 (I ((l.aG ++ l.aD).length:Int)),bg 10 (.ptr 6 0),bg 11 (I y0),bg 12 (I y1),bg 13 (I y2),bg 55 (.own 3),bg 56 (I ((l.aG ++ l.aD).length:Int)),bg 57 (I y0),bg 71 (LS aY.ty a.ar),bg 72 (I (a.ar.length:Int)),bg 73 (I y3)]:List (Nat × SC))
abbrev ks (a:bd) (y0:Int) (y1:Int):=(wr ((wr (y0 * a.ac)) + y1))
abbrev vI (a:bd) (l:bt):=(wr (a.ac * ((l.aG ++ l.aD).length:Int)))
abbrev rJ (l:bt):=(I ((l.aG ++ l.aD).length:Int))
abbrev rI := (.box [.gs 4 0, .own 5] 57 false:br)
abbrev Ll (y0) (y1) (y2):=([.gone, .gone, .gone, .gone, .gone, .gone, .box [LS (cB aZ) y0,LS cJ y1] 57 true,bf 4 cJ y2]:List br)
abbrev uu (a:bd) (y0:Int) (y1:Int):=(wr ((wr (y0 * a.ac)) + y1))
abbrev vH := sl 10 (.ptr 6 0)
set_option maxHeartbeats 2000000 in
theorem FG (a:bd) (l:bt) (Q:(Bool × Int) -> Prop) (h:zr a l Q):Ct 6 [.sv (.agg [I a.ae,I a.ac,LS aZ a.af,LS aY.ty a.ar,LS aZ a.av]), .sv (.agg [LS aZ l.aG,LS aZ l.aD])] [] Q (fun (r:(Bool × Int))=>.tup [.one (B r.1), .one (I r.2)]):=by
 have ht:=bA
 refine Ct.body Tryz.func6 rfl rfl rfl rfl (fun c hn=>?_)
 unfold zr at h
 refine bQ 0 2 (by rfl) (by rfl) (fun hl=>?_)
 replace h:=h hl
 clear hl
 refine bQ 0 3 (by rfl) (by rfl) (fun hl=>?_)
 replace h:=h hl
 clear hl
 refine bQ 0 4 (by rfl) (by rfl) (fun hl=>?_)
 replace h:=h hl
 clear hl
 refine bQ 1 0 (by rfl) (by rfl) (fun hl=>?_)
 replace h:=h hl
 clear hl
 refine bQ 1 1 (by rfl) (by rfl) (fun hl=>?_)
 replace h:=h hl
 clear hl
 refine bk hn ?_
 refine bi (bp (cN hn 1 ?_))
 refine fK hn (cL (tR a) Kc rfl) ?_
 refine bM hn ?_
 refine bk hn ?_
 refine bv h (fun h=>?_) (fun h=>?_)
 exact cD hn (false,(ee a)) h
 refine bn (bi (bp (cN hn 3 ?_)))
 refine fK hn (cL (Cn a.ae l) Mz rfl) ?_
 refine bM hn ?_
 refine bk hn ?_
 refine bv h (fun h=>?_) (fun h=>?_)
 exact cD hn (false,(nr a.ae l)) h
 refine bn (bi ?_)
 obtain ⟨hp_2,h⟩:=h
 obtain ⟨hp_3,h⟩:=h
 refine da ⟨[bu 2 0 0,bu 3 1 0],[cQ 1 0,o1 (LS aZ l.aG),cu 2,cQ 1 1,o1 (LS aZ l.aD),cu 3,cu 3],[bU (.box (bd.cl a) 25 false),bU (.box (bt.cl l) 27 false),⟨bf 3 aZ l.aG,some 2,some 5,none⟩,⟨bf 3 aZ (l.aG ++ l.aD),some 5,none,none⟩]⟩ hn ?_ ?_
 exact ⟨.e,
 .e,
 .mt ⟨[bg 36 (LS aZ l.aG)],[]⟩ [] (some 2) (by kernel_rfl) (by rfl) (iK 2 (ir l.aG hp_2) Fe (caps:=[]) [] rfl rfl (by rfl) (by kernel_rfl) (by kernel_rfl) (by rfl) (by rfl)) rfl rfl rfl rfl,
 .e,
 .e,
 .mt ⟨[bx 37 2,bg 39 (LS aZ l.aD)],[.gone, .gone,bf 3 aZ l.aG]⟩ [2] (some 3) (by kernel_rfl) (by rfl) (aP (T:=aZ) (l:=l.aG) (es:=l.aD) (p:=3) rfl hp_3) rfl rfl rfl rfl,
 .e,
 trivial⟩
 refine bk hn ?_
 refine bi ?_
 obtain ⟨hp_4,h⟩:=h
 obtain ⟨hp_5,h⟩:=h
 refine da ⟨[bu 2 0 0,bu 3 1 0,bx 8 3,bg 9 (rJ l)],[cQ 0 1,bq a.ac,o1 (rJ l),bq (vI a l),o1 (.gs 4 0),cQ 0 1,bq a.ac,o1 (rJ l),bq (vI a l),cu 5, .sv (.agg [.gs 4 0, .own 5]),cQ 6 0,cQ 6 0],[bU (.box (bd.cl a) 25 false),bU (.box (bt.cl l) 27 false),bU .gone,bU (bf 3 aZ (l.aG ++ l.aD)),⟨fZ 22 3 aZ (List.replicate (vI a l).toNat ([]:List Int)),some 4,none,none⟩,⟨bf 4 cJ (List.replicate (vI a l).toNat false),some 9,none,none⟩,⟨(rI),some 11,none,none⟩]⟩ hn ?_ ?_
 exact ⟨.e,
 .e,
 .e,
 .e,
 .mt ⟨[ba 46 (vI a l)],[]⟩ [] (some 4) (by kernel_rfl) (by rfl) (Ax aZ 3 (zv:=.slice none 0 0) 4 (l:=(vI a l)) (cp:=(vI a l)) ht rfl (by rfl) (by rfl) (by rfl) (by rfl) (by rfl) (by rfl) hp_4.1 hp_4.2.1 hp_4.2.2 (hp_4.le (by decide)) rfl rfl) rfl rfl rfl rfl,
 .e,
 .e,
 .e,
 .e,
 .mt ⟨[ba 51 (vI a l)],[]⟩ [] (some 5) (by kernel_rfl) (by rfl) (kN (T:=cJ) false (zv:=(.bool false)) 5 (l:=(vI a l)) (cp:=(vI a l)) ht rfl (by rfl) (by rfl) (by rfl) (by rfl) (by decide) (by rfl) (by rfl) hp_5.1 hp_5.2.1 hp_5.2.2 (hp_5.le (by decide)) rfl (fun _=>⟨rfl,trivial⟩)) rfl rfl rfl rfl,
 .e,
 .mt ⟨[(53, .sv (.agg [.gs 4 0, .own 5]))],[]⟩ [] (some 6) (by kernel_rfl) (by rfl) (Ha (s:=.agg [.gs 4 0, .own 5]) 6 rfl (by rfl) (fun h=>by cases h) (by rfl)) rfl rfl rfl rfl,
 .e,
 trivial⟩
 refine bi (bk hn ?_)
 refine bj (ma h (fun zz=>⟨[bu 2 0 0,bu 3 1 0,bg 9 (rJ l),vH,bx 55 3,bg 56 (rJ l),ba 57 zz.1],[.box (bd.cl a) 25 false, .box (bt.cl l) 27 false, .gone,bf 3 aZ (l.aG ++ l.aD),fZ 22 3 aZ zz.2.1,bf 4 cJ zz.2.2,rI]⟩) fun Inv mu x57 g4 l5 h=>?_)
 refine bk hn ?_
 refine bi (bv h (fun h=>?_) (fun h=>?_))
 refine bn (bi (bj (bp (cN hn 1 ?_))))
 obtain ⟨e,he,h⟩:=h
 refine bT hn (iO (T:=aZ) rfl he) ?_
 refine bT hn (lO (T:=aZ) rfl (bs he).2.2) ?_
 refine bM hn ?_
 refine bk hn ?_
 obtain ⟨J,h,hJ⟩:=h
 refine bS (σ:=Int) (fun zz=>J zz) (fun zz=>⟨[bu 2 0 0,bu 3 1 0,bg 9 (rJ l),vH,ba 11 x57,ba 12 e,ba 13 zz,bx 55 3,bg 56 (rJ l),ba 57 x57],[.box (bd.cl a) 25 false, .box (bt.cl l) 27 false, .gone,bf 3 aZ (l.aG ++ l.aD),fZ 22 3 aZ g4,bf 4 cJ l5,rI]⟩) ?_ ?_
 refine bk hn ?_
 refine bv h (fun h=>?_) (fun h=>?_)
 exact cn hn (l.aG.length:Int) h
 exact bn (bZ (wr (x57 + 1)) h)
 intro x13 h
 replace h:=hJ _ h
 refine bi (bk hn ?_)
 refine bj (dV h (fun zz=>⟨[bu 2 0 0,bu 3 1 0,bg 9 (rJ l),vH,ba 11 x57,ba 12 e,ba 13 x13,bx 55 3,bg 56 (rJ l),ba 57 x57,bg 71 (LS aY.ty a.ar),ba 72 (a.ar.length:Int),ba 73 zz.1],[.box (bd.cl a) 25 false, .box (bt.cl l) 27 false, .gone,bf 3 aZ (l.aG ++ l.aD),fZ 22 3 aZ zz.2,bf 4 cJ l5,rI]⟩) fun Inv_2 mu_2 x73 g4_2 h=>?_)
 refine bk hn ?_
 refine bi (bv h (fun h=>?_) (fun h=>?_))
 refine bn ?_
 obtain ⟨J_2,h,hJ_2⟩:=h
 refine bS (σ:=(List (List Int))) (fun zz=>J_2 zz) (fun zz=>⟨(ED l a x57 e x13 x73),[.box (bd.cl a) 25 false, .box (bt.cl l) 27 false, .gone,bf 3 aZ (l.aG ++ l.aD),fZ 22 3 aZ zz,bf 4 cJ l5,rI, .gone]⟩) ?_ ?_
 refine bj (bp ?_)
 obtain ⟨e_2,he_2,h⟩:=h
 refine bT hn (iX (T:=aY.ty) rfl he_2) ?_
 refine bT hn (lD (s:=.agg (aY.cl e_2)) rfl) ?_
 refine bM hn ?_
 refine bp (cw ht hn 4 ⟨bu 15 7 0 :: bG 80 (e_2.az == e) :: (ED l a x57 e x13 x73),[.box (bd.cl a) 25 false, .box (bt.cl l) 27 false, .gone,bf 3 aZ (l.aG ++ l.aD),fZ 22 3 aZ g4_2,bf 4 cJ l5,rI, .box (aY.cl e_2) 29 false]⟩ ?_)
 refine bv h (fun h=>?_) (fun h=>?_)
 obtain ⟨e_3,he_3,h⟩:=h
 refine xk (T:=aZ) (L:=g4_2) (l:=e_3) (i:=4) (p:=(ks a x57 e_2.am).toNat) (j:=8) (by rfl) (bs he_3).2.2 (by rfl) (by rfl) ?_
 refine mI ⟨bu 15 7 0 :: bG 80 (e_2.az == e) :: (ED l a x57 e x13 x73),[.box (bd.cl a) 25 false, .box (bt.cl l) 27 false, .gone,bf 3 aZ (l.aG ++ l.aD),kO 22 3 aZ g4_2 (ks a x57 e_2.am).toNat (some ((ks a x57 e_2.am).toNat,8)),bf 4 cJ l5,rI, .box (aY.cl e_2) 29 false,bf 3 aZ e_3]⟩ (by kernel_rfl) ?_
 obtain ⟨e_4,he_4,h⟩:=h
 obtain ⟨hp_6,h⟩:=h
 refine dt ⟨bu 15 7 0 :: (ED l a x57 e x13 x73),[cQ 6 0,cQ 6 0,cQ 6 0,o1 (.gs 4 0),bq x57,cQ 0 1,bq a.ac,bq (wr (x57 * a.ac)),cQ 7 0,bq e_2.am,bq (ks a x57 e_2.am),cQ 6 0,cQ 6 0,cQ 6 0,o1 (.gs 4 0),bq x57,cQ 0 1,bq a.ac,bq (wr (x57 * a.ac)),cQ 7 0,bq e_2.am,bq (ks a x57 e_2.am),o1 (.ge 4 0 (ks a x57 e_2.am).toNat 1),cu 8,bq x13,cQ 0 1,bq a.ac,bq (wr (x13 * a.ac)),cQ 7 2,bq e_2.aA,bq (uu a x13 e_2.aA),o1 (LS aZ ([uu a x13 e_2.aA]:List Int)),cu 9],[bU (.box (bd.cl a) 25 false),bU (.box (bt.cl l) 27 false),bU .gone,bU (bf 3 aZ (l.aG ++ l.aD)),bU (kO 22 3 aZ g4_2 (ks a x57 e_2.am).toNat (some ((ks a x57 e_2.am).toNat,8))),bU (bf 4 cJ l5),bU (rI),bU (.box (aY.cl e_2) 29 false),⟨bf 3 aZ e_3,none,some 32,none⟩,⟨bf 3 aZ (e_3 ++ ([uu a x13 e_2.aA]:List Int)),some 32,none,none⟩]⟩ 33 ⟨sl 84 (.gs 4 0) :: ba 91 (ks a x57 e_2.am) :: bx 113 9 :: (ED l a x57 e x13 x73),[.box (bd.cl a) 25 false, .box (bt.cl l) 27 false, .gone,bf 3 aZ (l.aG ++ l.aD),kO 22 3 aZ g4_2 (ks a x57 e_2.am).toNat (some ((ks a x57 e_2.am).toNat,8)),bf 4 cJ l5,rI, .gone, .gone,bf 3 aZ (e_3 ++ ([uu a x13 e_2.aA]:List Int))]⟩ (by kernel_rfl) hn (by kernel_rfl) (by kernel_rfl) (by kernel_rfl) (by rfl) (by kernel_rfl) ?_ (by kernel_rfl) ?_
 exact ⟨.e,
 .e,
 .e,
 .e,
 .e,
 .e,
 .e,
 .e,
 .e,
 .e,
 .e,
 .e,
 .e,
 .e,
 .e,
 .e,
 .e,
 .e,
 .e,
 .e,
 .e,
 .e,
 .vl ⟨[bg 95 (.gs 4 0),ba 102 (ks a x57 e_2.am)],[.gone, .gone, .gone, .gone,kO 22 3 aZ g4_2 (ks a x57 e_2.am).toNat (some ((ks a x57 e_2.am).toNat,8))]⟩ (bX (kI (T:=aZ) (L:=g4_2) (k:=(ks a x57 e_2.am)) ht rfl (by rfl) (by rfl) (by rfl) (by rfl) (by rfl) (by rfl) (by rfl) ⟨(bs he_4).1,(bs he_4).2.1⟩)),
 .vl ⟨[bg 103 (.ge 4 0 (ks a x57 e_2.am).toNat 1)],[.gone, .gone, .gone, .gone,kO 22 3 aZ g4_2 (ks a x57 e_2.am).toNat (some ((ks a x57 e_2.am).toNat,8))]⟩ (bX (tY (T:=aZ) (L:=g4_2) (p:=(ks a x57 e_2.am).toNat) (j:=8) ht rfl (by rfl) (by rfl) (by rfl) (by rfl))),
 .e,
 .e,
 .e,
 .e,
 .e,
 .e,
 .e,
 .mt ⟨[ba 111 (uu a x13 e_2.aA)],[]⟩ [] none (by kernel_rfl) (by rfl) (jV (q:=9) (e:=3) (lI (T:=aZ) ([uu a x13 e_2.aA]:List Int) 9 rfl)) rfl rfl rfl rfl,
 .mt ⟨[bx 104 8,bg 112 (LS aZ ([uu a x13 e_2.aA]:List Int))],[.gone, .gone, .gone, .gone, .gone, .gone, .gone, .gone,bf 3 aZ e_3]⟩ [8] (some 9) (by kernel_rfl) (by rfl) (aP (T:=aZ) (l:=e_3) (es:=([uu a x13 e_2.aA]:List Int)) (p:=9) rfl hp_6) rfl rfl rfl rfl,
 trivial⟩
 obtain ⟨e_5,he_5,h⟩:=h
 refine fe hn (kI (T:=aZ) (L:=g4_2) (k:=(ks a x57 e_2.am)) ht rfl (by rfl) (by rfl) (by rfl) (by rfl) (by rfl) (by rfl) (by rfl) ⟨(bs he_5).1,(bs he_5).2.1⟩) ?_
 refine A7 (T:=aZ) (L:=g4_2) (l:=(e_3 ++ ([uu a x13 e_2.aA]:List Int))) ht hn (by rfl) rfl (by rfl) (by rfl) (by rfl) (by rfl) (by rfl) (by rfl) (dd he_5) (by rfl) (by rfl) ?_
 refine H3 ⟨sl 84 (.gs 4 0) :: ba 91 (ks a x57 e_2.am) :: (ED l a x57 e x13 x73),[.box (bd.cl a) 25 false, .box (bt.cl l) 27 false, .gone,bf 3 aZ (l.aG ++ l.aD),fZ 22 3 aZ (g4_2.set (ks a x57 e_2.am).toNat (e_3 ++ ([uu a x13 e_2.aA]:List Int))),bf 4 cJ l5,rI, .gone, .gone, .gone]⟩ (by kernel_rfl) ?_
 exact bH (bZ (g4_2.set (ks a x57 e_2.am).toNat (e_3 ++ ([uu a x13 e_2.aA]:List Int))) h)
 exact bn (bZ g4_2 h)
 intro g4_3 h
 replace h:=hJ_2 _ h
 exact cn hn ((wr (x73 + 1)),g4_3) h
 refine bD rfl (bk hn ?_)
 refine bj (dV h (fun zz=>⟨[bu 2 0 0,bu 3 1 0,bg 9 (rJ l),vH,ba 11 x57,bx 55 3,bg 56 (rJ l),ba 57 x57,bg 117 (LS aZ a.av),ba 118 (a.av.length:Int),ba 119 zz.1],[.box (bd.cl a) 25 false, .box (bt.cl l) 27 false, .gone,bf 3 aZ (l.aG ++ l.aD),fZ 22 3 aZ g4_2,bf 4 cJ zz.2,rI]⟩) fun Inv_3 mu_3 x119 l5_2 h=>?_)
 refine bk hn ?_
 refine bi (bv h (fun h=>?_) (fun h=>?_))
 refine bn (bi (bj (bp ?_)))
 obtain ⟨e_6,he_6,h⟩:=h
 refine bT hn (iX (T:=aZ) rfl he_6) ?_
 refine bT hn (lD (s:=.one (I e_6)) rfl) ?_
 refine bM hn ?_
 obtain ⟨e_7,he_7,h⟩:=h
 refine da ⟨[bu 2 0 0,bu 3 1 0,bg 9 (rJ l),vH,ba 11 x57,ba 17 e_6,bx 55 3,bg 56 (rJ l),ba 57 x57,bg 117 (LS aZ a.av),ba 118 (a.av.length:Int),ba 119 x119],[cQ 6 0,cQ 6 0,cQ 6 1,cu 5,bq x57,cQ 0 1,bq a.ac,bq (wr (x57 * a.ac)),bq e_6,bq (wr ((wr (x57 * a.ac)) + e_6)),o1 (.oe 5 (wr ((wr (x57 * a.ac)) + e_6)).toNat 1),bJ],[bU (.box (bd.cl a) 25 false),bU (.box (bt.cl l) 27 false),bU .gone,bU (bf 3 aZ (l.aG ++ l.aD)),bU (fZ 22 3 aZ g4_2),⟨bf 4 cJ l5_2,none,none,some (11,bf 4 cJ (l5_2.set (wr ((wr (x57 * a.ac)) + e_6)).toNat true))⟩,bU (rI)]⟩ hn ?_ ?_
 exact ⟨.e,
 .e,
 .e,
 .e,
 .e,
 .e,
 .e,
 .e,
 .e,
 .e,
 .i (T:=cJ) rfl he_7,
 .mu ⟨[bg 133 (.oe 5 (wr ((wr (x57 * a.ac)) + e_6)).toNat 1)],[.gone, .gone, .gone, .gone, .gone,bf 4 cJ l5_2]⟩ 5 _ _ rfl rfl (by kernel_rfl) (by rfl) (dY (T:=cJ) (l:=l5_2) (y:=true) ht rfl (by rfl) (by rfl) (fun _ h=>by cases h) (by rfl) (by rfl) (dd he_7) (by rfl) (by rfl) (by rfl)) rfl rfl rfl rfl rfl rfl rfl,
 trivial⟩
 exact cn hn ((wr (x119 + 1)),(l5_2.set (wr ((wr (x57 * a.ac)) + e_6)).toNat true)) h
 exact bD rfl (cn hn ((wr (x57 + 1)),g4_2,l5_2) h)
 refine bD rfl (bp (bC ht hn 3 ⟨[bu 2 0 0,vH,bu 136 6 0,bg 138 (LS aZ a.af)],[.box (bd.cl a) 25 false, .gone, .gone, .gone,fZ 22 3 aZ g4,bf 4 cJ l5,rI]⟩ ?_))
 refine H4 (T:=aZ) (L':=g4) 4 (by rfl) ?_
 refine dE (T:=cJ) (l:=l5) (e:=4) 5 rfl ?_
 refine iu [6] (by rfl) ?_
 refine gX 136 (o1 (.pe (eu (.agg [LS (cB aZ) g4,LS cJ l5])) 2)) (by rfl) (CV (i:=6) (cells:=[LS (cB aZ) g4,LS cJ l5]) (by rfl) (by rfl) (by rfl)) ?_
 obtain ⟨hp,h⟩:=h
 refine dg (K:=[]) (p:=some (7,bf 4 cJ (lJ (cj.mk g4 l5) a.af))) hn (by rfl) (iK 7 (Dz (cj.mk g4 l5) a.af hp) My (caps:=[]) [] rfl rfl (by rfl) (by kernel_rfl) (by kernel_rfl) (by rfl) (by rfl)) (by rfl) (by rfl) (by rfl) ?_
 refine bM hn ?_
 refine bi (bk hn ?_)
 refine bj (dV h (fun zz=>⟨[vH,bx 18 7,bg 141 (LS aZ a.af),ba 142 (a.af.length:Int),ba 143 zz.1],[.gone, .gone, .gone, .gone, .gone, .gone, .box [LS (cB aZ) g4,LS cJ l5] 57 true,bf 4 cJ zz.2]⟩) fun Inv_4 mu_4 x143 l7 h=>?_)
 refine bk hn ?_
 refine bi (bv h (fun h=>?_) (fun h=>?_))
 refine bn (bi (bj (bp ?_)))
 obtain ⟨e_8,he_8,h⟩:=h
 refine bT hn (iX (T:=aZ) rfl he_8) ?_
 refine bT hn (lD (s:=.one (I e_8)) rfl) ?_
 refine bM hn ?_
 refine bI (cN hn 2 ?_)
 obtain ⟨e_9,he_9,h⟩:=h
 refine bT hn (iO (T:=cJ) rfl he_9) ?_
 refine gg (T:=cJ) (y:=true) hn rfl (dd he_9) ?_
 exact bH (cn hn ((wr (x143 + 1)),(l7.set (e_8).toNat true)) h)
 refine bD rfl (bi (bk hn ?_))
 refine bj (fC h (fun zz=>⟨[vH,bx 151 7,ba 152 (l7.length:Int),ba 153 zz],(Ll g4 l5 l7)⟩) fun Inv_5 mu_5 x153 h=>?_)
 refine bk hn ?_
 refine bi (bv h (fun h=>?_) (fun h=>?_))
 refine bn (bi (bj (bp (cN hn 1 ?_))))
 obtain ⟨e_10,he_10,h⟩:=h
 refine bT hn (iO (T:=cJ) rfl he_10) ?_
 refine bT hn (lO (T:=cJ) rfl (bs he_10).2.2) ?_
 refine bM hn ?_
 obtain ⟨J_3,h,hJ_3⟩:=h
 refine bS (σ:=Bool) (fun zz=>J_3 zz) (fun zz=>⟨[vH,bx 151 7,ba 152 (l7.length:Int),ba 153 x153,bG 176 zz],(Ll g4 l5 l7)⟩) ?_ ?_
 refine bI (cN hn 2 ?_)
 refine cz e_10 (fun hb=>?_) (fun hb=>?_)
 replace h:=h.1 hb
 refine cf 159 hb ?_
 refine cN hn 5 ?_
 obtain ⟨e_11,he_11,h⟩:=h
 refine bT hn (iX (T:=cJ) rfl he_11) ?_
 refine bT hn (lD (s:=.one (B e_11)) rfl) ?_
 refine cN hn 2 ?_
 refine cz e_11 (fun hb=>?_) (fun hb=>?_)
 replace h:=h.1 hb
 refine cf 168 hb ?_
 refine bC ht hn 2 ⟨[vH,ba 21 x153,bx 151 7,ba 152 (l7.length:Int),ba 153 x153,bG 168 true,bu 169 6 0,ba 170 x153],(Ll g4 l5 l7)⟩ ?_
 refine dg (K:=[]) (p:=some (8,bf 3 aZ ([x153]:List Int))) hn (by rfl) (lI (T:=aZ) ([x153]:List Int) 8 rfl) (by rfl) (by rfl) (by rfl) ?_
 refine gX 169 (o1 (.pe (eu (.agg [LS (cB aZ) g4,LS cJ l5])) 2)) (by rfl) (CV (i:=6) (cells:=[LS (cB aZ) g4,LS cJ l5]) (by rfl) (by rfl) (by rfl)) ?_
 obtain ⟨hp,h⟩:=h
 refine dg (K:=[]) (p:=some (9,bf 4 cJ (lJ (cj.mk g4 l5) ([x153]:List Int)))) hn (by rfl) (G8 (T:=aZ) (l:=([x153]:List Int)) 8 (by rfl) (EH fun _=>rfl) (iK 9 (Dz (cj.mk g4 l5) ([x153]:List Int) hp) My (caps:=[]) [] rfl rfl (by rfl) (by kernel_rfl) (by kernel_rfl) (by rfl) (by rfl))) (by rfl) (by rfl) (by rfl) ?_
 refine cN hn 1 ?_
 obtain ⟨e_12,he_12,h⟩:=h
 refine bT hn (iO (T:=cJ) rfl he_12) ?_
 refine bT hn (lO (T:=cJ) rfl (bs he_12).2.2) ?_
 refine bM hn ?_
 exact bZ e_12 h
 replace h:=h.2 hb
 refine cf 168 hb ?_
 refine bM hn ?_
 exact bZ false h
 replace h:=h.2 hb
 refine cf 159 hb ?_
 refine bM hn ?_
 exact bZ false h
 intro x176 h
 replace h:=hJ_3 _ h
 refine bv h (fun h=>?_) (fun h=>?_)
 exact cD hn (true,0) h
 exact bn (cn hn (wr (x153 + 1)) h)
 exact bD rfl (cD hn (false,0) h)
theorem en6 : ∀ args w,(callFunc 6 args).run Tryz.prog w=.ok (.enter 6 args) w:=enters_of Tryz.func6 (by kernel_rfl) rfl
def gB (l:bt):List Int:=l.aG ++ l.aD
def lm (l:bt) (i:Nat):Nat:=if i + 1=(gB l).length then l.aG.length else i + 1
def d8 (l:bt):Nat -> Nat
 | 0=>0
 | t + 1=>lm l (d8 l t)
def d3 (l:bt) (t:Nat):Int:=gx (gB l) (d8 l t)
inductive sn (a:bd) (w:Nat -> Int) (t:Nat) (q:Int):Nat -> Int -> Prop where
 | nil:sn a w t q t q
 | step {t':Nat} {q' q'':Int}:sn a w t q t' q' -> aY.mk q' (w t') q'' ∈ a.ar -> sn a w t q (t' + 1) q''
def FQ (a:bd) (l:bt):Prop:=∃ s ∈ a.af,∃ (t:Nat) (q:Int) (m:Nat),sn a (d3 l) 0 s t q /\ q ∈ a.av /\ 0 < m /\ sn a (d3 l) t q (t + m) q /\ d8 l (t + m)=d8 l t
def It (a:bd) (l:bt) (r:Bool × Int):Prop:=r.2=0 -> oK a /\ oJ a.ae l /\ (r.1=true ↔ FQ a l)
theorem yu {n:Int} {l:bt} (h:oJ n l) {i:Nat} (hi:i < (gB l).length):lm l i < (gB l).length:=by
 have h1:(gB l).length=l.aG.length + l.aD.length:=di
 have:=h.pos
 unfold lm
 split <;> omega
theorem nV {n:Int} {l:bt} (h:oJ n l):∀ t,d8 l t < (gB l).length
 | 0=>by
  have h1:(gB l).length=l.aG.length + l.aD.length:=di
  have:=h.pos
  show 0 < _
  omega
 | t + 1=>yu h (nV h t)
structure GI (a:bd) (l:bt) (N i k:Nat) (nx:List (List Int)):Prop where
 len:nx.length=N * (gB l).length
 mem:∀ (p:Nat) (q:Int),q ∈ gx nx p ↔ ∃ j x,((j < i /\ x ∈ a.ar) \/ (j=i /\ x ∈ a.ar.take k)) /\ x.az=gx (gB l) j /\ p=j * N + x.am.toNat /\ q=((lm l j * N:Nat):Int) + x.aA
 few:∀ p,(gx nx p).length <= i * 40000 + k
structure GG (a:bd) (l:bt) (N i k:Nat) (gd:List Bool):Prop where
 len:gd.length=N * (gB l).length
 mem:∀ p:Nat,gx gd p=true ↔ ∃ (j:Nat) (q:Int),((j < i /\ q ∈ a.av) \/ (j=i /\ q ∈ a.av.take k)) /\ p=j * N + q.toNat
theorem fh {X:Type} {l:List X} {k:Nat} (h:k < l.length) {x:X}:x ∈ l.take (k + 1) ↔ x ∈ l.take k \/ x=l[k]:=by
 rw [ia,cO h,gO]
 simp
theorem nW {N i j p q:Nat} (hp:p < N) (hq:q < N) (h:i * N + p=j * N + q):i=j /\ p=q:=by
 have e:i=j:=by
  rcases nP i j with c | c | c
  ·have:=dL N (show i + 1 <= j by omega)
   rw [fk] at this
   omega
  ·exact c
  ·have:=dL N (show j + 1 <= i by omega)
   rw [fk] at this
   omega
 subst e
 exact ⟨rfl,by omega⟩
theorem gT {N n i q:Nat} (hi:i < n) (hq:q < N):i * N + q < N * n:=by
 have:=dL N (show i + 1 <= n by omega)
 rw [fk,Nat.mul_comm n N] at this
 omega
section
variable {a:bd} {l:bt} {N:Nat} {nx:List (List Int)} {gd:List Bool}
theorem GI.edge (hN:(N:Int)=a.ac) (hA:oK a) (hL:oJ a.ae l) (h:GI a l N (gB l).length 0 nx) {p q:Int}:Ce (cj.mk nx gd) p q ↔ ∃ j x,j < (gB l).length /\ x ∈ a.ar /\ x.az=gx (gB l) j /\ p=((j * N:Nat):Int) + x.am /\ q=((lm l j * N:Nat):Int) + x.aA:=by
 constructor
 ·rintro ⟨row,h1,h2⟩
  obtain ⟨p0,p1,h3⟩:=bs h1
  have e:gx nx p.toNat=row:=by
   have hlt:=(cg.1 h3).1
   rw [eS hlt]
   exact (cg.1 h3).2
  rw [<- e] at h2
  obtain ⟨j,x,h4,h5,h6,h7⟩:=(h.mem _ _).1 h2
  rcases h4 with ⟨h4,hx⟩ | ⟨_,hx⟩
  ·have:=(hA.steps x hx).1
   exact ⟨j,x,h4,hx,h5,by omega,h7⟩
  ·simp at hx
 ·rintro ⟨j,x,h1,h2,h3,rfl,rfl⟩
  obtain ⟨⟨k1,k2⟩,_⟩:=hA.steps x h2
  have hlt:j * N + x.am.toNat < nx.length:=by rw [h.len]; exact gT h1 (by omega)
  refine ⟨gx nx (j * N + x.am.toNat),?_,(h.mem _ _).2 ⟨j,x, .inl ⟨h1,h2⟩,h3,rfl,rfl⟩⟩
  have:=bB (R:=nx) (i:=((j * N:Nat):Int) + x.am) (by omega) (by omega)
  rw [show (((j * N:Nat):Int) + x.am).toNat=j * N + x.am.toNat by omega] at this
  exact this
theorem Js (hN:(N:Int)=a.ac) (hA:oK a) (hL:oJ a.ae l) (h:GI a l N (gB l).length 0 nx) {t0:Nat} {ss:List Int} (hs:∀ s ∈ ss,0 <= s /\ s < a.ac) {p:Int}:rj (cj.mk nx gd) (ss.map fun s=>((d8 l t0 * N:Nat):Int) + s) p ↔ ∃ s ∈ ss,∃ m q,0 < m /\ sn a (d3 l) t0 s (t0 + m) q /\ p=((d8 l (t0 + m) * N:Nat):Int) + q:=by
 have sp:∀ (t:Nat) (q:Int) (j:Nat) (x:aY),0 <= q /\ q < a.ac -> x ∈ a.ar -> ((d8 l t * N:Nat):Int) + q=((j * N:Nat):Int) + x.am -> d8 l t=j /\ q=x.am:=fun t q j x hq hx e=>by
  have:=(hA.steps x hx).1
  obtain ⟨e1,e2⟩:=nW (N:=N) (i:=d8 l t) (j:=j) (p:=q.toNat) (q:=x.am.toNat) (by omega) (by omega) (by omega)
  exact ⟨e1,by omega⟩
 have rr:∀ {t0 t:Nat} {s q:Int},(0 <= s /\ s < a.ac) -> sn a (d3 l) t0 s t q -> 0 <= q /\ q < a.ac:=fun hs hr=>by
  cases hr with
  | nil=>exact hs
  | step _ hx=>exact (hA.steps _ hx).2.1
 constructor
 ·intro hr
  induction hr with
  | one hp he =>
   obtain ⟨s,h1,rfl⟩:=cP.1 hp
   obtain ⟨j,x,e1,e2,e3,e4,e5⟩:=(h.edge hN hA hL).1 he
   obtain ⟨f1,f2⟩:=sp t0 s j x (hs s h1) e2 e4
   refine ⟨s,h1,1,x.aA,Nat.one_pos, .step .nil ?_,?_⟩
   ·rw [f2]
    unfold d3
    rw [f1,<- e3]
    exact e2
   ·rw [e5,<- f1]
    rfl
  | step _ he ih =>
   obtain ⟨s,h1,m,q,hm,hrun,rfl⟩:=ih
   obtain ⟨j,x,e1,e2,e3,e4,e5⟩:=(h.edge hN hA hL).1 he
   obtain ⟨f1,f2⟩:=sp (t0 + m) q j x (rr (hs s h1) hrun) e2 e4
   refine ⟨s,h1,m + 1,x.aA,Nat.succ_pos m, .step hrun ?_,?_⟩
   ·show aY.mk q (gx (gB l) (d8 l (t0 + m))) x.aA ∈ a.ar
    rw [f2,f1,<- e3]
    exact e2
   ·rw [e5,<- f1]
    rfl
 ·rintro ⟨s,h1,m,q,hm,hrun,rfl⟩
  have key:∀ {t:Nat} {q:Int},sn a (d3 l) t0 s t q -> t=t0 /\ q=s \/ (t0 < t /\ rj (cj.mk nx gd) (ss.map fun s=>((d8 l t0 * N:Nat):Int) + s) (((d8 l t * N:Nat):Int) + q)):=fun hr=>by
   induction hr with
   | nil=>exact .inl ⟨rfl,rfl⟩
   | @step t' q' q'' _ hx ih =>
    have he:Ce (cj.mk nx gd) (((d8 l t' * N:Nat):Int) + q') (((d8 l (t' + 1) * N:Nat):Int) + q''):=(h.edge hN hA hL).2 ⟨d8 l t',_,nV hL t',hx,rfl,rfl,rfl⟩
    rcases ih with ⟨rfl,rfl⟩ | ⟨h2,h3⟩
    ·exact .inr ⟨by omega, .one (cP.2 ⟨_,h1,rfl⟩) he⟩
    ·exact .inr ⟨by omega, .step h3 he⟩
  rcases key hrun with ⟨h2,_⟩ | ⟨_,h3⟩
  ·omega
  ·exact h3
theorem Hq {n p:Nat}:gx (List.replicate n ([]:List Int)) p=[]:=by
 unfold gx
 rw [er,mh]
 split <;> rfl
theorem KL {n p:Nat}:gx (List.replicate n false) p=false:=by
 unfold gx
 rw [er,mh]
 split <;> rfl
theorem GI.start : GI a l N 0 0 (List.replicate (N * (gB l).length) []):=by
 refine ⟨jb,fun p q=>?_,fun p=>by rw [Hq]; exact cy _⟩
 rw [Hq]
 refine ⟨fun h=>(by cases h),fun ⟨j,x,h,_⟩=>?_⟩
 rcases h with ⟨h,_⟩ | ⟨_,h⟩
 ·omega
 ·simp at h
theorem GG.start : GG a l N 0 0 (List.replicate (N * (gB l).length) false):=by
 refine ⟨jb,fun p=>?_⟩
 rw [KL]
 refine ⟨fun h=>(by cases h),fun ⟨j,x,h,_⟩=>?_⟩
 rcases h with ⟨h,_⟩ | ⟨_,h⟩
 ·omega
 ·simp at h
theorem GI.next {i:Nat} (hf:a.ar.length <= 40000) (h:GI a l N i a.ar.length nx):GI a l N (i + 1) 0 nx:=by
 refine ⟨h.len,fun p q=>(h.mem p q).trans ?_,fun p=>by have:=h.few p; rw [fk]; omega⟩
 rw [kH]
 constructor
 ·rintro ⟨j,x,h1 | h1,h2⟩
  ·exact ⟨j,x, .inl ⟨by omega,h1.2⟩,h2⟩
  ·exact ⟨j,x, .inl ⟨by omega,h1.2⟩,h2⟩
 ·rintro ⟨j,x,h1 | h1,h2⟩
  ·rcases cU.1 h1.1 with c | c
   ·exact ⟨j,x, .inl ⟨c,h1.2⟩,h2⟩
   ·exact ⟨j,x, .inr ⟨c,h1.2⟩,h2⟩
  ·have:=h1.2
   simp at this
theorem GG.next {i:Nat} (h:GG a l N i a.av.length gd):GG a l N (i + 1) 0 gd:=by
 refine ⟨h.len,fun p=>(h.mem p).trans ?_⟩
 rw [kH]
 constructor
 ·rintro ⟨j,x,h1 | h1,h2⟩
  ·exact ⟨j,x, .inl ⟨by omega,h1.2⟩,h2⟩
  ·exact ⟨j,x, .inl ⟨by omega,h1.2⟩,h2⟩
 ·rintro ⟨j,x,h1 | h1,h2⟩
  ·rcases cU.1 h1.1 with c | c
   ·exact ⟨j,x, .inl ⟨c,h1.2⟩,h2⟩
   ·exact ⟨j,x, .inr ⟨c,h1.2⟩,h2⟩
  ·have:=h1.2
   simp at this
theorem GI.put {i k:Nat} (hk:k < a.ar.length) (h:GI a l N i k nx) (he:a.ar[k].az=gx (gB l) i) (hp:i * N + a.ar[k].am.toNat < nx.length):GI a l N i (k + 1) (nx.set (i * N + a.ar[k].am.toNat) (gx nx (i * N + a.ar[k].am.toNat) ++ [((lm l i * N:Nat):Int) + a.ar[k].aA])):=by
 refine ⟨by rw [cK]; exact h.len,fun p q=>?_,fun p=>?_⟩
 ·rw [fS hp]
  constructor
  ·intro hq
   split at hq
   ·rename_i c
    rcases gO.1 hq with hq | hq
    ·obtain ⟨j,x,h1,h2⟩:=(h.mem _ _).1 hq
     exact ⟨j,x,h1.imp id fun g=>⟨g.1,(fh hk).2 (.inl g.2)⟩,h2.1,by rw [c]; exact h2.2.1,h2.2.2⟩
    ·exact ⟨i,a.ar[k], .inr ⟨rfl,(fh hk).2 (.inr rfl)⟩,he,c,et.1 hq⟩
   ·obtain ⟨j,x,h1,h2⟩:=(h.mem _ _).1 hq
    exact ⟨j,x,h1.imp id fun g=>⟨g.1,(fh hk).2 (.inl g.2)⟩,h2⟩
  ·rintro ⟨j,x,h1,h2,h3,h4⟩
   have old:((j < i /\ x ∈ a.ar) \/ (j=i /\ x ∈ a.ar.take k)) -> q ∈ gx nx p:=fun g=>(h.mem p q).2 ⟨j,x,g,h2,h3,h4⟩
   have:=h1.imp id fun g=>(⟨g.1,(fh hk).1 g.2⟩:j=i /\ (x ∈ a.ar.take k \/ x=a.ar[k]))
   split
   ·rename_i c
    rcases this with g | ⟨g,g2 | g2⟩
    ·exact kp _ (by rw [<- c]; exact old (.inl g))
    ·exact kp _ (by rw [<- c]; exact old (.inr ⟨g,g2⟩))
    ·subst g
     subst g2
     exact List.mem_append_right _ (et.2 h4)
   ·rename_i c
    rcases this with g | ⟨g,g2 | g2⟩
    ·exact old (.inl g)
    ·exact old (.inr ⟨g,g2⟩)
    ·subst g
     subst g2
     exact absurd h3 c
 ·rw [fS hp]
  have h1:=h.few p
  have h2:=h.few (i * N + a.ar[k].am.toNat)
  split
  ·rw [di]
   simp only [dq,dI]
   omega
  ·omega
theorem GI.skip {i k:Nat} (hk:k < a.ar.length) (h:GI a l N i k nx) (he:a.ar[k].az ≠ gx (gB l) i):GI a l N i (k + 1) nx:=by
 refine ⟨h.len,fun p q=>(h.mem p q).trans ⟨?_,?_⟩,fun p=>by have:=h.few p; omega⟩
 ·rintro ⟨j,x,h1,h2⟩
  exact ⟨j,x,h1.imp id fun g=>⟨g.1,(fh hk).2 (.inl g.2)⟩,h2⟩
 ·rintro ⟨j,x,h1,h2⟩
  rcases h1 with g | ⟨g,g2⟩
  ·exact ⟨j,x, .inl g,h2⟩
  ·rcases (fh hk).1 g2 with g2 | rfl
   ·exact ⟨j,x, .inr ⟨g,g2⟩,h2⟩
   ·subst g
    exact absurd h2.1 he
theorem GG.put {i k:Nat} (hk:k < a.av.length) (h:GG a l N i k gd) (hp:i * N + a.av[k].toNat < gd.length):GG a l N i (k + 1) (gd.set (i * N + a.av[k].toNat) true):=by
 refine ⟨by rw [cK]; exact h.len,fun p=>?_⟩
 rw [fS hp]
 constructor
 ·intro hq
  split at hq
  ·rename_i c
   exact ⟨i,a.av[k], .inr ⟨rfl,(fh hk).2 (.inr rfl)⟩,c⟩
  ·obtain ⟨j,x,h1,h2⟩:=(h.mem _).1 hq
   exact ⟨j,x,h1.imp id fun g=>⟨g.1,(fh hk).2 (.inl g.2)⟩,h2⟩
 ·rintro ⟨j,x,h1,h2⟩
  split
  ·rfl
  ·rename_i c
   rcases h1 with g | ⟨g,g2⟩
   ·exact (h.mem p).2 ⟨j,x, .inl g,h2⟩
   ·rcases (fh hk).1 g2 with g2 | rfl
    ·exact (h.mem p).2 ⟨j,x, .inr ⟨g,g2⟩,h2⟩
    ·subst g
     exact absurd h2 c
end
theorem Ko (a:bd) (l:bt)  : Ct 6 [.sv (.agg [I a.ae,I a.ac,LS aZ a.af,LS aY.ty a.ar,LS aZ a.av]), .sv (.agg [LS aZ l.aG,LS aZ l.aD])] [] (It a l) (fun (r:(Bool × Int))=>.tup [.one (B r.1), .one (I r.2)]):=by
 refine FG a l (It a l) ?_
 unfold zr
 intro _ _ _ _ _
 refine ⟨fun h e=>absurd e (by simpa using h),fun h=>⟨fun h2 e=>absurd e (by simpa using h2),fun h2=>?_⟩⟩
 have hA:=(ii a).1 (by simpa using h)
 have hL:=Dg (by simpa using h2:nr a.ae l=0)
 clear h h2
 rw [show l.aG ++ l.aD=gB l from rfl]
 have hn:(gB l).length=l.aG.length + l.aD.length:=di
 have hst:=hA.states
 have hlh:=hL.hl
 have hll:=hL.ll
 have hlp:=hL.pos
 have hfw:=hA.few
 obtain ⟨N,hN⟩:∃ N:Nat,(N:Int)=a.ac:=⟨a.ac.toNat,by omega⟩
 obtain ⟨n,hnn⟩:∃ n,n=(gB l).length:=⟨_,rfl⟩
 have hNn:N * n <= 300 * 120:=Nat.mul_le_mul (by omega) (by omega)
 have wN:wr (a.ac * ((gB l).length:Int))=((N * n:Nat):Int):=by
  rw [<- hN,<- hnn,<- g9,bL (by omega) (by omega)]
 rw [wN,bE]
 have wP:∀ i q:Nat,i < n -> q < N -> wr (wr ((i:Int) * a.ac) + (q:Int))=((i * N + q:Nat):Int):=fun i q hi hq=>by
  have h1:=gT hi hq
  rw [<- hN,<- g9,bL (n:=((i * N:Nat):Int)) (by omega) (by omega),bL (by omega) (by omega)]
  omega
 refine ⟨by omega,eI (by omega),⟨by omega,by omega,by omega⟩,⟨by omega,by omega,by omega⟩,fun x nx gd=>∃ i:Nat,x=i /\ i <= n /\ GI a l N i 0 nx /\ GG a l N i 0 gd,fun x _ _=>n - x.toNat,⟨0,rfl,cy _,by rw [hnn]; exact GI.start,by rw [hnn]; exact GG.start⟩,?_⟩
 rintro x nx gd ⟨i,rfl,hi,hI,hG⟩
 have hil:=hI.len
 have hgl:=hG.len
 rw [<- hnn] at hil hgl
 refine ⟨fun hb=>?_,fun hb=>?_⟩
 ·have hlt:=dlt hb
  refine ⟨gx (gB l) i,by have:=bB (R:=gB l) (i:=(i:Int)) (by omega) (by omega); exact this,fun z=>z=((lm l i:Nat):Int),⟨fun c=>?_,fun c=>?_⟩,?_⟩
  ·rw [dj (by omega)] at c
   have c:((i + 1:Nat):Int)=((gB l).length:Int):=by simpa using c
   show _=_
   unfold lm
   rw [if_pos (by omega)]
  ·rw [dj (by omega)] at c ⊢
   have c:¬ ((i + 1:Nat):Int)=((gB l).length:Int):=by simpa using c
   show _=_
   unfold lm
   rw [if_neg (by omega)]
  rintro _ rfl
  have hnx:=yu hL hlt
  refine ⟨fun x m=>∃ k:Nat,x=k /\ k <= a.ar.length /\ GI a l N i k m,fun x _=>a.ar.length - x.toNat,⟨0,rfl,cy _,hI⟩,?_⟩
  rintro x m ⟨k,rfl,hk,hK⟩
  have hml:=hK.len
  rw [<- hnn] at hml
  refine ⟨fun hb2=>?_,fun hb2=>?_⟩
  ·have hlt2:=dlt hb2
   obtain ⟨⟨x1,x2⟩,⟨y1,y2⟩,_⟩:=hA.steps _ (dK hlt2)
   have hfr:(a.ar[k].am.toNat:Int)=a.ar[k].am:=dB x1
   have hto:(a.ar[k].aA.toNat:Int)=a.ar[k].aA:=dB y1
   have wp:=wP i a.ar[k].am.toNat (by omega) (by omega)
   have wv:=wP (lm l i) a.ar[k].aA.toNat (by omega) (by omega)
   rw [hfr] at wp
   rw [hto] at wv
   have hpl:i * N + a.ar[k].am.toNat < m.length:=by rw [hml]; exact gT (by omega) (by omega)
   have hfew:=hK.few (i * N + a.ar[k].am.toNat)
   have hi4:i * 40000 <= 120 * 40000:=dL _ (by omega)
   refine ⟨fun m'=>GI a l N i (k + 1) m',⟨_,eP hlt2,fun c=>?_,fun c=>hK.skip hlt2 (by simpa using c)⟩,fun m' hm'=>⟨⟨k + 1,dj (by omega),hlt2,hm'⟩,dQ hlt2 (by omega)⟩⟩
   have c:a.ar[k].az=gx (gB l) i:=by simpa using c
   rw [wp,wv]
   have hix:=bB (R:=m) (i:=((i * N + a.ar[k].am.toNat:Nat):Int)) (by omega) (by omega)
   refine ⟨_,hix,_,hix,eI ?_,_,hix,?_⟩
   ·rw [bE]
    simp only [dq,dI]
    omega
   ·rw [bE]
    have:=hK.put hlt2 c hpl
    rw [show ((lm l i * N + a.ar[k].aA.toNat:Nat):Int)=((lm l i * N:Nat):Int) + a.ar[k].aA by omega]
    exact this
  have hge2:=dge hb2
  have hkk:k=a.ar.length:=by omega
  rw [hkk] at hK
  have hK2:=hK.next hfw
  clear hK hkk hge2 hb2
  refine ⟨fun x g=>∃ k:Nat,x=k /\ k <= a.av.length /\ GG a l N i k g,fun x _=>a.av.length - x.toNat,⟨0,rfl,cy _,hG⟩,?_⟩
  rintro x g ⟨k,rfl,hk,hKg⟩
  have hgl2:=hKg.len
  rw [<- hnn] at hgl2
  have lfin:=iD hA.rf hA.final (by omega)
  refine ⟨fun hb2=>?_,fun hb2=>?_⟩
  ·have hlt2:=dlt hb2
   obtain ⟨x1,x2⟩:=hA.final _ (dK hlt2)
   have hfr:(a.av[k].toNat:Int)=a.av[k]:=dB x1
   have wp:=wP i a.av[k].toNat (by omega) (by omega)
   rw [hfr] at wp
   have hpl:i * N + a.av[k].toNat < g.length:=by rw [hgl2]; exact gT (by omega) (by omega)
   refine ⟨_,eP hlt2,?_⟩
   rw [wp,bE]
   exact ⟨_,bB (by omega) (by omega),⟨k + 1,dj (by omega),hlt2,hKg.put hlt2 hpl⟩,dQ hlt2 (by omega)⟩
  ·have hkk:k=a.av.length:=by have:=dge hb2; omega
   rw [hkk] at hKg
   exact ⟨⟨i + 1,dj (by omega),by omega,hK2,hKg.next⟩,dQ (by omega) (by omega)⟩
 have hge:=dge hb
 have hin:i=n:=by omega
 rw [hin,hnn] at hI hG
 clear hb hge
 have rows:∀ row ∈ nx,∃ p,p < nx.length /\ row=gx nx p:=fun row hr=>by
  obtain ⟨p,hp,e⟩:=List.getElem_of_mem hr
  exact ⟨p,hp,by rw [eS hp,e]⟩
 have pre:∀ from_:List Int,(∀ q ∈ from_,0 <= q /\ q < ((N * n:Nat):Int)) -> from_.length <= 300 -> zE (cj.mk nx gd) from_:=fun from_ hf hlen=>by
  refine ⟨by show nx.length <= _; rw [hil]; omega,fun row hr q hq=>?_,fun q hq=>by show 0 <= q /\ q < (nx.length:Int); rw [hil]; exact hf q hq,by omega,fun row hr=>?_⟩
  ·obtain ⟨p,hp,rfl⟩:=rows row hr
   obtain ⟨j,x,h1,_,_,rfl⟩:=(hI.mem p q).1 hq
   rcases h1 with ⟨h1,h2⟩ | ⟨_,h2⟩
   ·obtain ⟨_,⟨y1,y2⟩,_⟩:=hA.steps x h2
    have h5:=yu hL (i:=j) (by omega)
    have h6:=gT (N:=N) (n:=n) (i:=lm l j) (q:=x.aA.toNat) (by omega) (by omega)
    show 0 <= _ /\ _ < (nx.length:Int)
    rw [hil]
    omega
   ·simp at h2
  ·obtain ⟨p,hp,rfl⟩:=rows row hr
   have h1:=hI.few p
   have h2:(gB l).length * 40000 <= 120 * 40000:=dL _ (by omega)
   omega
 have lst:=iD hA.rs hA.start (by omega)
 have n0:0 < n:=by omega
 have gS:∀ q ∈ a.af,0 <= q /\ q < ((N * n:Nat):Int):=fun q hq=>by
  have:=hA.start q hq
  have:=gT (N:=N) (n:=n) (i:=0) (q:=q.toNat) n0 (by omega)
  omega
 have rl:∀ f,(lJ (cj.mk nx gd) f).length=N * n:=fun f=>by rw [Ae]; exact hil
 refine ⟨pre _ gS (by omega),fun x m=>∃ k:Nat,x=k /\ k <= a.af.length /\ m.length=N * n /\ ∀ p,gx m p=true ↔ gx (lJ (cj.mk nx gd) a.af) p=true \/ ∃ s ∈ a.af.take k,p=s.toNat,fun x _=>a.af.length - x.toNat,⟨0,rfl,cy _,rl _,fun p=>by simp⟩,?_⟩
 rintro x m ⟨k,rfl,hk,hml,hm⟩
 refine ⟨fun hb=>?_,fun hb=>?_⟩
 ·have hlt:=dlt hb
  have h1:=gS _ (dK hlt)
  refine ⟨_,eP hlt,_,bB (R:=m) h1.1 (by omega),⟨k + 1,dj (by omega),hlt,by rw [cK]; exact hml,fun p=>?_⟩,dQ hlt (by omega)⟩
  rw [fS (by omega)]
  constructor
  ·intro hq
   split at hq
   ·rename_i c
    exact .inr ⟨_,(fh hlt).2 (.inr rfl),c⟩
   ·exact ((hm p).1 hq).imp id fun ⟨s,s1,s2⟩=>⟨s,(fh hlt).2 (.inl s1),s2⟩
  ·intro hq
   split
   ·rfl
   ·rename_i c
    refine (hm p).2 (hq.imp id ?_)
    rintro ⟨s,s1,s2⟩
    rcases (fh hlt).1 s1 with s1 | rfl
    ·exact ⟨s,s1,s2⟩
    ·exact absurd s2 c
 have hkk:k=a.af.length:=by have:=dge hb; omega
 rw [hkk,kH] at hm
 clear hb
 have hrun:∀ {t0:Nat} {ss:List Int} (_:∀ s ∈ ss,0 <= s /\ s < a.ac) {p:Int},rj (cj.mk nx gd) (ss.map fun s=>((d8 l t0 * N:Nat):Int) + s) p ↔ ∃ s ∈ ss,∃ m q,0 < m /\ sn a (d3 l) t0 s (t0 + m) q /\ p=((d8 l (t0 + m) * N:Nat):Int) + q:=fun hs=>Js hN hA hL hI hs
 have e0:(a.af.map fun s=>((d8 l 0 * N:Nat):Int) + s)=a.af:=by
  have:(fun s:Int=>((d8 l 0 * N:Nat):Int) + s)=id:=by
   funext s
   show ((0 * N:Nat):Int) + s=s
   omega
  rw [this,List.map_id]
 have rch:∀ (f:List Int) (p:Nat),p < N * n -> (gx (lJ (cj.mk nx gd) f) p=true ↔ rj (cj.mk nx gd) f (p:Int)):=fun f p hp=>⟨fun h=>jq fun c=>(by rw [ui (by show p < nx.length; omega) c] at h; cases h),fun h=>wu (by show p < nx.length; omega) h⟩
 have seen:∀ p,p < N * n -> (gx m p=true ↔ ∃ s ∈ a.af,∃ t q,sn a (d3 l) 0 s t q /\ (p:Int)=((d8 l t * N:Nat):Int) + q):=fun p hp=>by
  rw [hm p,rch _ _ hp]
  constructor
  ·rintro (h | ⟨s,h1,h2⟩)
   ·have h:=(hrun (t0:=0) hA.start).1 (by rw [e0]; exact h)
    obtain ⟨s,h1,t,q,_,h3,h4⟩:=h
    rw [gt] at h3 h4
    exact ⟨s,h1,t,q,h3,h4⟩
   ·refine ⟨s,h1,0,s, .nil,?_⟩
    have:=gS s h1
    show (p:Int)=((0 * N:Nat):Int) + s
    omega
  ·rintro ⟨s,h1,t,q,h2,h3⟩
   cases t with
   | zero =>
    cases h2
    refine .inr ⟨_,h1,?_⟩
    have h3:(p:Int)=((0 * N:Nat):Int) + s:=h3
    omega
   | succ t =>
    have:=(hrun (t0:=0) hA.start (p:=(p:Int))).2 ⟨s,h1,t + 1,q,Nat.succ_pos _,by rw [gt]; exact h2,by rw [gt]; exact h3⟩
    rw [e0] at this
    exact .inl this
 have rr:∀ {t0 t:Nat} {s q:Int},(0 <= s /\ s < a.ac) -> sn a (d3 l) t0 s t q -> 0 <= q /\ q < a.ac:=fun hs hr=>by
  cases hr with
  | nil=>exact hs
  | step _ hx=>exact (hA.steps _ hx).2.1
 have gdp:∀ (t:Nat) (q:Int),0 <= q /\ q < a.ac -> (gx gd (d8 l t * N + q.toNat)=true ↔ q ∈ a.av):=fun t q hq=>by
  rw [hG.mem]
  constructor
  ·rintro ⟨j,q2,h1,h2⟩
   rcases h1 with ⟨_,h1⟩ | ⟨_,h1⟩
   ·have:=hA.final q2 h1
    have:=(nW (by omega) (by omega) h2).2
    rw [show q=q2 by omega]
    exact h1
   ·simp at h1
  ·exact fun h=>⟨d8 l t,q, .inl ⟨nV hL t,h⟩,rfl⟩
 have loop:∀ p,p < N * n -> gx m p=true -> gx gd p=true -> gx (lJ (cj.mk nx gd) [(p:Int)]) p=true -> FQ a l:=fun p hp h1 h2 h3=>by
  obtain ⟨s,k1,t,q,k2,k3⟩:=(seen p hp).1 h1
  have hq:=rr (hA.start s k1) k2
  have ep:p=d8 l t * N + q.toNat:=by omega
  rw [ep] at h2
  have hf:=(gdp t q hq).1 h2
  have h4:=(rch _ _ hp).1 h3
  rw [show [(p:Int)]=[q].map (fun s=>((d8 l t * N:Nat):Int) + s) by rw [k3]; rfl] at h4
  obtain ⟨s',k4,m',q',k5,k6,k7⟩:=(hrun (t0:=t) (fun s hs=>by rw [et.1 hs]; exact hq)).1 h4
  rw [et.1 k4] at k6
  have hq':=rr hq k6
  obtain ⟨e1,e2⟩:=nW (N:=N) (i:=d8 l (t + m')) (j:=d8 l t) (p:=q'.toNat) (q:=q.toNat) (by omega) (by omega) (by omega)
  rw [show q'=q by omega] at k6
  exact ⟨s,k1,t,q,m',k2,hf,k5,k6,e1⟩
 have back:FQ a l -> ∃ p,p < N * n /\ gx m p=true /\ gx gd p=true /\ gx (lJ (cj.mk nx gd) [(p:Int)]) p=true:=by
  rintro ⟨s,k1,t,q,m',k2,hf,k5,k6,e1⟩
  have hq:=rr (hA.start s k1) k2
  have hp:=gT (N:=N) (n:=n) (i:=d8 l t) (q:=q.toNat) (by rw [hnn]; exact nV hL t) (by omega)
  have hpi:((d8 l t * N + q.toNat:Nat):Int)=((d8 l t * N:Nat):Int) + q:=by omega
  refine ⟨d8 l t * N + q.toNat,hp,(seen _ hp).2 ⟨s,k1,t,q,k2,hpi⟩,(gdp t q hq).2 hf,(rch _ _ hp).2 ?_⟩
  have:=(hrun (t0:=t) (ss:=[q]) (fun s hs=>by rw [et.1 hs]; exact hq) (p:=((d8 l t * N + q.toNat:Nat):Int))).2 ⟨q,et.2 rfl,m',q,k5,k6,by rw [e1]; exact hpi⟩
  rw [show [((d8 l t * N + q.toNat:Nat):Int)]=[q].map (fun s=>((d8 l t * N:Nat):Int) + s) by rw [hpi]; rfl]
  exact this
 have hgl':gd.length=N * n:=hgl
 refine ⟨fun x=>∃ k:Nat,x=k /\ k <= m.length /\ ∀ p,p < k -> ¬ (gx m p=true /\ gx gd p=true /\ gx (lJ (cj.mk nx gd) [(p:Int)]) p=true),fun x=>m.length - x.toNat,⟨0,rfl,cy _,fun p hp=>absurd hp (e9 _)⟩,?_⟩
 rintro x ⟨k2,rfl,hk2,hno⟩
 refine ⟨fun hb=>?_,fun hb=>?_⟩
 ·have hlt:=dlt hb
  refine ⟨_,bB (R:=m) (by omega) (by omega),fun b=>b=true ↔ (gx m k2=true /\ gx gd k2=true /\ gx (lJ (cj.mk nx gd) [(k2:Int)]) k2=true),⟨fun c=>?_,fun c=>?_⟩,fun b hb2=>⟨fun c=>fun _=>⟨hA,hL,?_⟩,fun c=>⟨⟨k2 + 1,dj (by omega),by omega,fun p hp=>?_⟩,?_⟩⟩⟩
  ·rw [bE] at c
   refine ⟨_,bB (R:=gd) (by omega) (by omega),fun c2=>⟨pre _ (fun q hq=>by rw [et.1 hq]; omega) (by simp),_,bB (by omega) (by rw [rl]; omega),?_⟩,fun c2=>?_⟩
   ·rw [bE] at c2 ⊢
    exact ⟨fun h=>⟨c,c2,h⟩,fun h=>h.2.2⟩
   ·rw [bE] at c2
    exact ⟨fun h=>(by cases h),fun h=>(by rw [c2] at h; exact absurd h.2.1 (by simp))⟩
  ·rw [bE] at c
   exact ⟨fun h=>(by cases h),fun h=>(by rw [c] at h; exact absurd h.1 (by simp))⟩
  ·have h:=hb2.1 c
   exact ⟨fun _=>loop k2 (by omega) h.1 h.2.1 h.2.2,fun _=>rfl⟩
  ·rcases cU.1 hp with h | rfl
   ·exact hno p h
   ·exact fun h=>by rw [hb2.2 h] at c; cases c
  ·exact dQ hlt (by omega)
 ·have:=dge hb
  intro _
  refine ⟨hA,hL,⟨fun h=>(by cases h),fun h=>?_⟩⟩
  obtain ⟨p,hp,h⟩:=back h
  exact absurd h (hno p (by omega))
theorem CU {q:Int} (hq:0 <= q /\ q < 4):lb (wr (1 * 2 ^ (min q.toNat 64))) /\ ∀ r,0 <= r -> (cM (wr (1 * 2 ^ (min q.toNat 64))) r=true ↔ r=q):=by
 rw [NW (p:=q.toNat) (by omega)]
 have:(2:Nat) ^ q.toNat < 2 ^ 4:=Nat.pow_lt_pow_right (by decide) (by omega)
 refine ⟨⟨Int.natCast_nonneg _,by exact_mod_cast this⟩,fun r hr=>?_⟩
 unfold cM
 rw [bE,Nat.testBit_two_pow,fu]
 omega
theorem xh : ∀ (l:List Int) (n:Int),lb n -> (∀ q ∈ l,0 <= q /\ q < 4) -> lb (l.foldl (fun n q=>bR .or .i64 n (wr (1 * (2 ^ (min q.toNat 64))))) n) /\ ∀ r,0 <= r -> (cM (l.foldl (fun n q=>bR .or .i64 n (wr (1 * (2 ^ (min q.toNat 64))))) n) r=true ↔ cM n r=true \/ r ∈ l)
 | [],n,hn,_=>⟨hn,fun r _=>by simp⟩
 | q :: l,n,hn,h=>by
  obtain ⟨p1,p2⟩:=CU (h q fD)
  obtain ⟨o1,o2⟩:=AD hn p1
  obtain ⟨i1,i2⟩:=xh l _ o1 fun x hx=>h x (d7 _ hx)
  refine ⟨i1,fun r hr=>(i2 r hr).trans ?_⟩
  rw [o2,fc,p2 r hr,eh,or_assoc]
theorem n9 {l:List Int} (h:∀ q ∈ l,0 <= q /\ q < 4):lb (jE l) /\ ∀ r,0 <= r -> (cM (jE l) r=true ↔ r ∈ l):=by
 obtain ⟨a,b⟩:=xh l 0 ⟨by decide,by decide⟩ h
 refine ⟨a,fun r hr=>(b r hr).trans ?_⟩
 rw [gI]
 simp
theorem L8 (x:du) (k v:Int):∀ j:Nat,j < 16 -> cW (du.l (du.put x k v)) (j:Int)=if k=(j:Int) then v else cW (du.l x) (j:Int)
 | 0,_=>rfl
 | 1,_=>rfl
 | 2,_=>rfl
 | 3,_=>rfl
 | 4,_=>rfl
 | 5,_=>rfl
 | 6,_=>rfl
 | 7,_=>rfl
 | 8,_=>rfl
 | 9,_=>rfl
 | 10,_=>rfl
 | 11,_=>rfl
 | 12,_=>rfl
 | 13,_=>rfl
 | 14,_=>rfl
 | 15,_=>rfl
 | j + 16,h=>by omega
def sN (b:bK) (x:aY):bK:=bK.mk (du.put b.aa ((x.am * 4) + x.az) (bR .or .i64 (cW (du.l b.aa) ((x.am * 4) + x.az)) (wr (1 * (2 ^ (min (x.aA).toNat 64)))))) b.av
def B3 (a:bd):bK:=bK.mk (du.mk (cA.mk 0 0 0 0) (cA.mk 0 0 0 0) (cA.mk 0 0 0 0) (cA.mk 0 0 0 0)) (jE a.av)
def lW (a:bd):bK:=a.ar.foldl sN (B3 a)
def nB (a:bd):bc:=if jE a.af ≠ 0 then bc.mk (bO.mk 1 (cA.mk (jE a.af) 0 0 0) (cA.mk (-1) 0 0 0)) 9 else bc.mk (bO.mk 0 (cA.mk 0 0 0 0) (cA.mk 0 0 0 0)) 9
theorem zi (b:bK) (q:Int) {x:Int} (hx:0 <= x /\ x < 4):s8 b q x=cW (du.l b.aa) (q * 4 + x):=by
 have:x=0 \/ x=1 \/ x=2 \/ x=3:=by omega
 rcases this with rfl | rfl | rfl | rfl <;> rfl
structure gr (a:bd):Prop where
 ok:oK a
 four:a.ac <= 4
theorem gr.q4 {a:bd} (h:gr a) {x:aY} (hx:x ∈ a.ar):(0 <= x.am /\ x.am < 4) /\ (0 <= x.aA /\ x.aA < 4) /\ 0 <= x.az /\ x.az < 4:=by
 have h1:=h.ok.steps x hx
 have h2:=h.four
 have h3:=h.ok.letters
 omega
theorem xg {b:bK} (x:aY) (h:(0 <= x.am /\ x.am < 4) /\ (0 <= x.aA /\ x.aA < 4) /\ 0 <= x.az /\ x.az < 4) {q a:Int} (hq:0 <= q /\ q < 4) (ha:0 <= a /\ a < 4):s8 (sN b x) q a=if x.am=q /\ x.az=a then bR .or .i64 (s8 b q a) (wr (1 * (2 ^ (min (x.aA).toNat 64)))) else s8 b q a:=by
 rw [zi _ _ ha,zi _ _ ha]
 have:=L8 b.aa ((x.am * 4) + x.az) (bR .or .i64 (cW (du.l b.aa) ((x.am * 4) + x.az)) (wr (1 * (2 ^ (min (x.aA).toNat 64))))) (q * 4 + a).toNat (by omega)
 rw [dB (by omega)] at this
 refine this.trans ?_
 by_cases c:x.am=q /\ x.az=a
 ·rw [if_pos c,if_pos (by rw [c.1,c.2]),c.1,c.2]
 ·rw [if_neg c,if_neg (fun e=>c ⟨by omega,by omega⟩)]
theorem A3 : ∀ (l:List aY) (b:bK),BOk b -> (∀ x ∈ l,(0 <= x.am /\ x.am < 4) /\ (0 <= x.aA /\ x.aA < 4) /\ 0 <= x.az /\ x.az < 4) -> BOk (l.foldl sN b) /\ (l.foldl sN b).av=b.av /\ ∀ q a r,0 <= q /\ q < 4 -> 0 <= a /\ a < 4 -> 0 <= r -> (cM (s8 (l.foldl sN b) q a) r=true ↔ cM (s8 b q a) r=true \/ aY.mk q a r ∈ l)
 | [],b,hb,_=>⟨hb,rfl,fun q a r _ _ _=>by simp⟩
 | x :: l,b,hb,h=>by
  have hx:=h x fD
  obtain ⟨p1,p2⟩:=CU hx.2.1
  have hb1:BOk (sN b x):=by
   refine ⟨hb.fin,fun q a hq ha=>?_⟩
   rw [xg x hx hq ha]
   split
   ·exact (AD (hb.rows q a hq ha) p1).1
   ·exact hb.rows q a hq ha
  obtain ⟨i1,i2,i3⟩:=A3 l _ hb1 fun y hy=>h y (d7 _ hy)
  refine ⟨i1,i2,fun q a r hq ha hr=>(i3 q a r hq ha hr).trans ?_⟩
  rw [xg x hx hq ha,eh]
  obtain ⟨f,c,t⟩:=x
  split
  ·rename_i d
   rw [(AD (hb.rows q a hq ha) p1).2,fc,p2 r hr,or_assoc]
   have d1:f=q:=d.1
   have d2:c=a:=d.2
   subst d1 d2
   have:(aY.mk f c r=aY.mk f c t)=(r=t):=by simp
   rw [this]
  ·rename_i d
   have:¬ aY.mk q a r=aY.mk f c t:=fun e=>by
    cases e
    exact d ⟨rfl,rfl⟩
   simp [this]
theorem L1 (a:bd) {q x:Int} (hq:0 <= q /\ q < 4) (hx:0 <= x /\ x < 4):s8 (B3 a) q x=0:=by
 rw [zi _ _ hx]
 have h1:q=0 \/ q=1 \/ q=2 \/ q=3:=by omega
 have h2:x=0 \/ x=1 \/ x=2 \/ x=3:=by omega
 rcases h1 with e1 | e1 | e1 | e1 <;> rcases h2 with e2 | e2 | e2 | e2 <;> rw [e1,e2] <;> rfl
theorem Kh {a:bd} (h:gr a):BOk (B3 a):=by
 refine ⟨(n9 fun q hq=>?_).1,fun q x hq hx=>?_⟩
 ·have:=h.ok.final q hq
  have:=h.four
  omega
 ·rw [L1 a hq hx]
  exact ⟨by decide,by decide⟩
theorem j6 {a:bd} (h:gr a):BOk (lW a) /\ (∀ q,AN (lW a) q ↔ q ∈ a.av) /\ ∀ x p q,0 <= x /\ x < 4 -> (rz (lW a) x p q ↔ aY.mk p x q ∈ a.ar):=by
 obtain ⟨h1,h2,h3⟩:=A3 a.ar (B3 a) (Kh h) fun x hx=>h.q4 hx
 have fin4:∀ q ∈ a.av,0 <= q /\ q < 4:=fun q hq=>by
  have:=h.ok.final q hq
  have:=h.four
  omega
 refine ⟨h1,fun q=>?_,fun x p q hx=>?_⟩
 ·unfold AN lW
  rw [h2]
  exact ⟨fun ⟨q0,hq⟩=>((n9 fin4).2 q q0).1 hq,fun hq=>⟨(fin4 q hq).1,((n9 fin4).2 q (fin4 q hq).1).2 hq⟩⟩
 ·unfold rz lW
  have z:∀ p q:Int,0 <= p /\ p < 4 -> cM (s8 (B3 a) p x) q=false:=fun p q hp=>by
   rw [L1 a hp hx,gI]
  constructor
  ·rintro ⟨hp,hq,hh⟩
   rcases (h3 p x q hp hx hq).1 hh with c | c
   ·rw [z p q hp] at c
    cases c
   ·exact c
  ·intro hm
   have h4:=h.q4 hm
   have hp:0 <= p /\ p < 4:=h4.1
   have hq:0 <= q:=h4.2.1.1
   exact ⟨hp,hq,(h3 p x q hp hx hq).2 (.inr hm)⟩
theorem Dm (x y:Int):TOk ⟨0,⟨0,0,0,0⟩,⟨0,0,0,0⟩⟩:=by
 have n0:nT ⟨0,⟨0,0,0,0⟩,⟨0,0,0,0⟩⟩=0:=rfl
 refine ⟨⟨by show (0:Int) <= 0; decide,by show (0:Int) <= 4; decide⟩,fun k hk=>absurd hk (by rw [n0]; omega),fun hk=>absurd hk (by rw [n0]; omega),fun k hk=>absurd hk (by rw [n0]; omega),fun k q hk=>absurd hk (by rw [n0]; omega),fun j k q _ hk=>absurd hk (by rw [n0]; omega),fun i hk=>absurd hk (by rw [n0]; omega),fun k _ hk=>?_⟩
 match k,hk with
 | 0,_=>exact ⟨rfl,rfl⟩
 | 1,_=>exact ⟨rfl,rfl⟩
 | 2,_=>exact ⟨rfl,rfl⟩
 | 3,_=>exact ⟨rfl,rfl⟩
 | k + 4,h=>omega
theorem Lu {s:Int} (hs:lb s) (h0:s ≠ 0):TOk ⟨1,⟨s,0,0,0⟩,⟨-1,0,0,0⟩⟩:=by
 have n1:nT ⟨1,⟨s,0,0,0⟩,⟨-1,0,0,0⟩⟩=1:=rfl
 obtain ⟨q,q0,q1⟩:=yB hs h0
 refine ⟨⟨by show (0:Int) <= 1; decide,by show (1:Int) <= 4; decide⟩,fun k hk=>?_,fun _=>rfl,fun k hk hp=>absurd hk (by rw [n1]; omega),fun k q hk hp=>absurd hk (by rw [n1]; omega),fun j k q hj hk=>absurd hk (by rw [n1]; omega),fun i hk=>?_,fun k hk hk4=>?_⟩
 ·rw [n1] at hk
  rw [show k=0 by omega]
  exact hs
 ·rw [n1] at hk
  rw [show i=0 by omega]
  refine ⟨q,q0,q1,fun k hk e=>?_⟩
  rw [n1] at hk
  rw [show k=0 by omega] at e
  exact absurd (show (-1:Int)=0 from e) (by decide)
 ·rw [n1] at hk
  match k,hk4 with
  | 0,_=>omega
  | 1,_=>exact ⟨rfl,rfl⟩
  | 2,_=>exact ⟨rfl,rfl⟩
  | 3,_=>exact ⟨rfl,rfl⟩
  | k + 4,h=>omega
theorem n7 {a:bd} (h:gr a):POk (nB a) /\ (∀ q,(trT (nB a).ai).lab 0 q ↔ q ∈ a.af) /\ ((trT (nB a).ai).n=0 \/ (trT (nB a).ai).n=1) /\ (a.af ≠ [] -> 0 < (trT (nB a).ai).n):=by
 have s4:∀ q ∈ a.af,0 <= q /\ q < 4:=fun q hq=>by
  have:=h.ok.start q hq
  have:=h.four
  omega
 obtain ⟨b1,b2⟩:=n9 s4
 have lab:∀ q,(0 <= q /\ cM (jE a.af) q=true) ↔ q ∈ a.af:=fun q=>⟨fun ⟨q0,hq⟩=>(b2 q q0).1 hq,fun hq=>⟨(s4 q hq).1,(b2 q (s4 q hq).1).2 hq⟩⟩
 unfold nB
 split
 ·rename_i c
  exact ⟨⟨Lu b1 c,show (1:Int) <= 9 by decide,show (9:Int) <= 9 by decide⟩,lab, .inr rfl,fun _=>Nat.one_pos⟩
 ·rename_i c
  have c:jE a.af=0:=jp.1 c
  refine ⟨⟨Dm 0 0,by decide,by decide⟩,fun q=>?_, .inl rfl,fun hne=>?_⟩
  ·rw [<- lab q,c]
   rfl
  ·obtain ⟨q,hq⟩:=List.exists_mem_of_ne_nil _ hne
   have:=((lab q).2 hq).2
   rw [c,gI] at this
   cases this
def HM : bc:=bc.mk (bO.mk 0 (cA.mk 0 0 0 0) (cA.mk 0 0 0 0)) 1
def gq (b:bK) (p:bc) (a:Int):bc:=if p.ai.aC=0 then HM else kJ b p.ai a
def Dl (b:bK) (p:bc) (a:Int):Prop:=BOk b /\ TOk p.ai /\ 0 <= a /\ a < 4
theorem p7 {b:bK} (hb:BOk b) {p:bc} (hp:POk p) {x:Int} (hx:0 <= x /\ x < 4):POk (gq b p x) /\ sQ (rz b x) (AN b) (trT p.ai) (trT (gq b p x).ai) (gq b p x).ay:=by
 unfold gq
 split
 ·rename_i c
  refine ⟨⟨Dm 0 0,by decide,by decide⟩,?_⟩
  have n0:(trT p.ai).n=0:=by
   show nT p.ai=0
   unfold nT
   omega
  have n0':(trT HM.ai).n=0:=rfl
  have m1:HM.ay=1:=rfl
  exact ⟨fun k q hk=>absurd hk (by rw [n0']; omega),fun k hk=>absurd hk (by rw [n0']; omega),fun i _ hk=>absurd hk (by rw [n0]; omega),fun i hm=>by rw [m1] at hm; omega,fun _ _ hk=>absurd hk (by rw [n0]; omega),fun i k _ _ _ hk=>absurd hk (by rw [n0]; omega),fun i _ _ _ hk=>absurd hk (by rw [n0]; omega)⟩
 ·have hm:=Hd hb hp.1 hx
  exact ⟨⟨hm.tok,hm.mark_r⟩,hm.sstep⟩
def kQ (a:bd):kF:=iL (fun k (x:Nat)=>gq (lW a) k (x:Int)) (fun p=>p.ay) (nB a)
def ef (a:bd):bz:=eX a.ae.toNat (kQ a)
theorem wD {a:bd} (h:gr a) {m:List bc} (hm:∀ p,p ∈ m ↔ POk p):nB a ∈ m /\ ∀ k (x:Nat),k ∈ m -> x < a.ae.toNat -> gq (lW a) k (x:Int) ∈ m:=by
 refine ⟨(hm _).2 (n7 h).1,fun k x hk hx=>(hm _).2 (p7 (j6 h).1 ((hm _).1 hk) ?_).1⟩
 have:=h.ok.letters
 omega
theorem pj {a:bd} (h:gr a):rm a.ae.toNat (kQ a) 18432:=by
 obtain ⟨m,m1,m2⟩:=GU
 obtain ⟨g1,g2⟩:=wD h m1
 exact (za g1 g2).mono m2
theorem GB {a:bd} (h:gr a):∀ (w:List Nat),(∀ x ∈ w,x < a.ae.toNat) -> ∀ p,POk p -> POk (w.foldl (fun k (x:Nat)=>gq (lW a) k (x:Int)) p)
 | [],_,p,hp=>hp
 | x :: w,hw,p,hp=>GB h w (fun y hy=>hw y (d7 _ hy)) _ (p7 (j6 h).1 hp (by
  have:=hw x fD
  have:=h.ok.letters
  omega)).1
theorem ph {a:bd} (h:gr a):∀ x ∈ (ef a).ay,1 <= x /\ x <= 9:=fun x hx=>by
 have e:ef a=eX a.ae.toNat (fun w=>if ∀ y ∈ w,y < a.ae.toNat then kQ a w else 9):=nL fun w hw=>by rw [if_pos hw]
 rw [e] at hx
 obtain ⟨u,rfl⟩:=vg x hx
 split
 ·rename_i c
  exact (GB h u c _ (n7 h).1).2
 ·decide
def Bj (p:bc) (a:Int) (b:bK) (Q:bc -> Prop):Prop:=
 cv (p.ai.aC == 0) (Q (bc.mk (bO.mk 0 (cA.mk 0 0 0 0) (cA.mk 0 0 0 0)) 1)) ((BOk b /\ TOk p.ai /\ 0 <= a /\ a < 4) /\
 Q (kJ b p.ai a))
theorem Gd (p:bc) (a:Int) (b:bK) (Q:bc -> Prop) (h:Bj p a b Q):Ct 34 [.sv (.agg [I p.ai.aC,I p.ai.ap.aj,I p.ai.ap.aq,I p.ai.ap.aw,I p.ai.ap.ax,I p.ai.ak.aj,I p.ai.ak.aq,I p.ai.ak.aw,I p.ai.ak.ax,I p.ay]), .sv (.one (I a)), .sv (.one (.ptr 0 0))] [.box [.pe (eu (.agg [I b.aa.aj.aj,I b.aa.aj.aq,I b.aa.aj.aw,I b.aa.aj.ax,I b.aa.aq.aj,I b.aa.aq.aq,I b.aa.aq.aw,I b.aa.aq.ax,I b.aa.aw.aj,I b.aa.aw.aq,I b.aa.aw.aw,I b.aa.aw.ax,I b.aa.ax.aj,I b.aa.ax.aq,I b.aa.ax.aw,I b.aa.ax.ax,I b.av])) 17] 72 true] Q (fun (r:bc)=>.sv (.agg [I r.ai.aC,I r.ai.ap.aj,I r.ai.ap.aq,I r.ai.ap.aw,I r.ai.ap.ax,I r.ai.ak.aj,I r.ai.ak.aq,I r.ai.ak.aw,I r.ai.ak.ax,I r.ay])):=by
 have ht:=bA
 refine Ct.body Tryz.func34 rfl rfl rfl rfl (fun c hn=>?_)
 unfold Bj at h
 refine bk hn ?_
 refine bi (bk hn ?_)
 refine bv h (fun h=>?_) (fun h=>?_)
 exact cD hn (bc.mk (bO.mk 0 (cA.mk 0 0 0 0) (cA.mk 0 0 0 0)) 1) h
 refine bn (bp (cN hn 4 ?_))
 obtain ⟨hp,h⟩:=h
 refine fK hn (cL (Iw b p.ai a hp) NI rfl) ?_
 refine bM hn ?_
 exact fL ht (kJ b p.ai a) h
theorem NJ : ∀ args w,(callFunc 34 args).run Tryz.prog w=.ok (.enter 34 args) w:=enters_of Tryz.func34 (by kernel_rfl) rfl
def Gc (p:bc) (Q:Int -> Prop):Prop:=
 Q p.ay
theorem Gb (p:bc) (Q:Int -> Prop) (h:Gc p Q):Ct 36 [.sv (.agg [I p.ai.aC,I p.ai.ap.aj,I p.ai.ap.aq,I p.ai.ap.aw,I p.ai.ap.ax,I p.ai.ak.aj,I p.ai.ak.aq,I p.ai.ak.aw,I p.ai.ak.ax,I p.ay])] [] Q (fun (r:Int)=>.sv (.one (I r))):=by
 have ht:=bA
 refine Ct.body Tryz.func36 rfl rfl rfl rfl (fun c hn=>?_)
 unfold Gc at h
 refine bk hn ?_
 exact cD hn p.ay h
theorem NH : ∀ args w,(callFunc 36 args).run Tryz.prog w=.ok (.enter 36 args) w:=enters_of Tryz.func36 (by kernel_rfl) rfl
theorem K5 (p:bc) (a:Int) (b:bK) (hd:Dl b p a):Ct 34 [.sv (.agg [I p.ai.aC,I p.ai.ap.aj,I p.ai.ap.aq,I p.ai.ap.aw,I p.ai.ap.ax,I p.ai.ak.aj,I p.ai.ak.aq,I p.ai.ak.aw,I p.ai.ak.ax,I p.ay]), .sv (.one (I a)), .sv (.one (.ptr 0 0))] [.box [.pe (eu (.agg [I b.aa.aj.aj,I b.aa.aj.aq,I b.aa.aj.aw,I b.aa.aj.ax,I b.aa.aq.aj,I b.aa.aq.aq,I b.aa.aq.aw,I b.aa.aq.ax,I b.aa.aw.aj,I b.aa.aw.aq,I b.aa.aw.aw,I b.aa.aw.ax,I b.aa.ax.aj,I b.aa.ax.aq,I b.aa.ax.aw,I b.aa.ax.ax,I b.av])) 17] 72 true] (fun (_:Unit)=>True) (fun _=>.sv (.agg [I (gq b p a).ai.aC,I (gq b p a).ai.ap.aj,I (gq b p a).ai.ap.aq,I (gq b p a).ai.ap.aw,I (gq b p a).ai.ap.ax,I (gq b p a).ai.ak.aj,I (gq b p a).ai.ak.aq,I (gq b p a).ai.ak.aw,I (gq b p a).ai.ak.ax,I (gq b p a).ay])):=by
 refine (Gd p a b (fun res_=>res_=(gq b p a)) ?_).fun
 unfold Bj gq
 refine ⟨fun h=>?_,fun h=>⟨hd,?_⟩⟩
 ·rw [if_pos (by simpa using h)]
  rfl
 ·rw [if_neg (by simpa using h)]
theorem K4 (p:bc)  : Ct 36 [.sv (.agg [I p.ai.aC,I p.ai.ap.aj,I p.ai.ap.aq,I p.ai.ap.aw,I p.ai.ap.ax,I p.ai.ak.aj,I p.ai.ak.aq,I p.ai.ak.aw,I p.ai.ak.ax,I p.ay])] [] (fun (_:Unit)=>True) (fun _=>.sv (.one (I (p.ay)))):=by
 refine (Gb p (fun res_=>res_=(p.ay)) ?_).fun
 exact rfl
def xC (a:bd) (Q:bz -> Prop):Prop:=
 a.af.length <= 9223372036854775807 ->
 a.ar.length <= 9223372036854775807 ->
 a.av.length <= 9223372036854775807 ->
 ((∀ q ∈ a.av,0 <= q) /\
 ∃ (Inv:Int -> bK -> Prop) (mu:Int -> bK -> Nat),Inv 0 (bK.mk (du.mk (cA.mk 0 0 0 0) (cA.mk 0 0 0 0) (cA.mk 0 0 0 0) (cA.mk 0 0 0 0)) (jE a.av)) /\
 ∀ x18 y2,Inv x18 y2 -> (cv (decide (x18 < (a.ar.length:Int))) (∃ e,cq a.ar x18=some e /\
 (0 <= e.am /\ e.am < 4) /\
 (0 <= e.az /\ e.az < 4) /\
 (0 <= e.aA) /\
 (0 <= e.am /\ e.am < 4) /\
 (0 <= e.az /\ e.az < 4) /\
 (Inv (wr (x18 + 1)) (bK.mk (du.put y2.aa ((e.am * 4) + e.az) (bR .or .i64 (cW (du.l y2.aa) ((e.am * 4) + e.az)) (wr (1 * (2 ^ (min (e.aA).toNat 64)))))) y2.av) /\ mu (wr (x18 + 1)) (bK.mk (du.put y2.aa ((e.am * 4) + e.az) (bR .or .i64 (cW (du.l y2.aa) ((e.am * 4) + e.az)) (wr (1 * (2 ^ (min (e.aA).toNat 64)))))) y2.av) < mu x18 y2)) (∃ J:bc -> Prop,((∀ q ∈ a.af,0 <= q) /\
 cv ((jE a.af) != 0) (J (bc.mk (bO.mk 1 (cA.mk (jE a.af) 0 0 0) (cA.mk (-1) 0 0 0)) 9)) (J (bc.mk (bO.mk 0 (cA.mk 0 0 0 0) (cA.mk 0 0 0 0)) 9))) /\
 (∀ y4,J y4 -> (tT a.ae y4 (fun (x:bc × Int)=>Dl y2 x.1 x.2) (fun (x:bc × Int)=>gq y2 x.1 x.2) (fun _=>True) 1048576) /\
 (mL (dh (fun k (a:Nat)=>(fun (x:bc × Int)=>gq y2 x.1 x.2) (k,(a:Int))) (fun (p:bc)=>p.ay) (a.ae).toNat y4 1048576).1) /\
 Q (eX ((dh (fun k (a:Nat)=>(fun (x:bc × Int)=>gq y2 x.1 x.2) (k,(a:Int))) (fun (p:bc)=>p.ay) (a.ae).toNat y4 1048576).1).ae.toNat (fH (dh (fun k (a:Nat)=>(fun (x:bc × Int)=>gq y2 x.1 x.2) (k,(a:Int))) (fun (p:bc)=>p.ay) (a.ae).toNat y4 1048576).1 ((dh (fun k (a:Nat)=>(fun (x:bc × Int)=>gq y2 x.1 x.2) (k,(a:Int))) (fun (p:bc)=>p.ay) (a.ae).toNat y4 1048576).1).af.toNat))))))
abbrev lc (y0:Int):=(wr (1 * (2 ^ (min (y0).toNat 64))))
abbrev EC := (.box [I 0,I 0, .v (.slice none 0 0), .v (.slice none 0 0)] 35 false:br)
abbrev EB := (fun (p:bc)=>p.ay)
abbrev Lk := ([bg 1 (.ptr 0 0),bg 2 (.ptr 1 0),bg 3 (.ptr 3 0)]:List (Nat × SC))
theorem DY (a:bd) (Q:bz -> Prop) (h:xC a Q):Ct 11 [.sv (.agg [I a.ae,I a.ac,LS aZ a.af,LS aY.ty a.ar,LS aZ a.av])] [] Q (fun (r:bz)=>.sv (.agg [I r.ae,I r.af,LS (cB aZ) r.aa,LS aZ r.ay])):=by
 have ht:=bA
 refine Ct.body Tryz.func11 rfl rfl rfl rfl (fun c hn=>?_)
 unfold xC at h
 refine bQ 0 2 (by rfl) (by rfl) (fun hl=>?_)
 replace h:=h hl
 clear hl
 refine bQ 0 3 (by rfl) (by rfl) (fun hl=>?_)
 replace h:=h hl
 clear hl
 refine bQ 0 4 (by rfl) (by rfl) (fun hl=>?_)
 replace h:=h hl
 clear hl
 refine bk hn ?_
 refine bp (cN hn 2 ?_)
 obtain ⟨hp,h⟩:=h
 refine fK hn (cL (Ck a.av hp) Ms rfl) ?_
 refine bM hn ?_
 refine bi (bk hn ?_)
 refine bj (dV h (fun zz=>⟨[bu 1 0 0,bu 2 1 0,bu 3 3 0,bg 16 (LS aY.ty a.ar),ba 17 (a.ar.length:Int),ba 18 zz.1],[.box (bd.cl a) 25 false,EC, .box [I zz.2.aa.aj.aj,I zz.2.aa.aj.aq,I zz.2.aa.aj.aw,I zz.2.aa.aj.ax,I zz.2.aa.aq.aj,I zz.2.aa.aq.aq,I zz.2.aa.aq.aw,I zz.2.aa.aq.ax,I zz.2.aa.aw.aj,I zz.2.aa.aw.aq,I zz.2.aa.aw.aw,I zz.2.aa.aw.ax,I zz.2.aa.ax.aj,I zz.2.aa.ax.aq,I zz.2.aa.ax.aw,I zz.2.aa.ax.ax,I zz.2.av] 77 false, .box [.ptr 2 0] 72 false]⟩) fun Inv mu x18 y2 h=>?_)
 refine bk hn ?_
 refine bi (bv h (fun h=>?_) (fun h=>?_))
 refine bn (bi (bj (bp ?_)))
 obtain ⟨e,he,h⟩:=h
 refine bT hn (iX (T:=aY.ty) rfl he) ?_
 refine bT hn (lD (s:=.agg (aY.cl e)) rfl) ?_
 refine bM hn ?_
 have hk:=h.1
 replace h:=h.2
 have hk_2:=h.1
 replace h:=h.2
 have hz:=h.1
 replace h:=h.2
 have hk_3:=h.1
 replace h:=h.2
 have hk_4:=h.1
 replace h:=h.2
 refine da ⟨bu 5 4 0 :: bg 16 (LS aY.ty a.ar) :: ba 17 (a.ar.length:Int) :: ba 18 x18 :: Lk,[cQ 2 0,cQ 4 0,bq e.am,cQ 4 1,bq e.az,cQ 2 0,cQ 2 0,o1 (.ptr 2 (0 + (e.am:Int).toNat * 4)),o1 (.ptr 2 ((0 + (e.am:Int).toNat * 4) + (e.az:Int).toNat * 1)),bq (cW (du.l y2.aa) ((e.am * 4) + e.az)),cQ 4 2,bq e.aA,bq (lc e.aA),bq (bR .or .i64 (cW (du.l y2.aa) ((e.am * 4) + e.az)) (lc e.aA)),cQ 2 0,cQ 2 0,o1 (.ptr 2 (0 + (e.am:Int).toNat * 4)),o1 (.ptr 2 ((0 + (e.am:Int).toNat * 4) + (e.az:Int).toNat * 1)),bJ],[bU (.box (bd.cl a) 25 false),bU (EC),⟨.box [I y2.aa.aj.aj,I y2.aa.aj.aq,I y2.aa.aj.aw,I y2.aa.aj.ax,I y2.aa.aq.aj,I y2.aa.aq.aq,I y2.aa.aq.aw,I y2.aa.aq.ax,I y2.aa.aw.aj,I y2.aa.aw.aq,I y2.aa.aw.aw,I y2.aa.aw.ax,I y2.aa.ax.aj,I y2.aa.ax.aq,I y2.aa.ax.aw,I y2.aa.ax.ax,I y2.av] 77 false,none,none,some (18, .box [I (du.put y2.aa ((e.am * 4) + e.az) (bR .or .i64 (cW (du.l y2.aa) ((e.am * 4) + e.az)) (lc e.aA))).aj.aj,I (du.put y2.aa ((e.am * 4) + e.az) (bR .or .i64 (cW (du.l y2.aa) ((e.am * 4) + e.az)) (lc e.aA))).aj.aq,I (du.put y2.aa ((e.am * 4) + e.az) (bR .or .i64 (cW (du.l y2.aa) ((e.am * 4) + e.az)) (lc e.aA))).aj.aw,I (du.put y2.aa ((e.am * 4) + e.az) (bR .or .i64 (cW (du.l y2.aa) ((e.am * 4) + e.az)) (lc e.aA))).aj.ax,I (du.put y2.aa ((e.am * 4) + e.az) (bR .or .i64 (cW (du.l y2.aa) ((e.am * 4) + e.az)) (lc e.aA))).aq.aj,I (du.put y2.aa ((e.am * 4) + e.az) (bR .or .i64 (cW (du.l y2.aa) ((e.am * 4) + e.az)) (lc e.aA))).aq.aq,I (du.put y2.aa ((e.am * 4) + e.az) (bR .or .i64 (cW (du.l y2.aa) ((e.am * 4) + e.az)) (lc e.aA))).aq.aw,I (du.put y2.aa ((e.am * 4) + e.az) (bR .or .i64 (cW (du.l y2.aa) ((e.am * 4) + e.az)) (lc e.aA))).aq.ax,I (du.put y2.aa ((e.am * 4) + e.az) (bR .or .i64 (cW (du.l y2.aa) ((e.am * 4) + e.az)) (lc e.aA))).aw.aj,I (du.put y2.aa ((e.am * 4) + e.az) (bR .or .i64 (cW (du.l y2.aa) ((e.am * 4) + e.az)) (lc e.aA))).aw.aq,I (du.put y2.aa ((e.am * 4) + e.az) (bR .or .i64 (cW (du.l y2.aa) ((e.am * 4) + e.az)) (lc e.aA))).aw.aw,I (du.put y2.aa ((e.am * 4) + e.az) (bR .or .i64 (cW (du.l y2.aa) ((e.am * 4) + e.az)) (lc e.aA))).aw.ax,I (du.put y2.aa ((e.am * 4) + e.az) (bR .or .i64 (cW (du.l y2.aa) ((e.am * 4) + e.az)) (lc e.aA))).ax.aj,I (du.put y2.aa ((e.am * 4) + e.az) (bR .or .i64 (cW (du.l y2.aa) ((e.am * 4) + e.az)) (lc e.aA))).ax.aq,I (du.put y2.aa ((e.am * 4) + e.az) (bR .or .i64 (cW (du.l y2.aa) ((e.am * 4) + e.az)) (lc e.aA))).ax.aw,I (du.put y2.aa ((e.am * 4) + e.az) (bR .or .i64 (cW (du.l y2.aa) ((e.am * 4) + e.az)) (lc e.aA))).ax.ax,I y2.av] 77 false)⟩,bU (.box [.ptr 2 0] 72 false),bU (.box (aY.cl e) 29 false)]⟩ hn ?_ ?_
 exact ⟨.e,
 .e,
 .e,
 .e,
 .e,
 .e,
 .e,
 .vl ⟨[ba 24 e.am,bu 28 2 0],[.gone, .gone, .box [I y2.aa.aj.aj,I y2.aa.aj.aq,I y2.aa.aj.aw,I y2.aa.aj.ax,I y2.aa.aq.aj,I y2.aa.aq.aq,I y2.aa.aq.aw,I y2.aa.aq.ax,I y2.aa.aw.aj,I y2.aa.aw.aq,I y2.aa.aw.aw,I y2.aa.aw.ax,I y2.aa.ax.aj,I y2.aa.ax.aq,I y2.aa.ax.aw,I y2.aa.ax.ax,I y2.av] 77 false]⟩ (bX (dc (k:=e.am) 2 0 (0 + (e.am:Int).toNat * 4) ht rfl Tryz.underlying75 (by rfl) (by rfl) (by rfl) (by rfl) hk rfl)),
 .vl ⟨[ba 26 e.az,bg 29 (.ptr 2 (0 + (e.am:Int).toNat * 4))],[.gone, .gone, .box [I y2.aa.aj.aj,I y2.aa.aj.aq,I y2.aa.aj.aw,I y2.aa.aj.ax,I y2.aa.aq.aj,I y2.aa.aq.aq,I y2.aa.aq.aw,I y2.aa.aq.ax,I y2.aa.aw.aj,I y2.aa.aw.aq,I y2.aa.aw.aw,I y2.aa.aw.ax,I y2.aa.ax.aj,I y2.aa.ax.aq,I y2.aa.ax.aw,I y2.aa.ax.ax,I y2.av] 77 false]⟩ (bX (dc (k:=e.az) 2 (0 + (e.am:Int).toNat * 4) ((0 + (e.am:Int).toNat * 4) + (e.az:Int).toNat * 1) ht rfl Tryz.underlying74 (by rfl) (by rfl) (by rfl) (by rfl) hk_2 rfl)),
 .vl ⟨[bg 30 (.ptr 2 ((0 + (e.am:Int).toNat * 4) + (e.az:Int).toNat * 1))],[.gone, .gone, .box [I y2.aa.aj.aj,I y2.aa.aj.aq,I y2.aa.aj.aw,I y2.aa.aj.ax,I y2.aa.aq.aj,I y2.aa.aq.aq,I y2.aa.aq.aw,I y2.aa.aq.ax,I y2.aa.aw.aj,I y2.aa.aw.aq,I y2.aa.aw.aw,I y2.aa.aw.ax,I y2.aa.ax.aj,I y2.aa.ax.aq,I y2.aa.ax.aw,I y2.aa.ax.ax,I y2.av] 77 false]⟩ (bX (mm (du.l y2.aa) (k:=((e.am * 4) + e.az)) (m:=16) 0 ht rfl (by rfl) (by rfl) (by rfl) (by rfl) (by rfl) (by rfl) (by rfl) (by omega) (by omega))),
 .e,
 .e,
 .vl ⟨[ba 33 e.aA],[]⟩ (bX (nU (u:=1) (v:=e.aA) rfl (by rfl) (by rfl) hz (.inl ⟨rfl,rfl⟩))),
 .e,
 .e,
 .e,
 .vl ⟨[ba 24 e.am,bu 37 2 0],[.gone, .gone, .box [I y2.aa.aj.aj,I y2.aa.aj.aq,I y2.aa.aj.aw,I y2.aa.aj.ax,I y2.aa.aq.aj,I y2.aa.aq.aq,I y2.aa.aq.aw,I y2.aa.aq.ax,I y2.aa.aw.aj,I y2.aa.aw.aq,I y2.aa.aw.aw,I y2.aa.aw.ax,I y2.aa.ax.aj,I y2.aa.ax.aq,I y2.aa.ax.aw,I y2.aa.ax.ax,I y2.av] 77 false]⟩ (bX (dc (k:=e.am) 2 0 (0 + (e.am:Int).toNat * 4) ht rfl Tryz.underlying75 (by rfl) (by rfl) (by rfl) (by rfl) hk_3 rfl)),
 .vl ⟨[ba 26 e.az,bg 38 (.ptr 2 (0 + (e.am:Int).toNat * 4))],[.gone, .gone, .box [I y2.aa.aj.aj,I y2.aa.aj.aq,I y2.aa.aj.aw,I y2.aa.aj.ax,I y2.aa.aq.aj,I y2.aa.aq.aq,I y2.aa.aq.aw,I y2.aa.aq.ax,I y2.aa.aw.aj,I y2.aa.aw.aq,I y2.aa.aw.aw,I y2.aa.aw.ax,I y2.aa.ax.aj,I y2.aa.ax.aq,I y2.aa.ax.aw,I y2.aa.ax.ax,I y2.av] 77 false]⟩ (bX (dc (k:=e.az) 2 (0 + (e.am:Int).toNat * 4) ((0 + (e.am:Int).toNat * 4) + (e.az:Int).toNat * 1) ht rfl Tryz.underlying74 (by rfl) (by rfl) (by rfl) (by rfl) hk_4 rfl)),
 .mu ⟨[ba 35 (bR .or .i64 (cW (du.l y2.aa) ((e.am * 4) + e.az)) (lc e.aA)),bg 39 (.ptr 2 ((0 + (e.am:Int).toNat * 4) + (e.az:Int).toNat * 1))],[.gone, .gone, .box [I y2.aa.aj.aj,I y2.aa.aj.aq,I y2.aa.aj.aw,I y2.aa.aj.ax,I y2.aa.aq.aj,I y2.aa.aq.aq,I y2.aa.aq.aw,I y2.aa.aq.ax,I y2.aa.aw.aj,I y2.aa.aw.aq,I y2.aa.aw.aw,I y2.aa.aw.ax,I y2.aa.ax.aj,I y2.aa.ax.aq,I y2.aa.ax.aw,I y2.aa.ax.ax,I y2.av] 77 false]⟩ 2 _ _ rfl rfl (by kernel_rfl) (by rfl) (uJ (du.l y2.aa) (k:=((e.am * 4) + e.az)) (v:=(bR .or .i64 (cW (du.l y2.aa) ((e.am * 4) + e.az)) (lc e.aA))) (m:=16) 0 ht rfl (by rfl) (by rfl) (by rfl) (by rfl) (by rfl) (by rfl) (by rfl) (by rfl) (by omega) (by omega)) rfl rfl rfl rfl rfl rfl rfl,
 trivial⟩
 exact cn hn ((wr (x18 + 1)),(bK.mk (du.put y2.aa ((e.am * 4) + e.az) (bR .or .i64 (cW (du.l y2.aa) ((e.am * 4) + e.az)) (lc e.aA))) y2.av)) h
 refine bD rfl (bk hn ?_)
 obtain ⟨J,h,hJ⟩:=h
 refine bS (σ:=bc) (fun zz=>J zz) (fun zz=>⟨[bu 1 0 0,bu 2 1 0,bu 3 3 0,bu 6 4 0],[.box (bd.cl a) 25 false,EC, .box [I y2.aa.aj.aj,I y2.aa.aj.aq,I y2.aa.aj.aw,I y2.aa.aj.ax,I y2.aa.aq.aj,I y2.aa.aq.aq,I y2.aa.aq.aw,I y2.aa.aq.ax,I y2.aa.aw.aj,I y2.aa.aw.aq,I y2.aa.aw.aw,I y2.aa.aw.ax,I y2.aa.ax.aj,I y2.aa.ax.aq,I y2.aa.ax.aw,I y2.aa.ax.ax,I y2.av] 77 false, .box [.ptr 2 0] 72 false, .box (bc.cl zz) 81 false]⟩) ?_ ?_
 refine bp (cN hn 2 ?_)
 obtain ⟨hp,h⟩:=h
 refine fK hn (cL (Ck a.af hp) Ms rfl) ?_
 refine bM hn ?_
 refine bk hn ?_
 refine bv h (fun h=>?_) (fun h=>?_)
 refine bI (bC ht hn 6 ⟨bu 6 4 0 :: ba 47 (jE a.af) :: bu 51 4 1 :: Lk,[.box (bd.cl a) 25 false,EC, .box [I y2.aa.aj.aj,I y2.aa.aj.aq,I y2.aa.aj.aw,I y2.aa.aj.ax,I y2.aa.aq.aj,I y2.aa.aq.aq,I y2.aa.aq.aw,I y2.aa.aq.ax,I y2.aa.aw.aj,I y2.aa.aw.aq,I y2.aa.aw.aw,I y2.aa.aw.ax,I y2.aa.ax.aj,I y2.aa.ax.aq,I y2.aa.ax.aw,I y2.aa.ax.ax,I y2.av] 77 false, .box [.ptr 2 0] 72 false, .box [I 1,I 0,I 0,I 0,I 0,I 0,I 0,I 0,I 0,I 9] 81 false]⟩ ?_)
 refine fe hn (dc (k:=0) 4 1 1 ht rfl Tryz.underlying74 (by rfl) (by rfl) (by rfl) (by rfl) (by decide) (by rfl)) ?_
 refine bC ht hn 3 ⟨bu 6 4 0 :: bu 54 4 5 :: Lk,[.box (bd.cl a) 25 false,EC, .box [I y2.aa.aj.aj,I y2.aa.aj.aq,I y2.aa.aj.aw,I y2.aa.aj.ax,I y2.aa.aq.aj,I y2.aa.aq.aq,I y2.aa.aq.aw,I y2.aa.aq.ax,I y2.aa.aw.aj,I y2.aa.aw.aq,I y2.aa.aw.aw,I y2.aa.aw.ax,I y2.aa.ax.aj,I y2.aa.ax.aq,I y2.aa.ax.aw,I y2.aa.ax.ax,I y2.av] 77 false, .box [.ptr 2 0] 72 false, .box [I 1,I (jE a.af),I 0,I 0,I 0,I 0,I 0,I 0,I 0,I 9] 81 false]⟩ ?_
 refine fe hn (dc (k:=0) 4 5 5 ht rfl Tryz.underlying74 (by rfl) (by rfl) (by rfl) (by rfl) (by decide) (by rfl)) ?_
 refine bM hn ?_
 exact bZ (bc.mk (bO.mk 1 (cA.mk (jE a.af) 0 0 0) (cA.mk (-1) 0 0 0)) 9) h
 exact bn (bZ (bc.mk (bO.mk 0 (cA.mk 0 0 0 0) (cA.mk 0 0 0 0)) 9) h)
 intro y4 h
 replace h:=hJ _ h
 refine bp (bC ht hn 4 ⟨[bu 2 1 0,ba 58 a.ae,(59, .sv (.agg (bc.cl y4))),bg 60 (.fn 34 [3])],[.gone,EC, .box [I y2.aa.aj.aj,I y2.aa.aj.aq,I y2.aa.aj.aw,I y2.aa.aj.ax,I y2.aa.aq.aj,I y2.aa.aq.aq,I y2.aa.aq.aw,I y2.aa.aq.ax,I y2.aa.aw.aj,I y2.aa.aw.aq,I y2.aa.aw.aw,I y2.aa.aw.ax,I y2.aa.ax.aj,I y2.aa.ax.aq,I y2.aa.ax.aw,I y2.aa.ax.ax,I y2.av] 77 false, .box [.ptr 2 0] 72 false, .gone]⟩ ?_)
 refine iu [2] (by rfl) ?_
 refine H7 3 0 2 (by rfl) (by rfl) (by rfl) (by rfl) (by rfl) ?_
 refine iu [3] (by rfl) ?_
 refine gX 60 (o1 (MV (fun (x:bc × Int)=>Dl y2 x.1 x.2) (fun (x:bc × Int)=>gq y2 x.1 x.2))) (by rfl) (gV (M:=[.box [.pe (eu (.agg [I y2.aa.aj.aj,I y2.aa.aj.aq,I y2.aa.aj.aw,I y2.aa.aj.ax,I y2.aa.aq.aj,I y2.aa.aq.aq,I y2.aa.aq.aw,I y2.aa.aq.ax,I y2.aa.aw.aj,I y2.aa.aw.aq,I y2.aa.aw.aw,I y2.aa.aw.ax,I y2.aa.ax.aj,I y2.aa.ax.aq,I y2.aa.ax.aw,I y2.aa.ax.ax,I y2.av])) 17] 72 true]) (caps:=[3]) (fun x_ hx=>K5 x_.1 x_.2 y2 hx) NJ rfl (by kernel_rfl) (by rfl) (fun _=>rfl)) ?_
 obtain ⟨hp,h⟩:=h
 refine fK hn (cL (Ct.args (nC a.ae y4 (fun (x:bc × Int)=>Dl y2 x.1 x.2) (fun (x:bc × Int)=>gq y2 x.1 x.2) (fun _=>True) EB 1048576 hp) (jn (jn (jn (vk (uV (ins:=(fun (x_:bc)=>[.sv (.agg (bc.cl x_))])) (out:=(fun (r:Int)=>.sv (.one (I r)))) (dom:=(fun _=>True)) (φ:=EB) (fun x_ _=>K4 x_) NH) (jn sg)))))) NK rfl) ?_
 refine bM hn ?_
 refine bp (cN hn 1 ?_)
 obtain ⟨hp,h⟩:=h
 refine fK hn (cL (z3 (dh (fun k (a:Nat)=>(fun (x:bc × Int)=>gq y2 x.1 x.2) (k,(a:Int))) EB (a.ae).toNat y4 1048576).1 hp) NG rfl) ?_
 refine bM hn ?_
 exact fL ht (eX ((dh (fun k (a:Nat)=>(fun (x:bc × Int)=>gq y2 x.1 x.2) (k,(a:Int))) EB (a.ae).toNat y4 1048576).1).ae.toNat (fH (dh (fun k (a:Nat)=>(fun (x:bc × Int)=>gq y2 x.1 x.2) (k,(a:Int))) EB (a.ae).toNat y4 1048576).1 ((dh (fun k (a:Nat)=>(fun (x:bc × Int)=>gq y2 x.1 x.2) (k,(a:Int))) EB (a.ae).toNat y4 1048576).1).af.toNat)) h
theorem MA : ∀ args w,(callFunc 11 args).run Tryz.prog w=.ok (.enter 11 args) w:=enters_of Tryz.func11 (by kernel_rfl) rfl
theorem Cj (a:bd) (hp:gr a)  : Ct 11 [.sv (.agg [I a.ae,I a.ac,LS aZ a.af,LS aY.ty a.ar,LS aZ a.av])] [] (fun (_:Unit)=>True) (fun _=>.sv (.agg [I (ef a).ae,I (ef a).af,LS (cB aZ) (ef a).aa,LS aZ (ef a).ay])):=by
 refine (DY a (fun res_=>res_=(ef a)) ?_).fun
 have hA:=hp.ok
 have h4:=hp.four
 have lim:∀ q:Int,0 <= q /\ q < a.ac -> 0 <= q /\ q < 4:=fun q hq=>by omega
 unfold xC
 intro _ _ _
 refine ⟨fun q hq=>(hA.final q hq).1,fun x b=>∃ k:Nat,x=k /\ k <= a.ar.length /\ b=(a.ar.take k).foldl sN (B3 a),fun x _=>a.ar.length - x.toNat,⟨0,rfl,cy _,rfl⟩,?_⟩
 rintro x b ⟨k,rfl,hk,rfl⟩
 have few:=hA.few
 refine ⟨fun hb=>?_,fun hb=>?_⟩
 ·have hlt:=dlt hb
  have hx:=hp.q4 (dK hlt)
  refine ⟨_,eP hlt,hx.1,hx.2.2,hx.2.1.1,hx.1,hx.2.2,⟨k + 1,dj (by omega),hlt,?_⟩,dQ hlt (by omega)⟩
  rw [ia,cO hlt,nQ]
  rfl
 ·have hge:=dge hb
  have e:k=a.ar.length:=by omega
  subst e
  rw [kH]
  obtain ⟨b,hbl⟩:∃ b,b=lW a:=⟨_,rfl⟩
  rw [show a.ar.foldl sN (B3 a)=b from hbl.symm]
  refine ⟨fun p=>p=nB a,⟨fun q hq=>(hA.start q hq).1,fun c=>?_,fun c=>?_⟩,?_⟩
  ·unfold nB
   rw [if_pos (by simpa using c)]
  ·unfold nB
   rw [if_neg (by simpa using c)]
  ·rintro _ rfl
   obtain ⟨m,m1,m2⟩:=GU
   obtain ⟨g1,g2⟩:=wD hp m1
   rw [<- hbl] at g2
   have hl:=hA.letters
   have bok:BOk b:=hbl ▸ (j6 hp).1
   refine ⟨⟨⟨by omega,by omega⟩,by decide,POk,(n7 hp).1,fun k x hk hx=>⟨⟨bok,hk.1,by omega,by omega⟩,(p7 bok hk ⟨by omega,by omega⟩).1⟩,fun _ _=>trivial⟩,?_⟩
   rw [uX (go:=fun k (x:Nat)=>gq b k (x:Int)) (m:=m) g1 g2 (by omega)]
   have wf:=AQ (mark:=fun (p:bc)=>p.ay) g1 g2
   have st:(iR (fun k (x:Nat)=>gq b k (x:Int)) (fun (p:bc)=>p.ay) a.ae.toNat (nB a)).af=0:=rfl
   have lt:(iR (fun k (x:Nat)=>gq b k (x:Int)) (fun (p:bc)=>p.ay) a.ae.toNat (nB a)).ae=(a.ae.toNat:Int):=rfl
   refine ⟨⟨wf,dp (sM g1 g2) (by omega),by rw [lt]; omega,fun x hx=>?_⟩,?_⟩
   ·have:=AR (mark:=fun (p:bc)=>p.ay) (Q:=fun x=>0 <= x /\ x < 65536) g1 g2 (fun k hk=>by have:=((m1 k).1 hk).2; exact ⟨by omega,by omega⟩) x hx
    exact this
   ·show eX _ _=eX _ _
    rw [st,lt,bE]
    refine nL fun w hw=>?_
    rw [show ((0:Int)).toNat=0 from rfl,uY g1 g2 hw]
    unfold kQ
    rw [<- hbl]
def Ci (a:bd) (Q:Int -> Prop):Prop:=
 a.af.length <= 9223372036854775807 ->
 a.ar.length <= 9223372036854775807 ->
 a.av.length <= 9223372036854775807 ->
 (cv ((ee a) != 0) (Q (ee a)) (cv (decide (a.ac > 4)) (Q 1) (Q 0)))
theorem DP (a:bd) (Q:Int -> Prop) (h:Ci a Q):Ct 14 [.sv (.agg [I a.ae,I a.ac,LS aZ a.af,LS aY.ty a.ar,LS aZ a.av])] [] Q (fun (r:Int)=>.sv (.one (I r))):=by
 have ht:=bA
 refine Ct.body Tryz.func14 rfl rfl rfl rfl (fun c hn=>?_)
 unfold Ci at h
 refine bQ 0 2 (by rfl) (by rfl) (fun hl=>?_)
 replace h:=h hl
 clear hl
 refine bQ 0 3 (by rfl) (by rfl) (fun hl=>?_)
 replace h:=h hl
 clear hl
 refine bQ 0 4 (by rfl) (by rfl) (fun hl=>?_)
 replace h:=h hl
 clear hl
 refine bk hn ?_
 refine bi (bp (cN hn 1 ?_))
 refine fK hn (cL (tR a) Kc rfl) ?_
 refine bM hn ?_
 refine bk hn ?_
 refine bv h (fun h=>?_) (fun h=>?_)
 exact cD hn (ee a) h
 refine bn (bi (bk hn ?_))
 refine bv h (fun h=>?_) (fun h=>?_)
 exact cD hn 1 h
 exact bn (cD hn 0 h)
theorem NS : ∀ args w,(callFunc 14 args).run Tryz.prog w=.ok (.enter 14 args) w:=enters_of Tryz.func14 (by kernel_rfl) rfl
def rC (a:bd):Int:=if ee a ≠ 0 then ee a else if a.ac > 4 then 1 else 0
theorem z4 {a:bd}:rC a=0 ↔ gr a:=by
 unfold rC
 constructor
 ·intro h
  split at h
  ·contradiction
  ·rename_i c
   split at h
   ·cases h
   ·exact ⟨(ii a).1 (jp.1 c),by omega⟩
 ·intro h
  have h4:=h.four
  rw [if_neg (by rw [(ii a).2 h.ok]; simp),if_neg (by omega)]
def i8 (d:bz):bz:={ d with ay:=d.ay.map fun m=>m - 1 }
def ku (a:bd):bz × Int:=if rC a ≠ 0 then (⟨0,0,[],[]⟩,rC a) else (i8 (ef a),0)
def jx (d:bz) (q a:Int):Int:=(d.aa.getD q.toNat []).getD a.toNat 0
def lX (d:bz) (q:Int) (w:List Int):Int:=w.foldl (jx d) q
structure kD (x:bz):Prop where
 letters:1 <= x.ae /\ x.ae <= 4
 size:1 <= x.aa.length /\ x.aa.length <= 20000
 marks:x.ay.length=x.aa.length
 rows:∀ r ∈ x.aa,(r.length:Int)=x.ae
 start:0 <= x.af /\ x.af < (x.aa.length:Int)
 in_:∀ r ∈ x.aa,∀ p ∈ r,0 <= p /\ p < (x.aa.length:Int)
 mark:∀ m ∈ x.ay,0 <= m /\ m <= 9
def InZ (d:bz) (q:Int):Prop:=0 <= q /\ q < (d.aa.length:Int)
def LW (d:bz) (q:Int) (w:List Int):Prop:=kD d /\ InZ d q /\ ∀ a ∈ w,0 <= a /\ a < d.ae
theorem lC {m:bz} (h:kD m) {q a:Int} (hq:InZ m q) (ha:0 <= a /\ a < m.ae):cq m.aa q=some (m.aa.getD q.toNat []) /\ cq (m.aa.getD q.toNat []) a=some (jx m q a) /\ InZ m (jx m q a):=by
 obtain ⟨q0,q1⟩:=hq
 obtain ⟨a0,a1⟩:=ha
 have hm:=dx (l:=m.aa) (i:=q.toNat) (z:=[]) (by omega)
 have hr:=h.rows _ hm
 have hl:a < ((m.aa.getD q.toNat []).length:Int):=by omega
 exact ⟨yG [] q0 q1,yG 0 a0 hl,h.in_ _ hm _ (dx (by omega))⟩
theorem DD {m:bz} (h:kD m):∀ (w:List Int) (q:Int),(∀ a ∈ w,0 <= a /\ a < m.ae) -> InZ m q -> InZ m (lX m q w)
 | [],q,_,hq=>hq
 | a :: w,q,hw,hq=>DD h w _ (fun b hb=>hw b (d7 _ hb)) (lC h hq (hw a fD)).2.2
def B0 (_:bz):Int:=0
def noZ (n q:Int):Bool:=(decide (q < 0)) || (decide (q >= n))
theorem xJ {a:bd} (h:gr a):kD (i8 (ef a)):=by
 have c:=pj h
 have hl:=h.ok.letters
 have hs:=c.wf.start
 have e:(ef a).ae=a.ae:=by
  have:=c.letters
  unfold ef
  omega
 refine ⟨by show 1 <= (ef a).ae /\ (ef a).ae <= 4; omega,⟨?_,dp c.count (by omega)⟩,?_,fun r hr=>?_,hs,c.wf.next,fun m hm=>?_⟩
 ·show 1 <= (eX _ _).aa.length
  omega
 ·show ((ef a).ay.map _).length=_
  rw [df]
  exact c.wf.mark
 ·have:=c.wf.rows r hr
  show (r.length:Int)=(ef a).ae
  have e2:(eX a.ae.toNat (kQ a)).ae=a.ae:=e
  omega
 ·obtain ⟨x,hx,rfl⟩:=cP.1 hm
  have:=ph h x hx
  omega
theorem Ix (a:bd)  : Ct 14 [.sv (.agg [I a.ae,I a.ac,LS aZ a.af,LS aY.ty a.ar,LS aZ a.av])] [] (fun (_:Unit)=>True) (fun _=>.sv (.one (I (rC a)))):=by
 refine (DP a (fun res_=>res_=(rC a)) ?_).fun
 intro _ _ _
 unfold rC
 refine ⟨fun h=>?_,fun h=>⟨fun h2=>?_,fun h2=>?_⟩⟩
 ·rw [if_pos (by simpa using h)]
 ·rw [if_neg (by simpa using h),if_pos (by simpa using h2)]
 ·rw [if_neg (by simpa using h),if_neg (by simpa using h2)]
def xp (d:bz) (Q:bz -> Prop):Prop:=
 d.aa.length <= 9223372036854775807 ->
 d.ay.length <= 9223372036854775807 ->
 ((d.ay.length * 8 <= 140737488355328) /\
 ∃ (Inv:Int -> (List Int) -> Prop) (mu:Int -> (List Int) -> Nat),Inv 0 (d.ay) /\
 ∀ x12 l2,Inv x12 l2 -> (cv (decide (x12 < ((d.ay).length:Int))) (∃ e,cq l2 x12=some e /\
 ∃ e_2,cq l2 x12=some e_2 /\
 (Inv (wr (x12 + 1)) (l2.set (x12).toNat (wr (e - 1))) /\ mu (wr (x12 + 1)) (l2.set (x12).toNat (wr (e - 1))) < mu x12 l2)) (Q (bz.mk d.ae d.af d.aa l2))))
theorem DL (d:bz) (Q:bz -> Prop) (h:xp d Q):Ct 15 [.sv (.agg [I d.ae,I d.af,LS (cB aZ) d.aa,LS aZ d.ay])] [] Q (fun (r:bz)=>.sv (.agg [I r.ae,I r.af,LS (cB aZ) r.aa,LS aZ r.ay])):=by
 have ht:=bA
 refine Ct.body Tryz.func15 rfl rfl rfl rfl (fun c hn=>?_)
 unfold xp at h
 refine bQ 0 2 (by rfl) (by rfl) (fun hl=>?_)
 replace h:=h hl
 clear hl
 refine bQ 0 3 (by rfl) (by rfl) (fun hl=>?_)
 replace h:=h hl
 clear hl
 refine bk hn ?_
 refine bp (bC ht hn 2 ⟨[bu 1 0 0,bu 2 1 0,bg 6 (LS aZ d.ay)],[.box [I d.ae,I d.af,LS (cB aZ) d.aa,LS aZ d.ay] 35 false, .box [I 0,I 0, .v (.slice none 0 0), .v (.slice none 0 0)] 35 false]⟩ ?_)
 obtain ⟨hp,h⟩:=h
 refine dg (K:=[]) (p:=some (2,bf 3 aZ d.ay)) hn (by rfl) (iK 2 (ir d.ay hp) Fe (caps:=[]) [] rfl rfl (by rfl) (by kernel_rfl) (by kernel_rfl) (by rfl) (by rfl)) (by rfl) (by rfl) (by rfl) ?_
 refine bM hn ?_
 refine bi (bk hn ?_)
 refine bj (dV h (fun zz=>⟨[bu 1 0 0,bu 2 1 0,bx 10 2,ba 11 ((d.ay).length:Int),ba 12 zz.1],[.box [I d.ae,I d.af,LS (cB aZ) d.aa, .own 2] 35 false, .box [I 0,I 0, .v (.slice none 0 0), .v (.slice none 0 0)] 35 false,bf 3 aZ zz.2]⟩) fun Inv mu x12 l2 h=>?_)
 refine bk hn ?_
 refine bi (bv h (fun h=>?_) (fun h=>?_))
 refine bn (bi (bj (bp (cN hn 1 ?_))))
 obtain ⟨e,he,h⟩:=h
 refine bT hn (iO (T:=aZ) rfl he) ?_
 refine bT hn (lO (T:=aZ) rfl (bs he).2.2) ?_
 refine bM hn ?_
 refine bI (cN hn 5 ?_)
 obtain ⟨e_2,he_2,h⟩:=h
 refine bT hn (iO (T:=aZ) rfl he_2) ?_
 refine gg (T:=aZ) (y:=(wr (e - 1))) hn rfl (dd he_2) ?_
 exact bH (cn hn ((wr (x12 + 1)),(l2.set (x12).toNat (wr (e - 1)))) h)
 refine bD rfl (bp (cw ht hn 2 ⟨[bu 2 1 0],[.gone, .box [I d.ae,I d.af,LS (cB aZ) d.aa, .own 2] 35 false,bf 3 aZ l2]⟩ ?_))
 refine cT (iZ (T:=aZ) (l:=l2) (e:=3) 2 rfl ?_)
 exact eW ht (bz.mk d.ae d.af d.aa l2) h (by kernel_rfl) rfl
theorem NR : ∀ args w,(callFunc 15 args).run Tryz.prog w=.ok (.enter 15 args) w:=enters_of Tryz.func15 (by kernel_rfl) rfl
theorem Iu (d:bz) (hp:d.ay.length <= 20000 /\ ∀ m ∈ d.ay,1 <= m /\ m <= 9)  : Ct 15 [.sv (.agg [I d.ae,I d.af,LS (cB aZ) d.aa,LS aZ d.ay])] [] (fun (_:Unit)=>True) (fun _=>.sv (.agg [I (i8 d).ae,I (i8 d).af,LS (cB aZ) (i8 d).aa,LS aZ (i8 d).ay])):=by
 refine (DL d (fun res_=>res_=(i8 d)) ?_).fun
 obtain ⟨hl,hm⟩:=hp
 unfold xp
 intro _ _
 refine ⟨by omega,fun x l=>∃ k:Nat,x=k /\ k <= d.ay.length /\ l=((d.ay.take k).map fun m=>m - 1) ++ d.ay.drop k,fun x _=>d.ay.length - x.toNat,⟨0,rfl,cy _,rfl⟩,?_⟩
 rintro x l ⟨k,rfl,hk,rfl⟩
 refine ⟨fun hb=>?_,fun hb=>?_⟩
 ·have hlt:=dlt hb
  have tl:((d.ay.take k).map fun m=>m - 1).length=k:=by rw [df,eU]; omega
  have e:cq (((d.ay.take k).map fun m=>m - 1) ++ d.ay.drop k) (k:Int)=some d.ay[k]:=by
   have h0:(((d.ay.take k).map fun m=>m - 1) ++ d.ay.drop k)[k]? = some d.ay[k]:=by
    rw [oC (by rw [tl]; exact bP _),tl,Nat.sub_self,iC,eG,cO hlt]
   simpa [cq] using h0
  have hx:=hm _ (dK hlt)
  refine ⟨_,e,_,e,⟨k + 1,dj (by omega),hlt,?_⟩,dQ hlt (by omega)⟩
  rw [bL (by omega) (by omega),bE,List.set_append_right _ _ (by rw [tl]; exact bP _),tl,Nat.sub_self,ia,cO hlt,jJ,fE,tU hlt]
  rfl
 ·have hge:=dge hb
  rw [f8 hge,List.drop_of_length_le hge,List.append_nil]
  rfl
def xw (a:bd) (Q:(bz × Int) -> Prop):Prop:=
 a.af.length <= 9223372036854775807 ->
 a.ar.length <= 9223372036854775807 ->
 a.av.length <= 9223372036854775807 ->
 (cv ((rC a) != 0) (Q ((bz.mk 0 0 [] []),(rC a))) ((gr a) /\
 (((ef a)).ay.length <= 20000 /\ ∀ m ∈ ((ef a)).ay,1 <= m /\ m <= 9) /\
 Q ((i8 (ef a)),0)))
theorem DT (a:bd) (Q:(bz × Int) -> Prop) (h:xw a Q):Ct 5 [.sv (.agg [I a.ae,I a.ac,LS aZ a.af,LS aY.ty a.ar,LS aZ a.av])] [] Q (fun (r:(bz × Int))=>.tup [.agg [I r.1.ae,I r.1.af,LS (cB aZ) r.1.aa,LS aZ r.1.ay], .one (I r.2)]):=by
 have ht:=bA
 refine Ct.body Tryz.func5 rfl rfl rfl rfl (fun c hn=>?_)
 unfold xw at h
 refine bQ 0 2 (by rfl) (by rfl) (fun hl=>?_)
 replace h:=h hl
 clear hl
 refine bQ 0 3 (by rfl) (by rfl) (fun hl=>?_)
 replace h:=h hl
 clear hl
 refine bQ 0 4 (by rfl) (by rfl) (fun hl=>?_)
 replace h:=h hl
 clear hl
 refine bk hn ?_
 refine bi (bp (cN hn 1 ?_))
 refine fK hn (cL (Ix a) NS rfl) ?_
 refine bM hn ?_
 refine bk hn ?_
 refine bv h (fun h=>?_) (fun h=>?_)
 refine bp (cw ht hn 4 ⟨[bu 2 1 0,ba 3 (rC a)],[.gone, .box [I 0,I 0, .v (.slice none 0 0), .v (.slice none 0 0)] 35 false]⟩ ?_)
 refine cT (dn (T:=(cB aZ)) 1 2 (by rfl) (by rfl) ?_)
 refine dn (T:=aZ) 1 3 (by rfl) (by rfl) ?_
 exact eW ht ((bz.mk 0 0 [] []),(rC a)) h (by kernel_rfl) rfl
 refine bn (bp (cN hn 1 ?_))
 obtain ⟨hp,h⟩:=h
 refine fK hn (cL (Cj a hp) MA rfl) ?_
 obtain ⟨hp,h⟩:=h
 refine fK hn (cL (Iu (ef a) hp) NR rfl) ?_
 refine bM hn ?_
 exact fL ht ((i8 (ef a)),0) h
theorem en5 : ∀ args w,(callFunc 5 args).run Tryz.prog w=.ok (.enter 5 args) w:=enters_of Tryz.func5 (by kernel_rfl) rfl
theorem IA (a:bd)  : Ct 5 [.sv (.agg [I a.ae,I a.ac,LS aZ a.af,LS aY.ty a.ar,LS aZ a.av])] [] (fun (_:Unit)=>True) (fun _=>.tup [.agg [I (ku a).1.ae,I (ku a).1.af,LS (cB aZ) (ku a).1.aa,LS aZ (ku a).1.ay], .one (I (ku a).2)]):=by
 refine (DT a (fun res_=>res_=(ku a)) ?_).fun
 unfold xw ku
 intro _ _ _
 refine ⟨fun h=>?_,fun h=>?_⟩
 ·rw [if_pos (by simpa using h)]
 ·have e:rC a=0:=by simpa using h
  have ha:=z4.1 e
  refine ⟨ha,⟨?_,ph ha⟩,?_⟩
  ·have c:=pj ha
   have:=c.wf.mark
   have:=c.count
   show (eX _ _).ay.length <= _
   omega
  ·rw [if_neg (by rw [e]; simp)]
def xG (d:bz) (q:Int) (w:List Int) (Q:Int -> Prop):Prop:=
 d.aa.length <= 9223372036854775807 ->
 d.ay.length <= 9223372036854775807 ->
 w.length <= 9223372036854775807 ->
 (∃ (Inv:Int -> Int -> Prop) (mu:Int -> Int -> Nat),Inv q 0 /\
 ∀ x1 x11,Inv x1 x11 -> (cv (decide (x11 < (w.length:Int))) (∃ e,cq w x11=some e /\
 ∃ e_2,cq d.aa x1=some e_2 /\
 ∃ e_3,cq e_2 e=some e_3 /\
 (Inv e_3 (wr (x11 + 1)) /\ mu e_3 (wr (x11 + 1)) < mu x1 x11)) (Q x1)))
theorem D3 (d:bz) (q:Int) (w:List Int) (Q:Int -> Prop) (h:xG d q w Q):Ct 20 [.sv (.agg [I d.ae,I d.af,LS (cB aZ) d.aa,LS aZ d.ay]), .sv (.one (I q)), .sv (.one (LS aZ w))] [] Q (fun (r:Int)=>.sv (.one (I r))):=by
 have ht:=bA
 refine Ct.body Tryz.func20 rfl rfl rfl rfl (fun c hn=>?_)
 unfold xG at h
 refine bQ 0 2 (by rfl) (by rfl) (fun hl=>?_)
 replace h:=h hl
 clear hl
 refine bQ 0 3 (by rfl) (by rfl) (fun hl=>?_)
 replace h:=h hl
 clear hl
 refine de 2 (by rfl) (fun hl=>?_)
 replace h:=h hl
 clear hl
 refine bk hn ?_
 refine bi (bk hn ?_)
 refine bj (dV h (fun zz=>⟨[ba 1 zz.1,bu 3 0 0,bg 9 (LS aZ w),ba 10 (w.length:Int),ba 11 zz.2],[.box [I d.ae,I d.af,LS (cB aZ) d.aa,LS aZ d.ay] 35 false]⟩) fun Inv mu x1 x11 h=>?_)
 refine bk hn ?_
 refine bi (bv h (fun h=>?_) (fun h=>?_))
 refine bn (bi (bj (bp ?_)))
 obtain ⟨e,he,h⟩:=h
 refine bT hn (iX (T:=aZ) rfl he) ?_
 refine bT hn (lD (s:=.one (I e)) rfl) ?_
 refine bM hn ?_
 refine bI (cN hn 3 ?_)
 obtain ⟨e_2,he_2,h⟩:=h
 refine bT hn (iX (T:=(cB aZ)) rfl he_2) ?_
 refine bT hn (lD (s:=.one (LS aZ e_2)) rfl) ?_
 refine cN hn 1 ?_
 obtain ⟨e_3,he_3,h⟩:=h
 refine bT hn (iX (T:=aZ) rfl he_3) ?_
 refine bT hn (lD (s:=.one (I e_3)) rfl) ?_
 refine bM hn ?_
 exact cn hn (e_3,(wr (x11 + 1))) h
 exact bD rfl (cD hn x1 h)
theorem Mx : ∀ args w,(callFunc 20 args).run Tryz.prog w=.ok (.enter 20 args) w:=enters_of Tryz.func20 (by kernel_rfl) rfl
theorem Cl (d:bz) (q:Int) (w:List Int) (hp:LW d q w)  : Ct 20 [.sv (.agg [I d.ae,I d.af,LS (cB aZ) d.aa,LS aZ d.ay]), .sv (.one (I q)), .sv (.one (LS aZ w))] [] (fun (_:Unit)=>True) (fun _=>.sv (.one (I (lX d q w)))):=by
 refine (D3 d q w (fun res_=>res_=(lX d q w)) ?_).fun
 obtain ⟨hx,hq,hw⟩:=hp
 unfold xG
 intro _ _ hl
 refine ⟨fun p i=>∃ k:Nat,i=k /\ k <= w.length /\ p=lX d q (w.take k),fun _ i=>w.length - i.toNat,⟨0,rfl,cy _,rfl⟩,?_⟩
 rintro p i ⟨k,rfl,hk,rfl⟩
 refine ⟨fun hb=>?_,fun hb=>?_⟩
 ·have hlt:=dlt hb
  have hin:=DD hx (w.take k) q (fun a ha=>hw a (List.mem_of_mem_take ha)) hq
  obtain ⟨k1,k2,_⟩:=lC hx hin (hw _ (dK hlt))
  refine ⟨_,eP hlt,_,k1,_,k2,⟨k + 1,dj (by omega),hlt,?_⟩,dQ hlt (by omega)⟩
  rw [ia,cO hlt]
  unfold lX
  rw [nQ]
  rfl
 ·rw [f8 (dge hb)]
def mz (l:List (List Int)) (dom:((List Int) -> Prop)) (φ:((List Int) -> Bool)) (Q:Int -> Prop):Prop:=
 l.length <= 9223372036854775807 ->
 (∃ (Inv:Int -> Prop) (mu:Int -> Nat),Inv 0 /\
 ∀ x8,Inv x8 -> (cv (decide (x8 < (l.length:Int))) (∃ e,cq l x8=some e /\
 (dom e) /\
 cv (φ e) (Q x8) ((Inv (wr (x8 + 1)) /\ mu (wr (x8 + 1)) < mu x8))) (Q (-1))))
theorem uR (l:List (List Int)) (dom:((List Int) -> Prop)) (φ:((List Int) -> Bool)) (Q:Int -> Prop) (h:mz l dom φ Q):Ct 71 [.sv (.one (LS (cB aZ) l)), .sv (.one (BO dom φ))] [] Q (fun (r:Int)=>.sv (.one (I r))):=by
 have ht:=bA
 refine Ct.body Tryz.func71 rfl rfl rfl rfl (fun c hn=>?_)
 unfold mz at h
 refine de 0 (by rfl) (fun hl=>?_)
 replace h:=h hl
 clear hl
 refine bk hn ?_
 refine bi (bk hn ?_)
 refine bj (fC h (fun zz=>⟨[bg 0 (LS (cB aZ) l),bg 1 (BO dom φ),ba 7 (l.length:Int),ba 8 zz],[]⟩) fun Inv mu x8 h=>?_)
 refine bk hn ?_
 refine bi (bv h (fun h=>?_) (fun h=>?_))
 refine bn (bi (bj (bk hn ?_)))
 refine bp (bC ht hn 3 ⟨[bg 0 (LS (cB aZ) l),bg 1 (BO dom φ),ba 5 x8,ba 7 (l.length:Int),ba 8 x8,bg 11 (BO dom φ),bg 12 (LS (cB aZ) l),ba 13 x8],[]⟩ ?_)
 obtain ⟨e,he,h⟩:=h
 refine fe hn (gQ (T:=(cB aZ)) (l:=l) (i:=x8) ht rfl he) ?_
 refine fe hn (fQ (s:=.one (LS aZ e)) ht rfl) ?_
 obtain ⟨hp,h⟩:=h
 refine i9 hn (fG e hp rfl (by rfl) (by rfl) (by rfl) (by rfl)) ?_
 refine bH (bv h (fun h=>?_) (fun h=>?_))
 exact cD hn x8 h
 exact bn (cn hn (wr (x8 + 1)) h)
 exact bD rfl (cD hn (-1) h)
theorem Nd : ∀ args w,(callFunc 71 args).run Tryz.prog w=.ok (.enter 71 args) w:=enters_of Tryz.func71 (by kernel_rfl) rfl
theorem yF (l:List (List Int)) (dom:(List Int) -> Prop) (φ:(List Int) -> Bool) (hd:∀ x ∈ l,dom x):Ct 71 [.sv (.one (LS (cB aZ) l)), .sv (.one (BO dom φ))] [] (fun (_:Unit)=>True) (fun _=>.sv (.one (I (fI φ l)))):=by
 refine (uR l dom φ (fun r=>r=fI φ l) ?_).fun
 unfold mz
 exact nt l dom φ hd
def po (l:List (List Int)) (dom:((List Int) -> Prop)) (φ:((List Int) -> Bool)) (Q:Bool -> Prop):Prop:=
 l.length <= 9223372036854775807 ->
 ((∀ x_ ∈ l,dom x_) /\
 Q (decide ((fI φ l) >= 0)))
theorem zu (l:List (List Int)) (dom:((List Int) -> Prop)) (φ:((List Int) -> Bool)) (Q:Bool -> Prop) (h:po l dom φ Q):Ct 48 [.sv (.one (LS (cB aZ) l)), .sv (.one (BO dom φ))] [] Q (fun (r:Bool)=>.sv (.one (B r))):=by
 have ht:=bA
 refine Ct.body Tryz.func48 rfl rfl rfl rfl (fun c hn=>?_)
 unfold po at h
 refine de 0 (by rfl) (fun hl=>?_)
 replace h:=h hl
 clear hl
 refine bk hn ?_
 refine bp (cN hn 2 ?_)
 obtain ⟨hp,h⟩:=h
 refine fK hn (cL (yF l dom φ hp) Nd rfl) ?_
 refine bM hn ?_
 exact fL ht (decide ((fI φ l) >= 0)) h
theorem Mq : ∀ args w,(callFunc 48 args).run Tryz.prog w=.ok (.enter 48 args) w:=enters_of Tryz.func48 (by kernel_rfl) rfl
theorem vm (l:List (List Int)) (dom:(List Int) -> Prop) (φ:(List Int) -> Bool) (hd:∀ x ∈ l,dom x):Ct 48 [.sv (.one (LS (cB aZ) l)), .sv (.one (BO dom φ))] [] (fun (_:Unit)=>True) (fun _=>.sv (.one (B (l.any φ)))):=by
 refine (zu l dom φ (fun r=>r=l.any φ) ?_).fun
 unfold po
 exact fun _=>⟨hd,by rw [<- jX φ l]⟩
def Gn (r:List Int) (x:bz) (Q:Bool -> Prop):Prop:=
 r.length <= 9223372036854775807 ->
 (Q ((r.length:Int) != x.ae))
theorem Gm (r:List Int) (x:bz) (Q:Bool -> Prop) (h:Gn r x Q):Ct 49 [.sv (.one (LS aZ r)), .sv (.one (.ptr 0 0))] [.box [I x.ae,I x.af,LS (cB aZ) x.aa,LS aZ x.ay] 35 true] Q (fun (r:Bool)=>.sv (.one (B r))):=by
 have ht:=bA
 refine Ct.body Tryz.func49 rfl rfl rfl rfl (fun c hn=>?_)
 unfold Gn at h
 refine de 0 (by rfl) (fun hl=>?_)
 replace h:=h hl
 clear hl
 refine bk hn ?_
 exact cD hn ((r.length:Int) != x.ae) h
theorem Nx : ∀ args w,(callFunc 49 args).run Tryz.prog w=.ok (.enter 49 args) w:=enters_of Tryz.func49 (by kernel_rfl) rfl
def Gk (q:Int) (n:Int) (Q:Bool -> Prop):Prop:=
 Q ((decide (q < 0)) || (decide (q >= n)))
theorem Gj (q:Int) (n:Int) (Q:Bool -> Prop) (h:Gk q n Q):Ct 50 [.sv (.one (I q)), .sv (.one (.ptr 0 0))] [.box [I n] 3 true] Q (fun (r:Bool)=>.sv (.one (B r))):=by
 have ht:=bA
 refine Ct.body Tryz.func50 rfl rfl rfl rfl (fun c hn=>?_)
 unfold Gk at h
 refine bk hn ?_
 refine bp (bC ht hn 3 ⟨[ba 0 q,bu 1 0 0,bG 6 (decide (q < 0))],[.box [I n] 3 true]⟩ ?_)
 refine eB ⟨[bG 3 ((decide (q < 0)) || (decide (q >= n)))],[.gone]⟩ ?_ ?_
 refine cz (decide (q < 0)) (fun hb0=>?_) (fun hb0=>?_)
 refine cf 6 hb0 ?_
 refine bC ht hn 5 ⟨[bG 3 true],[.gone]⟩ ?_
 exact bH (sub_ok (by simp only [hb0]; kernel_rfl))
 refine cf 6 hb0 ?_
 refine bC ht hn 5 ⟨[bG 3 (decide (q >= n))],[.gone]⟩ ?_
 exact bH (sub_ok (by simp only [hb0]; kernel_rfl))
 exact fL ht ((decide (q < 0)) || (decide (q >= n))) h
theorem Mp : ∀ args w,(callFunc 50 args).run Tryz.prog w=.ok (.enter 50 args) w:=enters_of Tryz.func50 (by kernel_rfl) rfl
def Gi (l:List Int) (domno:(Int -> Prop)) (no:(Int -> Bool)) (Q:Bool -> Prop):Prop:=
 l.length <= 9223372036854775807 ->
 ((∀ x_ ∈ l,domno x_) /\
 Q (l.any no))
theorem Gg (l:List Int) (domno:(Int -> Prop)) (no:(Int -> Bool)) (Q:Bool -> Prop) (h:Gi l domno no Q):Ct 51 [.sv (.one (LS aZ l)), .sv (.one (.ptr 0 0))] [.box [fv2 domno no] 66 true] Q (fun (r:Bool)=>.sv (.one (B r))):=by
 have ht:=bA
 refine Ct.body Tryz.func51 rfl rfl rfl rfl (fun c hn=>?_)
 unfold Gi at h
 refine de 0 (by rfl) (fun hl=>?_)
 replace h:=h hl
 clear hl
 refine bk hn ?_
 refine bp (cN hn 2 ?_)
 obtain ⟨hp,h⟩:=h
 refine fK hn (cL (og l domno no hp) Ka rfl) ?_
 refine bM hn ?_
 exact fL ht (l.any no) h
theorem Nw : ∀ args w,(callFunc 51 args).run Tryz.prog w=.ok (.enter 51 args) w:=enters_of Tryz.func51 (by kernel_rfl) rfl
def Gf (m:Int) (Q:Bool -> Prop):Prop:=
 Q ((decide (m < 0)) || (decide (m > 9)))
theorem Ge (m:Int) (Q:Bool -> Prop) (h:Gf m Q):Ct 52 [.sv (.one (I m))] [] Q (fun (r:Bool)=>.sv (.one (B r))):=by
 have ht:=bA
 refine Ct.body Tryz.func52 rfl rfl rfl rfl (fun c hn=>?_)
 unfold Gf at h
 refine bk hn ?_
 refine bp (bC ht hn 3 ⟨[ba 0 m,bG 5 (decide (m < 0))],[]⟩ ?_)
 refine eB ⟨[bG 2 ((decide (m < 0)) || (decide (m > 9)))],[]⟩ ?_ ?_
 refine cz (decide (m < 0)) (fun hb0=>?_) (fun hb0=>?_)
 refine cf 5 hb0 ?_
 refine bC ht hn 4 ⟨[bG 2 true],[]⟩ ?_
 exact bH (sub_ok (by simp only [hb0]; kernel_rfl))
 refine cf 5 hb0 ?_
 refine bC ht hn 4 ⟨[bG 2 (decide (m > 9))],[]⟩ ?_
 exact bH (sub_ok (by simp only [hb0]; kernel_rfl))
 exact fL ht ((decide (m < 0)) || (decide (m > 9))) h
theorem Nv : ∀ args w,(callFunc 52 args).run Tryz.prog w=.ok (.enter 52 args) w:=enters_of Tryz.func52 (by kernel_rfl) rfl
theorem K8 (r:List Int) (x:bz)  : Ct 49 [.sv (.one (LS aZ r)), .sv (.one (.ptr 0 0))] [.box [I x.ae,I x.af,LS (cB aZ) x.aa,LS aZ x.ay] 35 true] (fun (_:Unit)=>True) (fun _=>.sv (.one (B ((r.length:Int) != x.ae)))):=by
 refine (Gm r x (fun res_=>res_=((r.length:Int) != x.ae)) ?_).fun
 exact fun _=>rfl
theorem Gl (q:Int) (n:Int)  : Ct 50 [.sv (.one (I q)), .sv (.one (.ptr 0 0))] [.box [I n] 3 true] (fun (_:Unit)=>True) (fun _=>.sv (.one (B (noZ n q)))):=by
 refine (Gj q n (fun res_=>res_=(noZ n q)) ?_).fun
 rfl
theorem K7 (l:List Int) (domno:(Int -> Prop)) (no:(Int -> Bool)) (hd:∀ x ∈ l,domno x):Ct 51 [.sv (.one (LS aZ l)), .sv (.one (.ptr 0 0))] [.box [fv2 domno no] 66 true] (fun (_:Unit)=>True) (fun _=>.sv (.one (B (l.any no)))):=by
 refine (Gg l domno no (fun res_=>res_=(l.any no)) ?_).fun
 exact fun _=>⟨hd,rfl⟩
theorem K6 (m:Int)  : Ct 52 [.sv (.one (I m))] [] (fun (_:Unit)=>True) (fun _=>.sv (.one (B ((decide (m < 0)) || (decide (m > 9)))))):=by
 refine (Ge m (fun res_=>res_=((decide (m < 0)) || (decide (m > 9)))) ?_).fun
 rfl
def xE (x:bz) (Q:Int -> Prop):Prop:=
 x.aa.length <= 9223372036854775807 ->
 x.ay.length <= 9223372036854775807 ->
 (cv ((decide (x.ae < 1)) || (decide (x.ae > 4))) (Q 2) (cv ((decide ((x.aa.length:Int) < 1)) || (decide ((x.aa.length:Int) > 20000))) (Q 1) (∃ J:Bool -> Prop,(cv ((x.ay.length:Int) != (x.aa.length:Int)) (J true) ((∀ x_ ∈ x.aa,(fun _=>True) x_) /\
 J (x.aa.any (fun r=>(r.length:Int) != (x).ae)))) /\
 (∀ x32,J x32 -> cv x32 (Q 3) (∃ J_2:Bool -> Prop,(((fun _=>True) x.af) /\
 cv ((noZ (x.aa.length:Int)) x.af) (J_2 true) ((∀ x_ ∈ x.aa,(fun l=>∀ x ∈ l,(fun _=>True) x) x_) /\
 cv (x.aa.any (fun l=>l.any (noZ (x.aa.length:Int)))) (J_2 true) ((∀ x_ ∈ x.ay,(fun _=>True) x_) /\
 J_2 (x.ay.any (fun m=>(decide (m < 0)) || (decide (m > 9))))))) /\
 (∀ x48,J_2 x48 -> cv x48 (Q 2) (Q 0)))))))
abbrev sT (x:bz):=(.box [I x.ae,I x.af,LS (cB aZ) x.aa,LS aZ x.ay] 35 false:br)
abbrev BA (x:bz):=(.box [I (x.aa.length:Int)] 3 false:br)
abbrev Al (x:bz):=(noZ (x.aa.length:Int))
abbrev sS := sl 1 (.ptr 0 0)
theorem D1 (x:bz) (Q:Int -> Prop) (h:xE x Q):Ct 19 [.sv (.agg [I x.ae,I x.af,LS (cB aZ) x.aa,LS aZ x.ay])] [] Q (fun (r:Int)=>.sv (.one (I r))):=by
 have ht:=bA
 refine Ct.body Tryz.func19 rfl rfl rfl rfl (fun c hn=>?_)
 unfold xE at h
 refine bQ 0 2 (by rfl) (by rfl) (fun hl=>?_)
 replace h:=h hl
 clear hl
 refine bQ 0 3 (by rfl) (by rfl) (fun hl=>?_)
 replace h:=h hl
 clear hl
 refine bk hn ?_
 refine bi (bp (bC ht hn 4 ⟨[sS,bG 8 (decide (x.ae < 1))],[sT x]⟩ ?_))
 refine eB ⟨[sS,bG 12 ((decide (x.ae < 1)) || (decide (x.ae > 4)))],[sT x]⟩ ?_ ?_
 refine cz (decide (x.ae < 1)) (fun hb0=>?_) (fun hb0=>?_)
 refine cf 8 hb0 ?_
 refine bC ht hn 4 ⟨[sS,bG 12 true],[sT x]⟩ ?_
 exact bH (sub_ok (by simp only [hb0]; kernel_rfl))
 refine cf 8 hb0 ?_
 refine bC ht hn 4 ⟨[sS,bG 12 (decide (x.ae > 4))],[sT x]⟩ ?_
 exact bH (sub_ok (by simp only [hb0]; kernel_rfl))
 refine bv h (fun h=>?_) (fun h=>?_)
 exact cD hn 2 h
 refine bn (bk hn ?_)
 refine bi (bp (bC ht hn 3 ⟨[sS,bu 3 1 0,bG 18 (decide ((x.aa.length:Int) < 1))],[sT x,BA x]⟩ ?_))
 refine eB ⟨[sS,bu 3 1 0,bG 21 ((decide ((x.aa.length:Int) < 1)) || (decide ((x.aa.length:Int) > 20000)))],[sT x,BA x]⟩ ?_ ?_
 refine cz (decide ((x.aa.length:Int) < 1)) (fun hb0=>?_) (fun hb0=>?_)
 refine cf 18 hb0 ?_
 refine bC ht hn 3 ⟨[sS,bu 3 1 0,bG 21 true],[sT x,BA x]⟩ ?_
 exact bH (sub_ok (by simp only [hb0]; kernel_rfl))
 refine cf 18 hb0 ?_
 refine bC ht hn 3 ⟨[sS,bu 3 1 0,bG 21 (decide ((x.aa.length:Int) > 20000))],[sT x,BA x]⟩ ?_
 exact bH (sub_ok (by simp only [hb0]; kernel_rfl))
 refine bv h (fun h=>?_) (fun h=>?_)
 exact cD hn 1 h
 refine bn (bi ?_)
 obtain ⟨J,h,hJ⟩:=h
 refine bS (σ:=Bool) (fun zz=>J zz) (fun zz=>⟨[sS,bu 3 1 0,bG 32 zz],[sT x,BA x]⟩) ?_ ?_
 refine bI (cN hn 6 ?_)
 refine cz ((x.ay.length:Int) != (x.aa.length:Int)) (fun hb=>?_) (fun hb=>?_)
 replace h:=h.1 hb
 refine cf 27 hb ?_
 refine bM hn ?_
 exact bZ true h
 replace h:=h.2 hb
 refine cf 27 hb ?_
 refine bC ht hn 3 ⟨[sS,bu 3 1 0,bG 27 false,bg 29 (LS (cB aZ) x.aa),bg 30 (.fn 49 [0])],[sT x,BA x]⟩ ?_
 obtain ⟨hp,h⟩:=h
 refine i9 hn (lP [0] (by rfl) (by rfl) (nq 30 (o1 (Mg (fun _=>True) (fun r=>(r.length:Int) != (x).ae))) (by rfl) (gV (M:=[.box [I x.ae,I x.af,LS (cB aZ) x.aa,LS aZ x.ay] 35 true]) (caps:=[0]) (fun x_ _=>K8 x_ x) Nx rfl (by kernel_rfl) (by rfl) (fun _=>rfl)) (BH (vm x.aa (fun _=>True) (fun r=>(r.length:Int) != (x).ae) hp) Mq rfl))) ?_
 refine bM hn ?_
 exact bZ (x.aa.any (fun r=>(r.length:Int) != (x).ae)) h
 intro x32 h
 replace h:=hJ _ h
 refine bv h (fun h=>?_) (fun h=>?_)
 exact cD hn 3 h
 refine bn (bk hn ?_)
 refine bi ?_
 obtain ⟨J_2,h,hJ_2⟩:=h
 refine bS (σ:=Bool) (fun zz=>J_2 zz) (fun zz=>⟨[bG 48 zz],[.gone, .gone, .gone]⟩) ?_ ?_
 refine bI (bC ht hn 3 ⟨[sS,bu 4 2 0,bg 34 (.fn 50 [1]),ba 36 x.af],[sT x,BA x, .box [.fn 50 [1]] 66 false]⟩ ?_)
 refine iu [1] (by rfl) ?_
 refine gX 34 (o1 (fv3 (fun _=>True) (Al x))) (by rfl) (gV (M:=[.box [I (x.aa.length:Int)] 3 true]) (caps:=[1]) (fun x_ _=>Gl x_ (x.aa.length:Int)) Mp rfl (by kernel_rfl) (by rfl) (fun _=>rfl)) ?_
 obtain ⟨hp,h⟩:=h
 refine i9 hn (fG x.af hp rfl (by rfl) (by rfl) (by rfl) (by rfl)) ?_
 refine cN hn 1 ?_
 refine cz ((Al x) x.af) (fun hb=>?_) (fun hb=>?_)
 replace h:=h.1 hb
 refine cf 38 hb ?_
 refine bM hn ?_
 exact bZ true h
 replace h:=h.2 hb
 refine cf 38 hb ?_
 refine bC ht hn 3 ⟨[sS,bG 38 false,bg 40 (LS (cB aZ) x.aa),bg 41 (.fn 51 [2])],[sT x, .box [I (x.aa.length:Int)] 3 true, .box [.fn 50 [1]] 66 false]⟩ ?_
 obtain ⟨hp,h⟩:=h
 refine i9 hn (Ay (fv3 (fun _=>True) (Al x)) 2 0 (by rfl) (by rfl) (AK (gV (M:=[.box [I (x.aa.length:Int)] 3 true]) (caps:=[1]) (fun x_ _=>Gl x_ (x.aa.length:Int)) Mp rfl (by kernel_rfl) (by rfl) (fun _=>rfl))) (lP [2] (by rfl) (by rfl) (nq 41 (o1 (Mg (fun l=>∀ x ∈ l,(fun _=>True) x) (fun l=>l.any (Al x)))) (by rfl) (gV (M:=[.box [fv3 (fun _=>True) (Al x)] 66 true]) (caps:=[2]) (fun x_ hx=>K7 x_ (fun _=>True) (Al x) hx) Nw rfl (by kernel_rfl) (by rfl) (fun _=>rfl)) (BH (vm x.aa (fun l=>∀ x ∈ l,(fun _=>True) x) (fun l=>l.any (Al x)) hp) Mq rfl)))) ?_
 refine cN hn 2 ?_
 refine cz (x.aa.any (fun l=>l.any (Al x))) (fun hb=>?_) (fun hb=>?_)
 replace h:=h.1 hb
 refine cf 44 hb ?_
 refine bM hn ?_
 exact bZ true h
 replace h:=h.2 hb
 refine cf 44 hb ?_
 refine cN hn 2 ?_
 obtain ⟨hp,h⟩:=h
 refine fK hn (cL (Ct.args (og x.ay (fun _=>True) (fun m=>(decide (m < 0)) || (decide (m > 9))) hp) (jn (vk (uV (ins:=(fun (x_:Int)=>[bq x_])) (out:=(fun (r:Bool)=>.sv (.one (B r)))) (dom:=(fun _=>True)) (φ:=(fun m=>(decide (m < 0)) || (decide (m > 9)))) (fun x_ _=>K6 x_) Nv) sg))) Ka rfl) ?_
 refine bM hn ?_
 exact bZ (x.ay.any (fun m=>(decide (m < 0)) || (decide (m > 9)))) h
 intro x48 h
 replace h:=hJ_2 _ h
 refine bv h (fun h=>?_) (fun h=>?_)
 exact cD hn 2 h
 exact bn (cD hn 0 h)
theorem NQ : ∀ args w,(callFunc 19 args).run Tryz.prog w=.ok (.enter 19 args) w:=enters_of Tryz.func19 (by kernel_rfl) rfl
theorem IH (x:bz) (hp:kD x)  : Ct 19 [.sv (.agg [I x.ae,I x.af,LS (cB aZ) x.aa,LS aZ x.ay])] [] (fun (_:Unit)=>True) (fun _=>.sv (.one (I (B0 x)))):=by
 refine (D1 x (fun res_=>res_=(B0 x)) ?_).fun
 unfold xE B0
 intro _ _
 have h1:=hp.letters
 have h2:=hp.size
 have h3:=hp.marks
 have no:∀ n q:Int,0 <= q /\ q < n -> noZ n q=false:=fun n q hq=>by
  unfold noZ
  simp only [jT,decide_eq_false_iff_not]
  omega
 refine ⟨fun h=>?_,fun _=>⟨fun h=>?_,fun _=>⟨fun b=>b=false,⟨fun h=>?_,fun _=>⟨fun _ _=>trivial,?_⟩⟩,?_⟩⟩⟩
 ·simp only [fc,fu] at h
  omega
 ·simp only [fc,fu] at h
  omega
 ·have:(x.ay.length:Int) ≠ (x.aa.length:Int):=by simpa using h
  omega
 ·refine oL.2 fun r hr=>?_
  have:=hp.rows r hr
  simpa using this
 ·rintro _ rfl
  refine ⟨fun h=>(by cases h),fun _=>⟨fun b=>b=false,⟨trivial,fun h=>?_,fun _=>⟨fun _ _ _ _=>trivial,fun h=>?_,fun _=>⟨fun _ _=>trivial,?_⟩⟩⟩,?_⟩⟩
  ·rw [no _ _ hp.start] at h
   cases h
  ·obtain ⟨r,hr,h⟩:=jH.1 h
   obtain ⟨q,hq,h⟩:=jH.1 h
   rw [no _ _ (hp.in_ r hr q hq)] at h
   cases h
  ·refine oL.2 fun m hm=>?_
   have:=hp.mark m hm
   simp only [fc,fu]
   omega
  ·rintro _ rfl
   exact ⟨fun h=>(by cases h),fun _=>rfl⟩
def su (f:Nat -> Int) (m:Int):Prop:=(∃ N,∀ t,N <= t -> m <= f t) /\ ∀ N,∃ t,N <= t /\ f t=m
def stZ (d:bz) (w:Nat -> Int):Nat -> Int
 | 0=>d.af
 | t + 1=>jx d (stZ d w t) (w t)
def mkZ (d:bz) (w:Nat -> Int) (t:Nat):Int:=d.ay.getD (stZ d w (t + 1)).toNat 0
theorem t9 {d:bz} (h:kD d) {w:Nat -> Int} (hw:∀ t,0 <= w t /\ w t < d.ae):∀ t,InZ d (stZ d w t)
 | 0=>h.start
 | t + 1=>(lC h (t9 h hw t) (hw t)).2.2
theorem BJ {d:bz} (h:kD d) {w:Nat -> Int} (hw:∀ t,0 <= w t /\ w t < d.ae) (t:Nat):cq d.ay (stZ d w (t + 1))=some (mkZ d w t) /\ 0 <= mkZ d w t /\ mkZ d w t <= 9:=by
 obtain ⟨h0,h1⟩:=t9 h hw (t + 1)
 have hl:=h.marks
 have hm:=dx (l:=d.ay) (i:=(stZ d w (t + 1)).toNat) (z:=0) (by omega)
 exact ⟨yG 0 h0 (by omega),h.mark _ hm⟩
theorem CD {d:bz} {w:Nat -> Int} {t:Nat}:∀ {u:List Int},(∀ i (hi:i < u.length),w (t + i)=u[i]) -> stZ d w (t + u.length)=lX d (stZ d w t) u:=by
 intro u
 have key:∀ k,k <= u.length -> (∀ i (hi:i < u.length),w (t + i)=u[i]) -> stZ d w (t + k)=lX d (stZ d w t) (u.take k):=by
  intro k
  induction k with
  | zero=>intro _ _; rfl
  | succ k ih =>
   intro hk hu
   rw [ia,cO (show k < u.length from hk)]
   unfold lX
   rw [nQ]
   show jx d (stZ d w (t + k)) (w (t + k))=jx d _ u[k]
   rw [ih (by omega) hu,hu k hk]
   rfl
 intro hu
 have:=key u.length (bP _) hu
 rwa [kH] at this
section
variable {l:bt} {n:Int} (h:oJ n l)
include h
theorem uM : (gB l).length=l.aG.length + l.aD.length:=di
theorem yi : ∀ t,t <= l.aG.length -> d8 l t=t
 | 0,_=>rfl
 | t + 1,ht=>by
  have:=h.pos
  have hl:=uM h
  rw [d8,yi t (by omega),lm,if_neg (by omega)]
theorem yj : ∀ k i,i < l.aD.length -> d8 l (l.aG.length + k * l.aD.length + i)=l.aG.length + i:=by
 have hl:=uM h
 have hp:=h.pos
 have one:∀ t,d8 l t=l.aG.length -> ∀ i,i < l.aD.length -> d8 l (t + i)=l.aG.length + i:=fun t ht i=>by
  induction i with
  | zero=>intro _; exact ht
  | succ i ih =>
   intro hi
   show lm l (d8 l (t + i))=_
   rw [ih (by omega),lm,if_neg (by omega)]
   omega
 have base:∀ k,d8 l (l.aG.length + k * l.aD.length)=l.aG.length:=fun k=>by
  induction k with
  | zero=>rw [Nat.zero_mul,eG]; exact yi h _ (bP _)
  | succ k ih =>
   have:=one _ ih (l.aD.length - 1) (by omega)
   rw [show l.aG.length + (k + 1) * l.aD.length=l.aG.length + k * l.aD.length + (l.aD.length - 1) + 1 by rw [fk]; omega,d8,this,lm,if_pos (by omega)]
 exact fun k i hi=>one _ (base k) i hi
theorem yA (t:Nat):0 <= d3 l t /\ d3 l t < n:=by
 have hl:=nV h t
 unfold d3
 rw [eS hl]
 rcases gO.1 (dK hl) with c | c
 ·exact h.head _ c
 ·exact h.loop _ c
theorem E4 {i:Nat} (hi:i < l.aG.length):d3 l (0 + i)=l.aG[i]:=by
 rw [gt]
 unfold d3
 rw [yi h i (by omega)]
 unfold gB
 rw [eD hi,eS hi]
theorem n5 (k:Nat) {i:Nat} (hi:i < l.aD.length):d3 l (l.aG.length + k * l.aD.length + i)=l.aD[i]:=by
 unfold d3
 rw [yj h k i hi,eS (by rw [uM h]; omega)]
 unfold gB
 rw [List.getElem_append_right (by omega)]
 congr 1
 omega
end
def LM (f:Nat -> Int) (t0 d:Nat) (m:Int):Prop:=(m=10 \/ ∃ t,t0 <= t /\ t < t0 + d /\ f t=m) /\ ∀ t,t0 <= t -> t < t0 + d -> m <= f t
theorem LM.next {f:Nat -> Int} {t0 d:Nat} {m:Int} (h:LM f t0 d m):LM f t0 (d + 1) (if f (t0 + d) < m then f (t0 + d) else m):=by
 split
 ·rename_i c
  refine ⟨.inr ⟨t0 + d,by omega,by omega,rfl⟩,fun t h1 h2=>?_⟩
  rcases dA t (t0 + d) with e | e
  ·have:=h.2 t h1 e
   omega
  ·rw [show t=t0 + d by omega]
   exact eN _
 ·rename_i c
  refine ⟨h.1.imp id fun ⟨t,a,b,e⟩=>⟨t,a,by omega,e⟩,fun t h1 h2=>?_⟩
  rcases dA t (t0 + d) with e | e
  ·exact h.2 t h1 e
  ·rw [show t=t0 + d by omega]
   omega
theorem LM.least {f:Nat -> Int} {t0 d:Nat} {m:Int} (h:LM f t0 d m) (hd:0 < d) (hf:∀ t,f t <= 9) (hp:∀ t,t0 <= t -> f (t + d)=f t):su f m:=by
 have pk:∀ k t,t0 <= t -> f (t + k * d)=f t:=fun k=>by
  induction k with
  | zero=>intro t _; rw [Nat.zero_mul,eG]
  | succ k ih =>
   intro t ht
   rw [show t + (k + 1) * d=t + k * d + d by rw [fk]; omega,hp _ (by omega),ih t ht]
 refine ⟨⟨t0,fun t ht=>?_⟩,fun N=>?_⟩
 ·have:=pk ((t - t0) / d) (t0 + (t - t0) % d) (by omega)
  have hdm:=mR (t - t0) d
  rw [Nat.mul_comm] at hdm
  rw [show t0 + (t - t0) % d + (t - t0) / d * d=t by omega] at this
  rw [this]
  exact h.2 _ (by omega) (by have:=km (t - t0) hd; omega)
 ·rcases h.1 with e | ⟨t,a,b,e⟩
  ·have:=h.2 t0 (bP _) (by omega)
   have:=hf t0
   omega
  ·refine ⟨t + N * d,?_,by rw [pk N t a]; exact e⟩
   have:=py N (show 1 <= d from hd)
   omega
def H1 (d:bz) (l:bt) (r:Bool × Int):Prop:=r.2=nr d.ae l /\ (r.2=0 -> ∃ m,0 <= m /\ su (mkZ d (d3 l)) m /\ (r.1=true ↔ m % 2=0))
def xu (a:bd) (d:bz) (Q:bF -> Prop):Prop:=
 a.af.length <= 9223372036854775807 ->
 a.ar.length <= 9223372036854775807 ->
 a.av.length <= 9223372036854775807 ->
 d.aa.length <= 9223372036854775807 ->
 d.ay.length <= 9223372036854775807 ->
 (jM (wr (a.ac * (d.aa.length:Int))) (wr (a.ac * (d.aa.length:Int))) 24 /\
 ∃ (Inv:Int -> (List (List cm)) -> Prop) (mu:Int -> (List (List cm)) -> Nat),Inv 0 (List.replicate ((wr (a.ac * (d.aa.length:Int)))).toNat ([]:List cm)) /\
 ∀ x24 g2,Inv x24 g2 -> (cv (decide (x24 < (d.aa.length:Int))) (∃ (Inv_2:Int -> (List (List cm)) -> Prop) (mu_2:Int -> (List (List cm)) -> Nat),Inv_2 0 g2 /\
 ∀ x30 g2_2,Inv_2 x30 g2_2 -> (cv (decide (x30 < (a.ar.length:Int))) (∃ e,cq a.ar x30=some e /\
 ∃ e_2,cq g2_2 (wr ((wr (x24 * a.ac)) + e.am))=some e_2 /\
 ∃ e_3,cq g2_2 (wr ((wr (x24 * a.ac)) + e.am))=some e_3 /\
 ∃ e_4,cq d.aa x24=some e_4 /\
 ∃ e_5,cq e_4 e.az=some e_5 /\
 ed e_2.length ([(cm.mk (wr ((wr (e_5 * a.ac)) + e.aA)) e.az)]:List cm).length 16 /\
 ∃ e_6,cq g2_2 (wr ((wr (x24 * a.ac)) + e.am))=some e_6 /\
 (Inv_2 (wr (x30 + 1)) (g2_2.set ((wr ((wr (x24 * a.ac)) + e.am))).toNat (e_2 ++ ([(cm.mk (wr ((wr (e_5 * a.ac)) + e.aA)) e.az)]:List cm))) /\ mu_2 (wr (x30 + 1)) (g2_2.set ((wr ((wr (x24 * a.ac)) + e.am))).toNat (e_2 ++ ([(cm.mk (wr ((wr (e_5 * a.ac)) + e.aA)) e.az)]:List cm))) < mu_2 x30 g2_2)) ((Inv (wr (x24 + 1)) g2_2 /\ mu (wr (x24 + 1)) g2_2 < mu x24 g2)))) (Q (bF.mk a d g2))))
abbrev yd (a:bd) (d:bz):=(.box [I a.ae,I a.ac,LS aZ a.af,LS aY.ty a.ar,LS aZ a.av,I d.ae,I d.af,LS (cB aZ) d.aa,LS aZ d.ay, .gs 2 0] 89 false:br)
abbrev GO (d:bz) (a:bd) (y0) (y1):=([bg 2 (.ptr 0 0),bg 3 (.ptr 1 0),bg 5 (.ptr 3 0),bg 6 (I y0),bg 23 (I (d.aa.length:Int)),bg 24 (I y0),bg 28 (LS aY.ty a.ar),bg 29 (I (a.ar.length:Int)),bg 30 (I y1)]:List (Nat × SC))
abbrev Ak (d:bz):=(.box [I d.ae,I d.af,LS (cB aZ) d.aa,LS aZ d.ay] 35 false:br)
abbrev jz (a:bd) (y0:Int):=(wr (y0 * a.ac))
abbrev GN (a:bd) (d:bz):=(wr (a.ac * (d.aa.length:Int)))
abbrev rH (a:bd) (y0:Int):=(wr (y0 * a.ac))
theorem DR (a:bd) (d:bz) (Q:bF -> Prop) (h:xu a d Q):Ct 12 [.sv (.agg [I a.ae,I a.ac,LS aZ a.af,LS aY.ty a.ar,LS aZ a.av]), .sv (.agg [I d.ae,I d.af,LS (cB aZ) d.aa,LS aZ d.ay])] [] Q (fun (r:bF)=>.sv (.one (.pe (eu (.agg [I r.au.ae,I r.au.ac,LS aZ r.au.af,LS aY.ty r.au.ar,LS aZ r.au.av,I r.aB.ae,I r.aB.af,LS (cB aZ) r.aB.aa,LS aZ r.aB.ay,LS (cB cm.ty) r.aa])) 10))):=by
 have ht:=bA
 refine Ct.body Tryz.func12 rfl rfl rfl rfl (fun c hn=>?_)
 unfold xu at h
 refine bQ 0 2 (by rfl) (by rfl) (fun hl=>?_)
 replace h:=h hl
 clear hl
 refine bQ 0 3 (by rfl) (by rfl) (fun hl=>?_)
 replace h:=h hl
 clear hl
 refine bQ 0 4 (by rfl) (by rfl) (fun hl=>?_)
 replace h:=h hl
 clear hl
 refine bQ 1 2 (by rfl) (by rfl) (fun hl=>?_)
 replace h:=h hl
 clear hl
 refine bQ 1 3 (by rfl) (by rfl) (fun hl=>?_)
 replace h:=h hl
 clear hl
 refine bk hn ?_
 refine bi ?_
 obtain ⟨hp_2,h⟩:=h
 refine da ⟨[bu 2 0 0,bu 3 1 0],[.sv (.agg (bd.cl a)), .sv (.agg [I d.ae,I d.af,LS (cB aZ) d.aa,LS aZ d.ay]),cQ 0 1,bq a.ac,cQ 1 2,o1 (LS (cB aZ) d.aa),bq (d.aa.length:Int),bq (GN a d),o1 (.gs 2 0), .sv (.agg [I a.ae,I a.ac,LS aZ a.af,LS aY.ty a.ar,LS aZ a.av,I d.ae,I d.af,LS (cB aZ) d.aa,LS aZ d.ay, .gs 2 0]),cQ 3 0,cQ 3 0],[bU (.box (bd.cl a) 25 false),bU (Ak d),⟨fZ 90 91 cm.ty (List.replicate (GN a d).toNat ([]:List cm)),some 8,none,none⟩,⟨(yd a d),some 10,none,none⟩]⟩ hn ?_ ?_
 exact ⟨.e,
 .e,
 .e,
 .e,
 .e,
 .e,
 .e,
 .e,
 .mt ⟨[ba 17 (GN a d)],[]⟩ [] (some 2) (by kernel_rfl) (by rfl) (Ax cm.ty 91 (zv:=.slice none 0 0) 2 (l:=(GN a d)) (cp:=(GN a d)) ht rfl (by rfl) (by rfl) (by rfl) (by rfl) (by rfl) (by rfl) hp_2.1 hp_2.2.1 hp_2.2.2 (hp_2.le (by decide)) rfl rfl) rfl rfl rfl rfl,
 .e,
 .mt ⟨[(19, .sv (.agg [I a.ae,I a.ac,LS aZ a.af,LS aY.ty a.ar,LS aZ a.av,I d.ae,I d.af,LS (cB aZ) d.aa,LS aZ d.ay, .gs 2 0]))],[]⟩ [] (some 3) (by kernel_rfl) (by rfl) (Ha (s:=.agg [I a.ae,I a.ac,LS aZ a.af,LS aY.ty a.ar,LS aZ a.av,I d.ae,I d.af,LS (cB aZ) d.aa,LS aZ d.ay, .gs 2 0]) 3 rfl (by rfl) (fun h=>by cases h) (by rfl)) rfl rfl rfl rfl,
 .e,
 trivial⟩
 refine bi (bk hn ?_)
 refine bj (dV h (fun zz=>⟨[bu 2 0 0,bu 3 1 0,bu 5 3 0,ba 23 (d.aa.length:Int),ba 24 zz.1],[.box (bd.cl a) 25 false,Ak d,fZ 90 91 cm.ty zz.2,yd a d]⟩) fun Inv mu x24 g2 h=>?_)
 refine bk hn ?_
 refine bi (bv h (fun h=>?_) (fun h=>?_))
 refine bn (bi (bj (bk hn ?_)))
 refine bk hn ?_
 refine bj (dV h (fun zz=>⟨[bu 2 0 0,bu 3 1 0,bu 5 3 0,ba 6 x24,ba 23 (d.aa.length:Int),ba 24 x24,bg 28 (LS aY.ty a.ar),ba 29 (a.ar.length:Int),ba 30 zz.1],[.box (bd.cl a) 25 false,Ak d,fZ 90 91 cm.ty zz.2,yd a d]⟩) fun Inv_2 mu_2 x30 g2_2 h=>?_)
 refine bk hn ?_
 refine bi (bv h (fun h=>?_) (fun h=>?_))
 refine bn (bi (bj (bp ?_)))
 obtain ⟨e,he,h⟩:=h
 refine bT hn (iX (T:=aY.ty) rfl he) ?_
 refine bT hn (lD (s:=.agg (aY.cl e)) rfl) ?_
 refine bM hn ?_
 refine bp (cw ht hn 8 ⟨bu 8 4 0 :: ba 9 (wr ((jz a x24) + e.am)) :: (GO d a x24 x30),[.box (bd.cl a) 25 false,Ak d,fZ 90 91 cm.ty g2_2,yd a d, .box (aY.cl e) 29 false]⟩ ?_)
 obtain ⟨e_2,he_2,h⟩:=h
 refine xk (T:=cm.ty) (L:=g2_2) (l:=e_2) (i:=2) (p:=(wr ((jz a x24) + e.am)).toNat) (j:=5) (by rfl) (bs he_2).2.2 (by rfl) (by rfl) ?_
 refine mI ⟨bu 8 4 0 :: ba 9 (wr ((jz a x24) + e.am)) :: (GO d a x24 x30),[.box (bd.cl a) 25 false,Ak d,kO 90 91 cm.ty g2_2 (wr ((jz a x24) + e.am)).toNat (some ((wr ((jz a x24) + e.am)).toNat,5)),yd a d, .box (aY.cl e) 29 false,bf 91 cm.ty e_2]⟩ (by kernel_rfl) ?_
 obtain ⟨e_3,he_3,h⟩:=h
 obtain ⟨e_4,he_4,h⟩:=h
 obtain ⟨e_5,he_5,h⟩:=h
 obtain ⟨hp_3,h⟩:=h
 refine dt ⟨bu 8 4 0 :: ba 9 (wr ((jz a x24) + e.am)) :: (GO d a x24 x30),[cQ 3 0,cQ 3 0,cQ 3 9,o1 (.gs 2 0),bq (wr ((jz a x24) + e.am)),cQ 3 0,cQ 3 0,cQ 3 9,o1 (.gs 2 0),bq (wr ((jz a x24) + e.am)),o1 (.ge 2 0 (wr ((jz a x24) + e.am)).toNat 1),cu 5,cQ 1 2,o1 (LS (cB aZ) d.aa),bq x24,o1 (.pe (eu (.one (LS aZ e_4))) 1),o1 (LS aZ e_4),cQ 4 1,bq e.az,o1 (.pe (eu (.one (I e_5))) 1),bq e_5,cQ 0 1,bq a.ac,bq (rH a e_5),cQ 4 2,bq e.aA,bq (wr ((rH a e_5) + e.aA)),cQ 4 1,bq e.az, .sv (.agg [I (wr ((rH a e_5) + e.aA)),I e.az]),o1 (LS cm.ty ([cm.mk (wr ((rH a e_5) + e.aA)) e.az]:List cm)),cu 6],[bU (.box (bd.cl a) 25 false),bU (Ak d),bU (kO 90 91 cm.ty g2_2 (wr ((jz a x24) + e.am)).toNat (some ((wr ((jz a x24) + e.am)).toNat,5))),bU (yd a d),bU (.box (aY.cl e) 29 false),⟨bf 91 cm.ty e_2,none,some 31,none⟩,⟨bf 91 cm.ty (e_2 ++ ([cm.mk (wr ((rH a e_5) + e.aA)) e.az]:List cm)),some 31,none,none⟩]⟩ 32 ⟨sl 44 (.gs 2 0) :: ba 45 (wr ((jz a x24) + e.am)) :: bx 72 6 :: (GO d a x24 x30),[.box (bd.cl a) 25 false,Ak d,kO 90 91 cm.ty g2_2 (wr ((jz a x24) + e.am)).toNat (some ((wr ((jz a x24) + e.am)).toNat,5)),yd a d, .gone, .gone,bf 91 cm.ty (e_2 ++ ([cm.mk (wr ((rH a e_5) + e.aA)) e.az]:List cm))]⟩ (by kernel_rfl) hn (by kernel_rfl) (by kernel_rfl) (by kernel_rfl) (by rfl) (by kernel_rfl) ?_ (by kernel_rfl) ?_
 exact ⟨.e,
 .e,
 .e,
 .e,
 .e,
 .e,
 .e,
 .e,
 .e,
 .e,
 .vl ⟨[bg 49 (.gs 2 0),ba 50 (wr ((jz a x24) + e.am))],[.gone, .gone,kO 90 91 cm.ty g2_2 (wr ((jz a x24) + e.am)).toNat (some ((wr ((jz a x24) + e.am)).toNat,5))]⟩ (bX (kI (T:=cm.ty) (L:=g2_2) (k:=(wr ((jz a x24) + e.am))) ht rfl (by rfl) (by rfl) (by rfl) (by rfl) (by rfl) (by rfl) (by rfl) ⟨(bs he_3).1,(bs he_3).2.1⟩)),
 .vl ⟨[bg 51 (.ge 2 0 (wr ((jz a x24) + e.am)).toNat 1)],[.gone, .gone,kO 90 91 cm.ty g2_2 (wr ((jz a x24) + e.am)).toNat (some ((wr ((jz a x24) + e.am)).toNat,5))]⟩ (bX (tY (T:=cm.ty) (L:=g2_2) (p:=(wr ((jz a x24) + e.am)).toNat) (j:=5) ht rfl (by rfl) (by rfl) (by rfl) (by rfl))),
 .e,
 .e,
 .e,
 .v (bX (iX (T:=(cB aZ)) rfl he_4)),
 .v (bX (lD (s:=.one (LS aZ e_4)) rfl)),
 .e,
 .e,
 .v (bX (iX (T:=aZ) rfl he_5)),
 .v (bX (lD (s:=.one (I e_5)) rfl)),
 .e,
 .e,
 .e,
 .e,
 .e,
 .e,
 .e,
 .e,
 .e,
 .mt ⟨[(70, .sv (.agg [I (wr ((rH a e_5) + e.aA)),I e.az]))],[]⟩ [] none (by kernel_rfl) (by rfl) (jV (q:=6) (e:=91) (lI (T:=cm.ty) ([cm.mk (wr ((rH a e_5) + e.aA)) e.az]:List cm) 6 rfl)) rfl rfl rfl rfl,
 .mt ⟨[bx 52 5,bg 71 (LS cm.ty ([cm.mk (wr ((rH a e_5) + e.aA)) e.az]:List cm))],[.gone, .gone, .gone, .gone, .gone,bf 91 cm.ty e_2]⟩ [5] (some 6) (by kernel_rfl) (by rfl) (aP (T:=cm.ty) (l:=e_2) (es:=([cm.mk (wr ((rH a e_5) + e.aA)) e.az]:List cm)) (p:=6) rfl hp_3) rfl rfl rfl rfl,
 trivial⟩
 obtain ⟨e_6,he_6,h⟩:=h
 refine fe hn (kI (T:=cm.ty) (L:=g2_2) (k:=(wr ((jz a x24) + e.am))) ht rfl (by rfl) (by rfl) (by rfl) (by rfl) (by rfl) (by rfl) (by rfl) ⟨(bs he_6).1,(bs he_6).2.1⟩) ?_
 refine A7 (T:=cm.ty) (L:=g2_2) (l:=(e_2 ++ ([cm.mk (wr ((rH a e_5) + e.aA)) e.az]:List cm))) ht hn (by rfl) rfl (by rfl) (by rfl) (by rfl) (by rfl) (by rfl) (by rfl) (dd he_6) (by rfl) (by rfl) ?_
 refine H3 ⟨sl 44 (.gs 2 0) :: ba 45 (wr ((jz a x24) + e.am)) :: (GO d a x24 x30),[.box (bd.cl a) 25 false,Ak d,fZ 90 91 cm.ty (g2_2.set (wr ((jz a x24) + e.am)).toNat (e_2 ++ ([cm.mk (wr ((rH a e_5) + e.aA)) e.az]:List cm))),yd a d, .gone, .gone, .gone]⟩ (by kernel_rfl) ?_
 exact bH (cn hn ((wr (x30 + 1)),(g2_2.set (wr ((jz a x24) + e.am)).toNat (e_2 ++ ([cm.mk (wr ((rH a e_5) + e.aA)) e.az]:List cm)))) h)
 exact bD rfl (cn hn ((wr (x24 + 1)),g2_2) h)
 refine bD rfl (bp (cw ht hn 2 ⟨[bu 4 3 0],[.gone, .gone,fZ 90 91 cm.ty g2,yd a d]⟩ ?_))
 refine cT (Ip (T:=cm.ty) (L':=g2) 2 (by rfl) ?_)
 refine iz [3] (by rfl) ?_
 refine Bc 4 (o1 (.pe (eu (.agg [I a.ae,I a.ac,LS aZ a.af,LS aY.ty a.ar,LS aZ a.av,I d.ae,I d.af,LS (cB aZ) d.aa,LS aZ d.ay,LS (cB cm.ty) g2])) 10)) (by rfl) (CV (i:=3) (cells:=[I a.ae,I a.ac,LS aZ a.af,LS aY.ty a.ar,LS aZ a.av,I d.ae,I d.af,LS (cB aZ) d.aa,LS aZ d.ay,LS (cB cm.ty) g2]) (by rfl) (by rfl) (by rfl)) ?_
 exact eW ht (bF.mk a d g2) h (by kernel_rfl) rfl
theorem NU : ∀ args w,(callFunc 12 args).run Tryz.prog w=.ok (.enter 12 args) w:=enters_of Tryz.func12 (by kernel_rfl) rfl
structure so (a:bd) (d:bz) (S i k:Nat) (nx:List (List cm)):Prop where
 len:nx.length=S * d.aa.length
 mem:∀ (x:Nat) (y c:Int),cm.mk y c ∈ gx nx x -> ∃ (j:Nat) (s:aY),j < d.aa.length /\ s ∈ a.ar /\ x=j * S + s.am.toNat /\ y=jx d j s.az * S + s.aA /\ c=s.az
 few:∀ x,(gx nx x).length <= i * 40000 + k
structure FO (a:bd) (d:bz) (p:bF):Prop where
 a_:p.au=a
 d_:p.aB=d
 pi:so a d a.ac.toNat d.aa.length 0 p.aa
def ja (p:bF) (x y c:Int):Prop:=∃ row,cq p.aa x=some row /\ cm.mk y c ∈ row
inductive PWk (p:bF) (may:Int -> Bool) (x:Int):List Int -> Int -> Prop where
 | one {y c:Int}:ja p x y c -> may y=true -> PWk p may x [c] y
 | step {w:List Int} {y z c:Int}:PWk p may x w y -> ja p y z c -> may z=true -> PWk p may x (w ++ [c]) z
theorem PWk.cons {p:bF} {may:Int -> Bool} {x y:Int} {c:Int} (h1:ja p x y c) (h2:may y=true) {w:List Int} {z:Int} (h:PWk p may y w z):PWk p may x (c :: w) z:=by
 induction h with
 | one a b=>exact .step (.one h1 h2) a b
 | step _ a b ih=>exact .step ih a b
structure hY (p:bF) (from_:List Int) (dommay domok:Int -> Prop):Prop where
 len:p.aa.length <= 1000000
 next:∀ row ∈ p.aa,∀ e ∈ row,0 <= e.aj /\ e.aj < (p.aa.length:Int)
 rows:∀ row ∈ p.aa,row.length <= 1000000000
 frm:∀ q ∈ from_,0 <= q /\ q < (p.aa.length:Int)
 few:from_.length <= 1000000
 dm:∀ q,0 <= q /\ q < (p.aa.length:Int) -> dommay q /\ domok q
def oI (p:bF) (from_:List Int) (may ok:Int -> Bool) (r:List Int × Int × Bool):Prop:=(r.2.2=true -> ∃ f ∈ from_,PWk p may f r.1 r.2.1 /\ ok r.2.1=true) /\ (r.2.2=false -> ∀ f ∈ from_,∀ w y,PWk p may f w y -> ok y=false) /\ r.1.length <= 4000000
theorem ixG {X:Type} [Inhabited X] {m:List X} {k:Nat} (h:k < m.length):cq m (k:Int)=some (gx m k):=by
 have:=bB (R:=m) (i:=(k:Int)) (by omega) (by omega)
 exact this
theorem Dh {X:Type} {l:List X} {i:Int} {x:X} (h:cq l i=some x):x ∈ l:=dC (bs h).2.2
theorem ja.in_ {p:bF} (h:∀ row ∈ p.aa,∀ e ∈ row,0 <= e.aj /\ e.aj < (p.aa.length:Int)) {x y c:Int} (hs:ja p x y c):0 <= y /\ y < (p.aa.length:Int):=by
 obtain ⟨row,h1,h2⟩:=hs
 exact h row (Dh h1) _ h2
theorem so.start {a:bd} {d:bz} {S:Nat}:so a d S 0 0 (List.replicate (S * d.aa.length) []):=by
 have e:∀ x,gx (List.replicate (S * d.aa.length) ([]:List cm)) x=[]:=fun x=>by
  unfold gx
  rw [er,mh]
  split <;> rfl
 refine ⟨jb,fun x y c h=>?_,fun x=>by rw [e]; exact cy _⟩
 rw [e] at h
 cases h
theorem so.next {a:bd} {d:bz} {S i:Nat} {nx:List (List cm)} (hf:a.ar.length <= 40000) (h:so a d S i a.ar.length nx):so a d S (i + 1) 0 nx:=⟨h.len,h.mem,fun x=>by have:=h.few x; rw [fk]; omega⟩
theorem so.put {a:bd} {d:bz} {S i k:Nat} {nx:List (List cm)} {s:aY} (h:so a d S i k nx) (hi:i < d.aa.length) (hs:s ∈ a.ar) (hp:i * S + s.am.toNat < nx.length):so a d S i (k + 1) (nx.set (i * S + s.am.toNat) (gx nx (i * S + s.am.toNat) ++ [⟨jx d i s.az * S + s.aA,s.az⟩])):=by
 refine ⟨by rw [cK]; exact h.len,fun x y c hm=>?_,fun x=>?_⟩ <;> rw [fS hp] at *
 ·split at hm
  ·rename_i e
   rcases gO.1 hm with hm | hm
   ·rw [e]
    exact h.mem _ _ _ hm
   ·have:=et.1 hm
    cases this
    exact ⟨i,s,hi,hs,e,rfl,rfl⟩
  ·exact h.mem _ _ _ hm
 ·have h1:=h.few x
  have h2:=h.few (i * S + s.am.toNat)
  split
  ·rw [di]
   simp only [dq,dI]
   omega
  ·omega
structure Bb (p:bF) (from_:List Int) (may ok:Int -> Bool) (i:Nat) (l:List bw) (s:List Bool):Prop where
 len:s.length=p.aa.length
 le:i <= l.length
 way:∀ j,j < l.length -> (0 <= (gx l j).aJ /\ (gx l j).aJ < (p.aa.length:Int)) /\ (((gx l j).aK = -1 /\ (gx l j).aJ ∈ from_) \/ (0 <= (gx l j).aK /\ (gx l j).aK < (j:Int) /\ ja p (gx l (gx l j).aK.toNat).aJ (gx l j).aJ (gx l j).az /\ may (gx l j).aJ=true /\ ok (gx l j).aJ=false))
 first:∀ f ∈ from_,∃ j,j < l.length /\ (gx l j).aJ=f
 seen:∀ y:Nat,gx s y=true -> ∃ j,j < l.length /\ (gx l j).aJ=(y:Int) /\ 0 <= (gx l j).aK
 done:∀ j,j < i -> ∀ y c,ja p (gx l j).aJ y c -> may y=true -> gx s y.toNat=true
 few:l.length + s.count false=from_.length + p.aa.length
theorem Bb.push {p:bF} {from_:List Int} {may ok:Int -> Bool} {i:Nat} {l:List bw} {s:List Bool} (h:Bb p from_ may ok i l s) (hi:i < l.length) {y c:Int} (hy:0 <= y /\ y < (p.aa.length:Int)) (hs:ja p (gx l i).aJ y c) (hm:may y=true) (hk:ok y=false) (hn:gx s y.toNat=false):Bb p from_ may ok i (l ++ [⟨y,(i:Int),c⟩]) (s.set y.toNat true):=by
 have hsl:=h.len
 have hlen:(l ++ [(⟨y,(i:Int),c⟩:bw)]).length=l.length + 1:=by rw [di]; rfl
 refine ⟨by rw [cK]; exact h.len,by rw [hlen]; have:=h.le; omega,fun j hj=>?_,fun f hf=>?_,fun z hz=>?_,fun j hj z d hst hmz=>?_,?_⟩
 ·rw [hlen] at hj
  rcases cU.1 hj with e | rfl
  ·rw [eD e]
   obtain ⟨a,b⟩:=h.way j e
   refine ⟨a,b.imp id fun ⟨b1,b2,b3,b4⟩=>⟨b1,b2,?_,b4⟩⟩
   rw [eD (by omega)]
   exact b3
  ·rw [jj]
   refine ⟨hy, .inr ⟨by show 0 <= (i:Int); omega,by show (i:Int) < _; omega,?_,hm,hk⟩⟩
   show ja p (gx (l ++ [(⟨y,(i:Int),c⟩:bw)]) (i:Int).toNat).aJ y c
   rw [bE,eD hi]
   exact hs
 ·obtain ⟨j,j1,j2⟩:=h.first f hf
  exact ⟨j,by omega,by rw [eD j1]; exact j2⟩
 ·rw [fS (by omega)] at hz
  split at hz
  ·rename_i e
   exact ⟨l.length,by omega,by rw [jj]; show y=_; omega,by rw [jj]; show 0 <= (i:Int); omega⟩
  ·obtain ⟨j,j1,j2⟩:=h.seen z hz
   exact ⟨j,by omega,by rw [eD j1]; exact j2⟩
 ·have hle:=h.le
  rw [eD (by omega)] at hst
  rw [fS (by omega)]
  split
  ·rfl
  ·exact h.done j hj z d hst hmz
 ·have:=va (m:=s) (k:=y.toNat) (by omega) hn
  have:=h.few
  omega
theorem Bb.back {p:bF} {from_:List Int} {may ok:Int -> Bool} {l:List bw} {s:List Bool} (h:Bb p from_ may ok l.length l s) (hin:∀ row ∈ p.aa,∀ e ∈ row,0 <= e.aj /\ e.aj < (p.aa.length:Int)) {f:Int} (hf:f ∈ from_) {w:List Int} {y:Int} (hw:PWk p may f w y):∃ j,j < l.length /\ (gx l j).aJ=y /\ 0 <= (gx l j).aK:=by
 have go:∀ j,j < l.length -> ∀ y c,ja p (gx l j).aJ y c -> may y=true -> ∃ j,j < l.length /\ (gx l j).aJ=y /\ 0 <= (gx l j).aK:=fun j hj y c hs hm=>by
  have hy:=hs.in_ hin
  obtain ⟨k,k1,k2,k3⟩:=h.seen y.toNat (h.done j hj y c hs hm)
  exact ⟨k,k1,by omega,k3⟩
 induction hw with
 | one a b =>
  obtain ⟨j,j1,j2⟩:=h.first f hf
  exact go j j1 _ _ (by rw [j2]; exact a) b
 | step _ a b ih =>
  obtain ⟨j,j1,j2,_⟩:=ih
  exact go j j1 _ _ (by rw [j2]; exact a) b
theorem Iz (a:bd) (d:bz) (hp:gr a /\ kD d /\ d.ae=a.ae)  : Ct 12 [.sv (.agg [I a.ae,I a.ac,LS aZ a.af,LS aY.ty a.ar,LS aZ a.av]), .sv (.agg [I d.ae,I d.af,LS (cB aZ) d.aa,LS aZ d.ay])] [] (FO a d) (fun (r:bF)=>.sv (.one (.pe (eu (.agg [I r.au.ae,I r.au.ac,LS aZ r.au.af,LS aY.ty r.au.ar,LS aZ r.au.av,I r.aB.ae,I r.aB.af,LS (cB aZ) r.aB.aa,LS aZ r.aB.ay,LS (cB cm.ty) r.aa])) 10))):=by
 refine DR a d (FO a d) ?_
 obtain ⟨hA,hD,hLt⟩:=hp
 unfold xu
 intro _ _ _ _ _
 have h4:=hA.four
 have hst:=hA.ok.states
 have hfw:=hA.ok.few
 have hsz:=hD.size
 obtain ⟨S,hS⟩:∃ S:Nat,(S:Int)=a.ac:=⟨a.ac.toNat,by omega⟩
 obtain ⟨n,hn⟩:∃ n,n=d.aa.length:=⟨_,rfl⟩
 have hSn:S * n <= 4 * 20000:=Nat.mul_le_mul (by omega) (by omega)
 have wN:wr (a.ac * (d.aa.length:Int))=((S * n:Nat):Int):=by
  rw [<- hS,<- hn,<- g9,bL (by omega) (by omega)]
 rw [wN,bE]
 have wP:∀ i q:Nat,i < n -> q < S -> wr (wr ((i:Int) * a.ac) + (q:Int))=((i * S + q:Nat):Int):=fun i q hi hq=>by
  have h1:=gT hi hq
  rw [<- hS,<- g9,bL (n:=((i * S:Nat):Int)) (by omega) (by omega),bL (by omega) (by omega)]
  omega
 refine ⟨⟨by omega,by omega,by omega⟩,fun x nx=>∃ i:Nat,x=i /\ i <= n /\ so a d S i 0 nx,fun x _=>n - x.toNat,⟨0,rfl,cy _,by rw [hn]; exact so.start⟩,?_⟩
 rintro x nx ⟨i,rfl,hi,hI⟩
 rw [<- hn]
 refine ⟨fun hb=>?_,fun hb=>?_⟩
 ·have hlt:=dlt hb
  refine ⟨fun x m=>∃ k:Nat,x=k /\ k <= a.ar.length /\ so a d S i k m,fun x _=>a.ar.length - x.toNat,⟨0,rfl,cy _,hI⟩,?_⟩
  rintro x m ⟨k,rfl,hk,hK⟩
  have hml:=hK.len
  rw [<- hn] at hml
  refine ⟨fun hb2=>?_,fun hb2=>?_⟩
  ·have hlt2:=dlt hb2
   have hmem:=dK hlt2
   obtain ⟨⟨x1,x2⟩,⟨y1,y2⟩,hle⟩:=hA.ok.steps _ hmem
   have hfr:(a.ar[k].am.toNat:Int)=a.ar[k].am:=dB x1
   have hto:(a.ar[k].aA.toNat:Int)=a.ar[k].aA:=dB y1
   obtain ⟨k1,k2,k3,k4⟩:=lC hD (q:=(i:Int)) (a:=a.ar[k].az) ⟨by omega,by omega⟩ (by omega)
   have wp:=wP i a.ar[k].am.toNat (by omega) (by omega)
   have wv:=wP (jx d i a.ar[k].az).toNat a.ar[k].aA.toNat (by omega) (by omega)
   rw [hfr] at wp
   rw [hto,dB k3] at wv
   have hpl:i * S + a.ar[k].am.toNat < m.length:=by rw [hml]; exact gT (by omega) (by omega)
   have hfew:=hK.few (i * S + a.ar[k].am.toNat)
   have hi4:i * 40000 <= 20000 * 40000:=dL _ (by omega)
   have hix:=bB (R:=m) (i:=((i * S + a.ar[k].am.toNat:Nat):Int)) (by omega) (by omega)
   refine ⟨_,eP hlt2,?_⟩
   rw [wp]
   refine ⟨_,hix,_,hix,_,k1,_,k2,eI ?_,_,hix,⟨k + 1,dj (by omega),hlt2,?_⟩,dQ hlt2 (by omega)⟩
   ·rw [bE]
    simp only [dq,dI]
    omega
   ·rw [bE,wv]
    have:=hK.put (by omega) hmem hpl
    have e:(((jx d i a.ar[k].az).toNat * S + a.ar[k].aA.toNat:Nat):Int)=jx d i a.ar[k].az * S + a.ar[k].aA:=by
     rw [nS,g9,dB k3,hto]
    rw [e]
    exact this
  ·have hge2:=dge hb2
   have e:k=a.ar.length:=by omega
   subst e
   exact ⟨⟨i + 1,dj (by omega),hlt,hK.next hfw⟩,dQ hlt (by omega)⟩
 ·have hge:=dge hb
  have e:i=n:=by omega
  subst e
  refine ⟨rfl,rfl,?_⟩
  show so a d a.ac.toNat d.aa.length 0 nx
  rw [<- hn]
  have:a.ac.toNat=S:=by omega
  rw [this]
  exact hI
def xt (R:List Int) (Q:(List Int) -> Prop):Prop:=
 ∃ (Inv:Int -> Int -> (List Int) -> Prop) (mu:Int -> Int -> (List Int) -> Nat),Inv 0 (wr ((R.length:Int) - 1)) R /\
 ∀ x2 x3 l0,Inv x2 x3 l0 -> (cv (decide (x2 < x3)) (∃ e,cq l0 x3=some e /\
 ∃ e_2,cq l0 x2=some e_2 /\
 ∃ e_3,cq l0 x2=some e_3 /\
 ∃ e_4,cq (l0.set (x2).toNat e) x3=some e_4 /\
 (Inv (wr (x2 + 1)) (wr (x3 - 1)) ((l0.set (x2).toNat e).set (x3).toNat e_2) /\ mu (wr (x2 + 1)) (wr (x3 - 1)) ((l0.set (x2).toNat e).set (x3).toNat e_2) < mu x2 x3 l0)) (Q l0))
theorem DQ (R:List Int) (Q:(List Int) -> Prop) (h:xt R Q):fj 69 [.sv (.one (.own 0))] [bf 3 aZ R] [0] Q (fun (r:List Int)=>.tup []) (fun (r:List Int)=>[bf 3 aZ r]):=by
 have ht:=bA
 refine eZ Tryz.func69 rfl rfl rfl (by kernel_rfl) (fun c Vk hn=>?_)
 unfold xt at h
 refine bk hn ?_
 refine bj (ma h (fun zz=>⟨[bg 0 (.pown 0 (Vk 0)),ba 2 zz.1,ba 3 zz.2.1],[bf 3 aZ zz.2.2]⟩) fun Inv mu x2 x3 l0 h=>?_)
 refine bi (bp (cw ht hn 3 ⟨[bg 0 (.pown 0 (Vk 0)),ba 2 x2,ba 3 x3,bG 9 (decide (x2 < x3))],[bf 3 aZ l0]⟩ ?_))
 refine bv h (fun h=>?_) (fun h=>?_)
 refine bn (bi (bj ?_))
 obtain ⟨e,he,h⟩:=h
 obtain ⟨e_2,he_2,h⟩:=h
 obtain ⟨e_3,he_3,h⟩:=h
 refine dt ⟨[bg 0 (.pown 0 (Vk 0)),ba 2 x2,ba 3 x3],[cu 0,bq x2,cu 0,bq x3,cu 0,bq x3,o1 (.oe 0 (x3).toNat 1),bq e,cu 0,bq x2,o1 (.oe 0 (x2).toNat 1),bq e_2,o1 (.oe 0 (x2).toNat 1),bJ],[⟨bf 3 aZ l0,none,none,some (13,bf 3 aZ (l0.set (x2).toNat e))⟩]⟩ 14 ⟨[bg 0 (.pown 0 (Vk 0)),ba 2 x2,ba 3 x3,bx 16 0,ba 17 x3,ba 25 e_2],[bf 3 aZ (l0.set (x2).toNat e)]⟩ (by kernel_rfl) hn (by kernel_rfl) (by kernel_rfl) (by kernel_rfl) (by rfl) (by kernel_rfl) ?_ (by kernel_rfl) ?_
 exact ⟨.e,
 .e,
 .e,
 .e,
 .e,
 .e,
 .i (T:=aZ) rfl he,
 .l (T:=aZ) rfl (bs he).2.2,
 .e,
 .e,
 .i (T:=aZ) rfl he_2,
 .l (T:=aZ) rfl (bs he_2).2.2,
 .i (T:=aZ) rfl he_3,
 .mu ⟨[ba 21 e,bg 26 (.oe 0 (x2).toNat 1)],[bf 3 aZ l0]⟩ 0 _ _ rfl rfl (by kernel_rfl) (by rfl) (dY (T:=aZ) (l:=l0) (y:=e) ht rfl (by rfl) (by rfl) (fun _ h=>by cases h) (by rfl) (by rfl) (dd he_3) (by rfl) (by rfl) (by rfl)) rfl rfl rfl rfl rfl rfl rfl,
 trivial⟩
 obtain ⟨e_4,he_4,h⟩:=h
 refine bT hn (iO (T:=aZ) rfl he_4) ?_
 refine gg (T:=aZ) (y:=e_2) hn rfl (dd he_4) ?_
 exact bH (cn hn ((wr (x2 + 1)),(wr (x3 - 1)),((l0.set (x2).toNat e).set (x3).toNat e_2)) h)
 exact bD rfl (d4 [0] ht l0 h (by kernel_rfl) (by rfl) rfl)
theorem Ng : ∀ args w,(callFunc 69 args).run Tryz.prog w=.ok (.enter 69 args) w:=enters_of Tryz.func69 (by kernel_rfl) rfl
theorem Iy (R:List Int) (hp:R.length <= 1000000000)  : fj 69 [.sv (.one (.own 0))] [bf 3 aZ R] [0] (fun (_:Unit)=>True) (fun _=>.tup []) (fun _=>[bf 3 aZ (R.reverse)]):=by
 refine (DQ R (fun res_=>res_=R.reverse) ?_).imp (fun r hr=>⟨(),trivial,by subst hr; rfl,by subst hr; rfl⟩)
 unfold xt
 obtain ⟨n,hn⟩:∃ n,n=R.length:=⟨_,rfl⟩
 rw [<- hn] at hp
 rw [<- hn,bL (by omega) (by omega)]
 refine ⟨fun x y l=>∃ i:Nat,x=i /\ y=(n:Int) - 1 - i /\ 2 * i <= n + 1 /\ l.length=n /\ ∀ k,k < n -> gx l k=if k < i \/ n <= k + i then gx R (n - 1 - k) else gx R k,fun x y _=>(y - x).toNat,⟨0,rfl,by omega,by omega,hn.symm,fun k hk=>by rw [if_neg (by omega)]⟩,?_⟩
 rintro x y l ⟨i,rfl,rfl,hi,hl,hg⟩
 refine ⟨fun hb=>?_,fun hb=>?_⟩
 ·have hb:=ca hb
  have hy:((n:Int) - 1 - i).toNat=n - 1 - i:=by omega
  refine ⟨_,bB (by omega) (by omega),_,bB (by omega) (by omega),_,bB (by omega) (by omega),_,bB (by omega) (by rw [cK]; omega),⟨i + 1,dj (by omega),by rw [bL (by omega) (by omega)]; omega,by omega,by rw [cK,cK]; exact hl,fun k hk=>?_⟩,?_⟩
  ·rw [bE,hy,fS (by rw [cK]; omega),fS (by omega)]
   have a1:=hg i (by omega)
   have a2:=hg (n - 1 - i) (by omega)
   rw [if_neg (by omega)] at a1 a2
   split
   ·rename_i e
    rw [a1,if_pos (by omega),show n - 1 - k=i by omega]
   ·split
    ·rename_i e
     rw [a2,if_pos (by omega),e]
    ·rw [hg k hk]
     by_cases c:k < i \/ n <= k + i
     ·rw [if_pos c,if_pos (by omega)]
     ·rw [if_neg c,if_neg (by omega)]
  ·show (_ - _:Int).toNat < (_ - _:Int).toNat
   rw [dj (by omega),bL (by omega) (by omega)]
   omega
 ·have hb:=cx hb
  refine List.ext_getElem (by rw [List.length_reverse]; omega) fun k k1 k2=>?_
  have:=hg k (by omega)
  rw [eS k1] at this
  rw [this,List.getElem_reverse]
  split
  ·rw [eS (by omega)]
   congr 1
   omega
  ·rename_i c
   rw [eS (by omega)]
   congr 1
   omega
def xv (p:bF) (from_:List Int) (dommay:(Int -> Prop)) (may:(Int -> Bool)) (domok:(Int -> Prop)) (ok:(Int -> Bool)) (Q:((List Int) × Int × Bool) -> Prop):Prop:=
 from_.length <= 9223372036854775807 ->
 (∃ (Inv:Int -> (List bw) -> Prop) (mu:Int -> (List bw) -> Nat),Inv 0 ([]:List bw) /\
 ∀ x22 l1,Inv x22 l1 -> (cv (decide (x22 < (from_.length:Int))) (∃ e,cq from_ x22=some e /\
 ed l1.length ([(bw.mk e (-1) 0)]:List bw).length 24 /\
 (Inv (wr (x22 + 1)) (l1 ++ ([(bw.mk e (-1) 0)]:List bw)) /\ mu (wr (x22 + 1)) (l1 ++ ([(bw.mk e (-1) 0)]:List bw)) < mu x22 l1)) (jM (p.aa.length:Int) (p.aa.length:Int) 1 /\
 ∃ (Inv_2:Int -> (List bw) -> (List Bool) -> Prop) (mu_2:Int -> (List bw) -> (List Bool) -> Nat),Inv_2 0 l1 (List.replicate ((p.aa.length:Int)).toNat false) /\
 ∀ x15 l1_2 l2,Inv_2 x15 l1_2 l2 -> (cv (decide (x15 < (l1_2.length:Int))) (∃ e_2,cq l1_2 x15=some e_2 /\
 ∃ e_3,cq p.aa e_2.aJ=some e_3 /\
 ∃ (Inv_3:Int -> (List bw) -> (List Bool) -> Prop) (mu_3:Int -> (List bw) -> (List Bool) -> Nat),Inv_3 0 l1_2 l2 /\
 ∀ x56 l1_3 l2_2,Inv_3 x56 l1_3 l2_2 -> (cv (decide (x56 < (e_3.length:Int))) (∃ J:(List bw) -> (List Bool) -> Prop,(∃ e_4,cq e_3 x56=some e_4 /\
 ∃ J_2:Bool -> Prop,(∃ e_5,cq l2_2 e_4.aj=some e_5 /\
 cv e_5 (J_2 true) ((dommay e_4.aj) /\
 J_2 (!(may e_4.aj)))) /\
 (∀ x71,J_2 x71 -> cv x71 (J l1_3 l2_2) (∃ e_6,cq l2_2 e_4.aj=some e_6 /\
 ed l1_3.length ([(bw.mk e_4.aj x15 e_4.aq)]:List bw).length 24 /\
 (domok e_4.aj) /\
 cv (!(ok e_4.aj)) (J (l1_3 ++ ([(bw.mk e_4.aj x15 e_4.aq)]:List bw)) (l2_2.set (e_4.aj).toNat true)) (∃ (Inv_4:Int -> (List Int) -> Prop) (mu_4:Int -> (List Int) -> Nat),Inv_4 (wr (((l1_3 ++ ([(bw.mk e_4.aj x15 e_4.aq)]:List bw)).length:Int) - 1)) ([]:List Int) /\
 ∀ x19 l6,Inv_4 x19 l6 -> (∃ e_7,cq (l1_3 ++ ([(bw.mk e_4.aj x15 e_4.aq)]:List bw)) x19=some e_7 /\
 cv (decide (e_7.aK >= 0)) (∃ e_8,cq (l1_3 ++ ([(bw.mk e_4.aj x15 e_4.aq)]:List bw)) x19=some e_8 /\
 ed l6.length ([e_8.az]:List Int).length 8 /\
 ∃ e_9,cq (l1_3 ++ ([(bw.mk e_4.aj x15 e_4.aq)]:List bw)) x19=some e_9 /\
 (Inv_4 e_9.aK (l6 ++ ([e_8.az]:List Int)) /\ mu_4 e_9.aK (l6 ++ ([e_8.az]:List Int)) < mu_4 x19 l6)) ((l6.length <= 1000000000) /\
 Q (((l6).reverse),e_4.aj,true))))))) /\
 (∀ l1_4 l2_3,J l1_4 l2_3 -> (Inv_3 (wr (x56 + 1)) l1_4 l2_3 /\ mu_3 (wr (x56 + 1)) l1_4 l2_3 < mu_3 x56 l1_3 l2_2))) ((Inv_2 (wr (x15 + 1)) l1_3 l2_2 /\ mu_2 (wr (x15 + 1)) l1_3 l2_2 < mu_2 x15 l1_2 l2)))) (Q (([]:List Int),0,false))))))
abbrev Aj (p:bF):=(eu (.agg [I p.au.ae,I p.au.ac,LS aZ p.au.af,LS aY.ty p.au.ar,LS aZ p.au.av,I p.aB.ae,I p.aB.af,LS (cB aZ) p.aB.aa,LS aZ p.aB.ay,LS (cB cm.ty) p.aa]))
abbrev nl (p:bF) (dommay:(Int -> Prop)) (may:(Int -> Bool)) (domok:(Int -> Prop)) (ok:(Int -> Bool)):=([bg 0 (.pe (Aj p) 10),bg 2 (fv2 dommay may),bg 3 (fv2 domok ok)]:List (Nat × SC))
abbrev jh := (List bw)
abbrev GM (y0) (y1) (y2):=([.gone,bf 119 bw.ty y0,bf 4 cJ y1, .box (cm.cl y2) 91 false]:List br)
abbrev mr := sl 17 (.ptr 3 0)
abbrev L7 (y0:Int) (y1:Int):=([bg 11 (.own 1),(mr),bg 19 (I y0),bg 105 (.own 1),bg 106 (I y0),bg 107 (.oe 1 ((y0).toNat) 3),bg 108 (.oe 1 ((y0).toNat * 3 + 2) 1),bg 109 (I y1),bg 110 (LS aZ ([y1]:List Int))]:List (Nat × SC))
abbrev pF (y0):=sl 54 (LS cm.ty y0)
abbrev Ai (y0):=(bw.mk y0 (-1) 0)
abbrev oh := sl 14 (.own 2)
set_option maxHeartbeats 2000000 in
theorem DS (p:bF) (from_:List Int) (dommay:(Int -> Prop)) (may:(Int -> Bool)) (domok:(Int -> Prop)) (ok:(Int -> Bool)) (Q:((List Int) × Int × Bool) -> Prop) (h:xv p from_ dommay may domok ok Q):CtS 41 [.sv (.one (.pe (eu (.agg [I p.au.ae,I p.au.ac,LS aZ p.au.af,LS aY.ty p.au.ar,LS aZ p.au.av,I p.aB.ae,I p.aB.af,LS (cB aZ) p.aB.aa,LS aZ p.aB.ay,LS (cB cm.ty) p.aa])) 10)), .sv (.one (LS aZ from_)), .sv (.one (fv2 dommay may)), .sv (.one (fv2 domok ok))] [] Q (fun (r:((List Int) × Int × Bool))=>.tup [.one (.own 0), .one (I r.2.1), .one (B r.2.2)]) (fun (r:((List Int) × Int × Bool))=>bf 3 aZ r.1):=by
 have ht:=bA
 refine CtS.body Tryz.func41 rfl rfl rfl rfl (fun c hn hmay=>?_)
 unfold xv at h
 refine de 1 (by rfl) (fun hl=>?_)
 replace h:=h hl
 clear hl
 refine bk hn ?_
 refine bk hn ?_
 refine bi (bp (cw ht hn 3 ⟨sl 11 (.v (.slice none 0 0)) :: bg 20 (LS aZ from_) :: ba 21 (from_.length:Int) :: ba 22 0 :: (nl p dommay may domok ok),[]⟩ ?_))
 refine bj (iw 11 1 119 bw.ty (by rfl) (by rfl) ?_)
 refine dV h (fun zz=>⟨[bg 0 (.pe (Aj p) 10),bg 2 (fv2 dommay may),bg 3 (fv2 domok ok),bx 11 1,bg 20 (LS aZ from_),ba 21 (from_.length:Int),ba 22 zz.1],[.gone,bf 119 bw.ty zz.2]⟩) fun Inv mu x22 l1 h=>?_
 refine bk hn ?_
 refine bi (bv h (fun h=>?_) (fun h=>?_))
 refine bn (bi (bj (bp ?_)))
 obtain ⟨e,he,h⟩:=h
 refine bT hn (iX (T:=aZ) rfl he) ?_
 refine bT hn (lD (s:=.one (I e)) rfl) ?_
 refine bM hn ?_
 refine bI (bC ht hn 3 ⟨sl 20 (LS aZ from_) :: ba 21 (from_.length:Int) :: ba 22 x22 :: bx 26 1 :: (28, .sv (.agg [I e,I (-1),I 0])) :: (nl p dommay may domok ok),[.gone,bf 119 bw.ty l1]⟩ ?_)
 refine dg (K:=[]) (p:=some (2,bf 119 bw.ty ([Ai e]:jh))) hn (by rfl) (lI (T:=bw.ty) ([Ai e]:jh) 2 rfl) (by rfl) (by rfl) (by rfl) ?_
 refine dE (T:=bw.ty) (l:=([Ai e]:jh)) (e:=119) 2 rfl ?_
 refine bC ht hn 0 ⟨sl 20 (LS aZ from_) :: ba 21 (from_.length:Int) :: ba 22 x22 :: bx 26 1 :: (28, .sv (.agg [I e,I (-1),I 0])) :: bg 29 (LS bw.ty ([Ai e]:jh)) :: (nl p dommay may domok ok),[.gone,bf 119 bw.ty l1, .gone]⟩ ?_
 obtain ⟨hp,h⟩:=h
 refine jF (S2:=⟨sl 20 (LS aZ from_) :: ba 21 (from_.length:Int) :: ba 22 x22 :: (28, .sv (.agg [I e,I (-1),I 0])) :: bg 29 (LS bw.ty ([Ai e]:jh)) :: (nl p dommay may domok ok),[.gone,bf 119 bw.ty l1, .gone]⟩) (K:=[1]) (p:=some (1,bf 119 bw.ty (l1 ++ ([Ai e]:jh)))) hn (by rfl) (aP (T:=bw.ty) (l:=l1) (es:=([Ai e]:jh)) rfl hp) (by kernel_rfl) (by rfl) (by rfl) (by rfl) ?_
 refine bM hn ?_
 exact cn hn ((wr (x22 + 1)),(l1 ++ ([Ai e]:jh))) h
 refine bD rfl (bp (cN hn 2 ?_))
 refine bT hn (aB (l:=[I p.au.ae,I p.au.ac,LS aZ p.au.af,LS aY.ty p.au.ar,LS aZ p.au.av,I p.aB.ae,I p.aB.af,LS (cB aZ) p.aB.aa,LS aZ p.aB.ay,LS (cB cm.ty) p.aa]) (r:=.one (LS (cB cm.ty) p.aa)) rfl) ?_
 refine bT hn (lD (s:=.one (LS (cB cm.ty) p.aa)) rfl) ?_
 refine bC ht hn 1 ⟨bx 11 1 :: ba 36 (p.aa.length:Int) :: (nl p dommay may domok ok),[.gone,bf 119 bw.ty l1]⟩ ?_
 obtain ⟨hp,h⟩:=h
 refine dg (K:=[]) (p:=some (2,bf 4 cJ (List.replicate (p.aa.length:Int).toNat false))) hn (by rfl) (kN (T:=cJ) false (zv:=(.bool false)) 2 (l:=(p.aa.length:Int)) (cp:=(p.aa.length:Int)) ht rfl (by rfl) (by rfl) (by rfl) (by rfl) (by decide) (by rfl) (by rfl) hp.1 hp.2.1 hp.2.2 (hp.le (by decide)) rfl (fun _=>⟨rfl,trivial⟩)) (by rfl) (by rfl) (by rfl) ?_
 refine bM hn ?_
 refine bi (bk hn ?_)
 refine bj (ma h (fun zz=>⟨[bg 0 (.pe (Aj p) 10),bg 2 (fv2 dommay may),bg 3 (fv2 domok ok),bx 11 1,oh,ba 15 zz.1],[.gone,bf 119 bw.ty zz.2.1,bf 4 cJ zz.2.2]⟩) fun Inv_2 mu_2 x15 l1_2 l2 h=>?_)
 refine bi (bk hn ?_)
 refine bv h (fun h=>?_) (fun h=>?_)
 refine bn (bi (bj (bi ?_)))
 obtain ⟨e_2,he_2,h⟩:=h
 obtain ⟨e_3,he_3,h⟩:=h
 refine da ⟨bx 11 1 :: oh :: ba 15 x15 :: (nl p dommay may domok ok),[o1 (.pe (Aj p) 10),o1 (.pe (Aj p) 10),o1 (.pe (eu (.one (LS (cB cm.ty) p.aa))) 1),o1 (LS (cB cm.ty) p.aa),cu 1,bq x15,o1 (.oe 1 (x15).toNat 3),o1 (.oe 1 ((x15).toNat * 3 + 0) 1),bq e_2.aJ,o1 (.pe (eu (.one (LS cm.ty e_3))) 1),o1 (LS cm.ty e_3),bq (e_3.length:Int),bq 0],[bU .gone,bU (bf 119 bw.ty l1_2),bU (bf 4 cJ l2)]⟩ hn ?_ ?_
 exact ⟨.e,
 .e,
 .v (bX (aB (l:=[I p.au.ae,I p.au.ac,LS aZ p.au.af,LS aY.ty p.au.ar,LS aZ p.au.av,I p.aB.ae,I p.aB.af,LS (cB aZ) p.aB.aa,LS aZ p.aB.ay,LS (cB cm.ty) p.aa]) (r:=.one (LS (cB cm.ty) p.aa)) rfl)),
 .v (bX (lD (s:=.one (LS (cB cm.ty) p.aa)) rfl)),
 .e,
 .e,
 .i (T:=bw.ty) rfl he_2,
 .f (k:=(x15).toNat) rfl,
 .x (T:=bw.ty) (fo:=0) (z:=I e_2.aJ) rfl (bs he_2).2.2,
 .v (bX (iX (T:=(cB cm.ty)) rfl he_3)),
 .v (bX (lD (s:=.one (LS cm.ty e_3)) rfl)),
 .e,
 .e,
 trivial⟩
 refine bj (ma h (fun zz=>⟨[bg 0 (.pe (Aj p) 10),bg 2 (fv2 dommay may),bg 3 (fv2 domok ok),bx 11 1,oh,ba 15 x15,pF e_3,ba 55 (e_3.length:Int),ba 56 zz.1],[.gone,bf 119 bw.ty zz.2.1,bf 4 cJ zz.2.2]⟩) fun Inv_3 mu_3 x56 l1_3 l2_2 h=>?_)
 refine bk hn ?_
 refine bi (bv h (fun h=>?_) (fun h=>?_))
 refine bn ?_
 obtain ⟨J,h,hJ⟩:=h
 refine bS (σ:=jh × (List Bool)) (fun zz=>J zz.1 zz.2) (fun zz=>⟨[bg 0 (.pe (Aj p) 10),bg 2 (fv2 dommay may),bg 3 (fv2 domok ok),bx 11 1,oh,ba 15 x15,pF e_3,ba 55 (e_3.length:Int),ba 56 x56],[.gone,bf 119 bw.ty zz.1,bf 4 cJ zz.2, .gone]⟩) ?_ ?_
 refine bj (bp ?_)
 obtain ⟨e_4,he_4,h⟩:=h
 refine bT hn (iX (T:=cm.ty) rfl he_4) ?_
 refine bT hn (lD (s:=.agg (cm.cl e_4)) rfl) ?_
 refine bM hn ?_
 refine bi ?_
 obtain ⟨J_2,h,hJ_2⟩:=h
 refine bS (σ:=Bool) (fun zz=>J_2 zz) (fun zz=>⟨[bg 0 (.pe (Aj p) 10),bg 2 (fv2 dommay may),bg 3 (fv2 domok ok),bx 11 1,oh,ba 15 x15,mr,pF e_3,ba 55 (e_3.length:Int),ba 56 x56,bG 71 zz],(GM l1_3 l2_2 e_4)⟩) ?_ ?_
 refine bI (bC ht hn 1 ⟨bx 11 1 :: oh :: ba 15 x15 :: mr :: (pF e_3) :: ba 55 (e_3.length:Int) :: ba 56 x56 :: bx 60 2 :: (nl p dommay may domok ok),(GM l1_3 l2_2 e_4)⟩ ?_)
 refine fe hn (dc (k:=0) 3 0 0 ht rfl Tryz.underlying91 (by rfl) (by rfl) (by rfl) (by rfl) (by decide) (by rfl)) ?_
 refine cN hn 1 ?_
 obtain ⟨e_5,he_5,h⟩:=h
 refine bT hn (iO (T:=cJ) rfl he_5) ?_
 refine bT hn (lO (T:=cJ) rfl (bs he_5).2.2) ?_
 refine cN hn 1 ?_
 refine cz e_5 (fun hb=>?_) (fun hb=>?_)
 replace h:=h.1 hb
 refine cf 65 hb ?_
 refine bM hn ?_
 exact bZ true h
 replace h:=h.2 hb
 refine cf 65 hb ?_
 refine bC ht hn 1 ⟨bx 11 1 :: oh :: ba 15 x15 :: mr :: (pF e_3) :: ba 55 (e_3.length:Int) :: ba 56 x56 :: bG 65 false :: bg 66 (fv2 dommay may) :: (nl p dommay may domok ok),(GM l1_3 l2_2 e_4)⟩ ?_
 refine fe hn (dc (k:=0) 3 0 0 ht rfl Tryz.underlying91 (by rfl) (by rfl) (by rfl) (by rfl) (by decide) (by rfl)) ?_
 refine bC ht hn 1 ⟨bx 11 1 :: oh :: ba 15 x15 :: mr :: (pF e_3) :: ba 55 (e_3.length:Int) :: ba 56 x56 :: bG 65 false :: bg 66 (fv2 dommay may) :: ba 68 e_4.aj :: (nl p dommay may domok ok),(GM l1_3 l2_2 e_4)⟩ ?_
 obtain ⟨hp,h⟩:=h
 refine i9 hn (fG e_4.aj hp rfl (by rfl) (by rfl) (by rfl) (by rfl)) ?_
 refine bM hn ?_
 exact bZ (!(may e_4.aj)) h
 intro x71 h
 replace h:=hJ_2 _ h
 refine bv h (fun h=>?_) (fun h=>?_)
 exact bD rfl (bZ (l1_3,l2_2) h)
 refine bn (bp (bC ht hn 1 ⟨bx 11 1 :: oh :: ba 15 x15 :: mr :: (pF e_3) :: ba 55 (e_3.length:Int) :: ba 56 x56 :: bx 72 2 :: (nl p dommay may domok ok),(GM l1_3 l2_2 e_4)⟩ ?_))
 refine fe hn (dc (k:=0) 3 0 0 ht rfl Tryz.underlying91 (by rfl) (by rfl) (by rfl) (by rfl) (by decide) (by rfl)) ?_
 refine cN hn 1 ?_
 obtain ⟨e_6,he_6,h⟩:=h
 refine bT hn (iO (T:=cJ) rfl he_6) ?_
 refine gg (T:=cJ) (y:=true) hn rfl (dd he_6) ?_
 refine bH (bp (bC ht hn 1 ⟨(oh) :: ba 15 x15 :: mr :: (pF e_3) :: ba 55 (e_3.length:Int) :: ba 56 x56 :: bx 76 1 :: (nl p dommay may domok ok),[.gone,bf 119 bw.ty l1_3,bf 4 cJ (l2_2.set (e_4.aj).toNat true), .box (cm.cl e_4) 91 false]⟩ ?_))
 refine fe hn (dc (k:=0) 3 0 0 ht rfl Tryz.underlying91 (by rfl) (by rfl) (by rfl) (by rfl) (by decide) (by rfl)) ?_
 refine bC ht hn 2 ⟨(oh) :: ba 15 x15 :: mr :: (pF e_3) :: ba 55 (e_3.length:Int) :: ba 56 x56 :: bx 76 1 :: ba 78 e_4.aj :: ba 79 x15 :: (nl p dommay may domok ok),[.gone,bf 119 bw.ty l1_3,bf 4 cJ (l2_2.set (e_4.aj).toNat true), .box (cm.cl e_4) 91 false]⟩ ?_
 refine fe hn (dc (k:=1) 3 0 1 ht rfl Tryz.underlying91 (by rfl) (by rfl) (by rfl) (by rfl) (by decide) (by rfl)) ?_
 refine bC ht hn 2 ⟨(oh) :: ba 15 x15 :: mr :: (pF e_3) :: ba 55 (e_3.length:Int) :: ba 56 x56 :: bx 76 1 :: (82, .sv (.agg [I e_4.aj,I x15,I e_4.aq])) :: (nl p dommay may domok ok),[.gone,bf 119 bw.ty l1_3,bf 4 cJ (l2_2.set (e_4.aj).toNat true), .box (cm.cl e_4) 91 false]⟩ ?_
 refine dg (K:=[]) (p:=some (4,bf 119 bw.ty ([bw.mk e_4.aj x15 e_4.aq]:jh))) hn (by rfl) (lI (T:=bw.ty) ([bw.mk e_4.aj x15 e_4.aq]:jh) 4 rfl) (by rfl) (by rfl) (by rfl) ?_
 refine dE (T:=bw.ty) (l:=([bw.mk e_4.aj x15 e_4.aq]:jh)) (e:=119) 4 rfl ?_
 refine bC ht hn 0 ⟨(oh) :: ba 15 x15 :: mr :: (pF e_3) :: ba 55 (e_3.length:Int) :: ba 56 x56 :: bx 76 1 :: (82, .sv (.agg [I e_4.aj,I x15,I e_4.aq])) :: bg 83 (LS bw.ty ([bw.mk e_4.aj x15 e_4.aq]:jh)) :: (nl p dommay may domok ok),[.gone,bf 119 bw.ty l1_3,bf 4 cJ (l2_2.set (e_4.aj).toNat true), .box (cm.cl e_4) 91 false, .gone]⟩ ?_
 obtain ⟨hp,h⟩:=h
 refine jF (S2:=⟨(oh) :: ba 15 x15 :: mr :: (pF e_3) :: ba 55 (e_3.length:Int) :: ba 56 x56 :: (82, .sv (.agg [I e_4.aj,I x15,I e_4.aq])) :: bg 83 (LS bw.ty ([bw.mk e_4.aj x15 e_4.aq]:jh)) :: (nl p dommay may domok ok),[.gone,bf 119 bw.ty l1_3,bf 4 cJ (l2_2.set (e_4.aj).toNat true), .box (cm.cl e_4) 91 false, .gone]⟩) (K:=[1]) (p:=some (1,bf 119 bw.ty (l1_3 ++ ([bw.mk e_4.aj x15 e_4.aq]:jh)))) hn (by rfl) (aP (T:=bw.ty) (l:=l1_3) (es:=([bw.mk e_4.aj x15 e_4.aq]:jh)) rfl hp) (by kernel_rfl) (by rfl) (by rfl) (by rfl) ?_
 refine bM hn ?_
 refine bi (bp (bC ht hn 1 ⟨bx 11 1 :: oh :: ba 15 x15 :: mr :: (pF e_3) :: ba 55 (e_3.length:Int) :: ba 56 x56 :: bg 85 (fv2 domok ok) :: (nl p dommay may domok ok),[.gone,bf 119 bw.ty (l1_3 ++ ([bw.mk e_4.aj x15 e_4.aq]:jh)),bf 4 cJ (l2_2.set (e_4.aj).toNat true), .box (cm.cl e_4) 91 false, .gone]⟩ ?_))
 refine fe hn (dc (k:=0) 3 0 0 ht rfl Tryz.underlying91 (by rfl) (by rfl) (by rfl) (by rfl) (by decide) (by rfl)) ?_
 refine bC ht hn 1 ⟨bx 11 1 :: oh :: ba 15 x15 :: mr :: (pF e_3) :: ba 55 (e_3.length:Int) :: ba 56 x56 :: bg 85 (fv2 domok ok) :: ba 87 e_4.aj :: (nl p dommay may domok ok),[.gone,bf 119 bw.ty (l1_3 ++ ([bw.mk e_4.aj x15 e_4.aq]:jh)),bf 4 cJ (l2_2.set (e_4.aj).toNat true), .box (cm.cl e_4) 91 false, .gone]⟩ ?_
 obtain ⟨hp,h⟩:=h
 refine i9 hn (fG e_4.aj hp rfl (by rfl) (by rfl) (by rfl) (by rfl)) ?_
 refine bM hn ?_
 refine bv h (fun h=>?_) (fun h=>?_)
 exact bD rfl (bZ ((l1_3 ++ ([bw.mk e_4.aj x15 e_4.aq]:jh)),(l2_2.set (e_4.aj).toNat true)) h)
 refine bn (bk hn ?_)
 refine bi (bp (cw ht hn 4 ⟨[bx 11 1,mr,bg 18 (.v (.slice none 0 0)),ba 19 (wr (((l1_3 ++ ([bw.mk e_4.aj x15 e_4.aq]:jh)).length:Int) - 1))],[.gone,bf 119 bw.ty (l1_3 ++ ([bw.mk e_4.aj x15 e_4.aq]:jh)), .gone, .box (cm.cl e_4) 91 false, .gone]⟩ ?_))
 refine bj (iw 18 6 3 aZ (by rfl) (by rfl) ?_)
 refine dV h (fun zz=>⟨[bx 11 1,mr,bx 18 6,ba 19 zz.1],[.gone,bf 119 bw.ty (l1_3 ++ ([bw.mk e_4.aj x15 e_4.aq]:jh)), .gone, .box (cm.cl e_4) 91 false, .gone, .gone,bf 3 aZ zz.2]⟩) fun Inv_4 mu_4 x19 l6 h=>?_
 refine bi (bp (cN hn 2 ?_))
 obtain ⟨e_7,he_7,h⟩:=h
 refine bT hn (iO (T:=bw.ty) rfl he_7) ?_
 refine bT hn (fO (k:=(x19).toNat) rfl) ?_
 refine bT hn (lF (T:=bw.ty) (fo:=1) (z:=I e_7.aK) rfl (bs he_7).2.2) ?_
 refine bM hn ?_
 refine bv h (fun h=>?_) (fun h=>?_)
 refine bn (bi (bj (bI (bC ht hn 3 ⟨[bx 11 1,mr,ba 19 x19,bx 104 6,bx 105 1,ba 106 x19],[.gone,bf 119 bw.ty (l1_3 ++ ([bw.mk e_4.aj x15 e_4.aq]:jh)), .gone, .box (cm.cl e_4) 91 false, .gone, .gone,bf 3 aZ l6]⟩ ?_))))
 obtain ⟨e_8,he_8,h⟩:=h
 refine fe hn (ic (T:=bw.ty) (l:=(l1_3 ++ ([bw.mk e_4.aj x15 e_4.aq]:jh))) (k:=x19) ht rfl (by rfl) (by rfl) (by rfl) (by rfl) (by decide) (by rfl) (by rfl) (by rfl) he_8) ?_
 refine fe hn (jd (k:=(x19).toNat) ht rfl (by rfl) (by rfl) (by rfl) (by rfl)) ?_
 refine fe hn (oT (T:=bw.ty) (l:=(l1_3 ++ ([bw.mk e_4.aj x15 e_4.aq]:jh))) (k:=(x19).toNat) (fo:=2) (y:=e_8) (z:=I e_8.az) ht rfl (by rfl) (by rfl) rfl (by rfl) (by rfl) (by rfl) (by rfl) (bs he_8).2.2) ?_
 refine dg (K:=[]) (p:=some (7,bf 3 aZ ([e_8.az]:List Int))) hn (by rfl) (lI (T:=aZ) ([e_8.az]:List Int) 7 rfl) (by rfl) (by rfl) (by rfl) ?_
 refine dE (T:=aZ) (l:=([e_8.az]:List Int)) (e:=3) 7 rfl ?_
 refine bC ht hn 0 ⟨bx 104 6 :: (L7 x19 e_8.az),[.gone,bf 119 bw.ty (l1_3 ++ ([bw.mk e_4.aj x15 e_4.aq]:jh)), .gone, .box (cm.cl e_4) 91 false, .gone, .gone,bf 3 aZ l6, .gone]⟩ ?_
 obtain ⟨hp,h⟩:=h
 refine jF (S2:=⟨(L7 x19 e_8.az),[.gone,bf 119 bw.ty (l1_3 ++ ([bw.mk e_4.aj x15 e_4.aq]:jh)), .gone, .box (cm.cl e_4) 91 false, .gone, .gone,bf 3 aZ l6, .gone]⟩) (K:=[6]) (p:=some (6,bf 3 aZ (l6 ++ ([e_8.az]:List Int)))) hn (by rfl) (aP (T:=aZ) (l:=l6) (es:=([e_8.az]:List Int)) rfl hp) (by kernel_rfl) (by rfl) (by rfl) (by rfl) ?_
 refine bM hn ?_
 refine bI (cN hn 2 ?_)
 obtain ⟨e_9,he_9,h⟩:=h
 refine bT hn (iO (T:=bw.ty) rfl he_9) ?_
 refine bT hn (fO (k:=(x19).toNat) rfl) ?_
 refine bT hn (lF (T:=bw.ty) (fo:=1) (z:=I e_9.aK) rfl (bs he_9).2.2) ?_
 refine bM hn ?_
 exact bZ (e_9.aK,(l6 ++ ([e_8.az]:List Int))) h
 refine bD rfl (bp (bC ht hn 1 ⟨[mr,bx 18 6,bx 112 6],[.gone, .gone, .gone, .box (cm.cl e_4) 91 false, .gone, .gone,bf 3 aZ l6]⟩ ?_))
 obtain ⟨hp,h⟩:=h
 refine kB (Iy l6 hp) Ng [6] hn rfl ?_
 refine bH (bi (fU (by kernel_rfl) (by kernel_rfl) ?_))
 refine eV ht hn 1 ⟨[mr,bx 18 6,bx 114 6],[.gone, .gone, .gone, .box (cm.cl e_4) 91 false, .gone, .gone,bf 3 aZ (l6).reverse]⟩ (by kernel_rfl) ?_
 refine dr hn (by rfl) (dc (k:=0) 3 0 0 ht rfl Tryz.underlying91 (by rfl) (by rfl) (by rfl) (by rfl) (by decide) (by rfl)) (by rfl) ?_
 refine eV ht hn 4 ⟨[bx 8 6,ba 9 e_4.aj,bG 10 true,mr,bx 18 6,bx 114 6,bu 115 3 0,ba 116 e_4.aj],[.gone, .gone, .gone, .box (cm.cl e_4) 91 false, .gone, .gone,bf 3 aZ (l6).reverse]⟩ (by kernel_rfl) ?_
 refine lu ⟨by kernel_rfl,?_⟩
 exact cT (Be ht 6 ((l6).reverse,e_4.aj,true) hmay h (by kernel_rfl) (by rfl) rfl rfl)
 rintro ⟨l1_4,l2_3⟩ h
 replace h:=hJ _ _ h
 exact cn hn ((wr (x56 + 1)),l1_4,l2_3) h
 exact bD rfl (cn hn ((wr (x15 + 1)),l1_3,l2_2) h)
 refine bD rfl (bp (cw ht hn 3 ⟨[bg 8 (.v (.slice none 0 0)),ba 9 0,bG 10 false],[.gone, .gone, .gone]⟩ ?_))
 refine cT (iw 8 3 3 aZ (by rfl) (by rfl) ?_)
 exact Be ht 3 (([]:List Int),0,false) hmay h (by kernel_rfl) (by rfl) rfl rfl
theorem J9 : ∀ args w,(callFunc 41 args).run Tryz.prog w=.ok (.enter 41 args) w:=enters_of Tryz.func41 (by kernel_rfl) rfl
theorem tj (p:bF) (from_:List Int) (dommay:(Int -> Prop)) (may:(Int -> Bool)) (domok:(Int -> Prop)) (ok:(Int -> Bool)) (hp:hY p from_ dommay domok)  : CtS 41 [.sv (.one (.pe (eu (.agg [I p.au.ae,I p.au.ac,LS aZ p.au.af,LS aY.ty p.au.ar,LS aZ p.au.av,I p.aB.ae,I p.aB.af,LS (cB aZ) p.aB.aa,LS aZ p.aB.ay,LS (cB cm.ty) p.aa])) 10)), .sv (.one (LS aZ from_)), .sv (.one (fv2 dommay may)), .sv (.one (fv2 domok ok))] [] (oI p from_ may ok) (fun (r:((List Int) × Int × Bool))=>.tup [.one (.own 0), .one (I r.2.1), .one (B r.2.2)]) (fun (r:((List Int) × Int × Bool))=>bf 3 aZ r.1):=by
 refine DS p from_ dommay may domok ok (oI p from_ may ok) ?_
 obtain ⟨hN,hnx,hrw,hfr,hfl,hdm⟩:=hp
 unfold xv
 intro _
 obtain ⟨n,hn⟩:∃ n,n=p.aa.length:=⟨_,rfl⟩
 rw [<- hn] at hN
 refine ⟨fun x l=>∃ k:Nat,x=k /\ k <= from_.length /\ l=(from_.take k).map (fun q=>bw.mk q (-1) 0),fun x _=>from_.length - x.toNat,⟨0,rfl,cy _,rfl⟩,?_⟩
 rintro x l ⟨k,rfl,hk,rfl⟩
 refine ⟨fun hb=>?_,fun hb=>?_⟩
 ·have hlt:=dlt hb
  refine ⟨_,eP hlt,eI ?_,⟨k + 1,dj (by omega),hlt,(zT hlt _).symm⟩,dQ hlt (by omega)⟩
  rw [df,eU]
  simp only [dq,dI]
  omega
 have hge:=dge hb
 rw [f8 hge,<- hn,bE]
 clear hb hge hk
 refine ⟨⟨by omega,by omega,by omega⟩,fun x l s=>∃ i:Nat,x=i /\ Bb p from_ may ok i l s,fun x _ _=>from_.length + n - x.toNat,⟨0,rfl,?_⟩,?_⟩
 ·refine ⟨by rw [jb]; exact hn,cy _,fun j hj=>?_,fun f hf=>?_,fun y hy=>?_,fun j hj=>absurd hj (e9 _),?_⟩
  ·rw [df] at hj
   rw [eS (by rw [df]; exact hj),nR]
   exact ⟨hfr _ (dK hj), .inl ⟨rfl,dK hj⟩⟩
  ·obtain ⟨j,hj,e⟩:=List.getElem_of_mem hf
   exact ⟨j,by rw [df]; exact hj,by rw [eS (by rw [df]; exact hj),nR]; exact e⟩
  ·rw [KL] at hy
   cases hy
  ·rw [df,List.count_replicate,hn]
   simp
 rintro x l s ⟨i,rfl,hI⟩
 have hfew:=hI.few
 have hsl:=hI.len
 refine ⟨fun hb=>?_,fun hb=>?_⟩
 rotate_left
 ·have hge:=dge hb
  have e:i=l.length:=by have:=hI.le; omega
  subst e
  refine ⟨fun h=>(by cases h),fun _ f hf w y hw=>?_,cy _⟩
  obtain ⟨j,j1,j2,j3⟩:=hI.back hnx hf hw
  rcases (hI.way j j1).2 with ⟨e,_⟩ | ⟨_,_,_,_,e⟩
  ·omega
  ·rw [<- j2]
   exact e
 have hlt:=dlt hb
 obtain ⟨⟨q0,q1⟩,_⟩:=hI.way i hlt
 obtain ⟨row,hrow⟩:∃ row,cq p.aa (gx l i).aJ=some row:=⟨_,bB q0 q1⟩
 have hmem:=Dh hrow
 have hrl:=hrw row hmem
 refine ⟨_,bB (R:=l) (by omega) (by omega),row,hrow,fun x l' s'=>∃ k:Nat,x=k /\ k <= row.length /\ Bb p from_ may ok i l' s' /\ i < l'.length /\ gx l' i=gx l i /\ ∀ j,j < k -> may (gx row j).aj=true -> gx s' (gx row j).aj.toNat=true,fun x _ _=>row.length - x.toNat,⟨0,rfl,cy _,hI,hlt,rfl,fun j hj=>absurd hj (e9 _)⟩,?_⟩
 clear hfew hsl
 rintro x l' s' ⟨k,rfl,hk,hI',hil,hgi,hdn⟩
 have hfew:=hI'.few
 have hsl:=hI'.len
 refine ⟨fun hb2=>?_,fun hb2=>?_⟩
 rotate_left
 ·have hge:=dge hb2
  have e:k=row.length:=by omega
  subst e
  refine ⟨⟨i + 1,dj (by omega),hI'.len,hil,hI'.way,hI'.first,hI'.seen,fun j hj y c hs hm=>?_,hI'.few⟩,?_⟩
  ·rcases cU.1 hj with e | rfl
   ·exact hI'.done j e y c hs hm
   ·rw [hgi] at hs
    obtain ⟨row',h1,h2⟩:=hs
    rw [hrow] at h1
    cases h1
    obtain ⟨j',hj',e⟩:=List.getElem_of_mem h2
    have:=hdn j' hj'
    rw [eS hj',e] at this
    exact this hm
  ·show from_.length + n - (wr ((i:Int) + 1)).toNat < from_.length + n - ((i:Int)).toNat
   rw [dj (by omega),bE,bE]
   omega
 have hlt2:=dlt hb2
 obtain ⟨e,he⟩:∃ e,e=gx row k:=⟨_,rfl⟩
 have hem:e ∈ row:=by rw [he,eS hlt2]; exact dK hlt2
 obtain ⟨y0,y1⟩:=hnx row hmem e hem
 have hix:=bB (R:=s') (i:=e.aj) y0 (by omega)
 have hst:ja p (gx l' i).aJ e.aj e.aq:=by rw [hgi]; exact ⟨row,hrow,hem⟩
 have last:∀ s2:List Bool,(∀ j,j < k -> may (gx row j).aj=true -> gx s2 (gx row j).aj.toNat=true) -> (may e.aj=true -> gx s2 e.aj.toNat=true) -> ∀ j,j < k + 1 -> may (gx row j).aj=true -> gx s2 (gx row j).aj.toNat=true:=fun s2 h1 h2 j hj=>by
  rcases cU.1 hj with c | rfl
  ·exact h1 j c
  ·rw [<- he]
   exact h2
 refine ⟨fun l2 s2=>Bb p from_ may ok i l2 s2 /\ i < l2.length /\ gx l2 i=gx l i /\ ∀ j,j < k + 1 -> may (gx row j).aj=true -> gx s2 (gx row j).aj.toNat=true,⟨e,by rw [he]; exact ixG hlt2,fun b=>b=true ↔ (gx s' e.aj.toNat=true \/ may e.aj=false),⟨_,hix,fun c=>?_,fun c=>⟨(hdm _ ⟨y0,y1⟩).1,?_⟩⟩,fun b hb3=>⟨fun c=>⟨hI',hil,hgi,last _ hdn fun hm=>?_⟩,fun c=>⟨_,hix,eI ?_,(hdm _ ⟨y0,y1⟩).2,fun c2=>?_,fun c2=>?_⟩⟩⟩,?_⟩
 ·rw [c]
  simp
 ·rw [c]
  cases may e.aj <;> simp
 ·rcases hb3.1 c with d | d
  ·exact d
  ·rw [hm] at d
   cases d
 ·simp only [dq,dI]
  omega
 ·have c2:ok e.aj=false:=by simpa using c2
  have d1:gx s' e.aj.toNat=false:=by
   cases d:gx s' e.aj.toNat with
   | false=>rfl
   | true=>rw [hb3.2 (.inl d)] at c; cases c
  have d2:may e.aj=true:=by
   cases d:may e.aj with
   | true=>rfl
   | false=>rw [hb3.2 (.inr d)] at c; cases c
  refine ⟨hI'.push hil ⟨y0,y1⟩ hst d2 c2 d1,by rw [di]; omega,by rw [eD hil]; exact hgi,last _ (fun j hj hm=>?_) fun _=>?_⟩
  ·rw [fS (by omega)]
   split
   ·rfl
   ·exact hdn j hj hm
  ·rw [fS (by omega),if_pos rfl]
 ·have c2:ok e.aj=true:=by simpa using c2
  have d2:may e.aj=true:=by
   cases d:may e.aj with
   | true=>rfl
   | false=>rw [hb3.2 (.inr d)] at c; cases c
  obtain ⟨l'',hl''⟩:∃ l'',l''=l' ++ [bw.mk e.aj (i:Int) e.aq]:=⟨_,rfl⟩
  have hlen:l''.length=l'.length + 1:=by rw [hl'',di]; rfl
  have hlast:gx l'' l'.length=⟨e.aj,(i:Int),e.aq⟩:=by rw [hl'']; exact jj
  have way:∀ j,j < l''.length -> ((gx l'' j).aK = -1 /\ (gx l'' j).aJ ∈ from_) \/ (0 <= (gx l'' j).aK /\ (gx l'' j).aK < (j:Int) /\ ja p (gx l'' (gx l'' j).aK.toNat).aJ (gx l'' j).aJ (gx l'' j).az /\ may (gx l'' j).aJ=true):=fun j hj=>by
   rcases cU.1 (hlen ▸ hj) with d | rfl
   ·have e1:gx l'' j=gx l' j:=by rw [hl'']; exact eD d
    rw [e1]
    refine (hI'.way j d).2.imp id fun ⟨b1,b2,b3,b4,_⟩=>⟨b1,b2,?_,b4⟩
    rw [hl'',eD (by omega)]
    exact b3
   ·rw [hlast]
    refine .inr ⟨by show 0 <= (i:Int); omega,by show (i:Int) < _; omega,?_,d2⟩
    show ja p (gx l'' (i:Int).toNat).aJ e.aj e.aq
    rw [bE,hl'',eD hil]
    exact hst
  rw [<- hl'',hlen,bL (by omega) (by omega)]
  refine ⟨fun x w=>∃ j:Nat,x=j /\ j < l''.length /\ w.length + j <= l'.length /\ ((w=[] /\ j=l'.length) \/ PWk p may (gx l'' j).aJ w.reverse e.aj),fun x _=>x.toNat,⟨l'.length,by omega,by omega,by simp, .inl ⟨rfl,rfl⟩⟩,?_⟩
  rintro x w ⟨j,rfl,hj,hwl,hw⟩
  refine ⟨_,ixG hj,fun c3=>?_,fun c3=>?_⟩
  ·have c3:0 <= (gx l'' j).aK:=ca c3
   rcases way j hj with ⟨w1,_⟩ | ⟨w1,w2,w3,w4⟩
   ·omega
   refine ⟨_,ixG hj,eI (by simp only [dq,dI]; omega),_,ixG hj,⟨(gx l'' j).aK.toNat,by omega,by omega,by rw [di]; simp only [dq,dI]; omega, .inr ?_⟩,?_⟩
   ·rw [List.reverse_append]
    show PWk p may _ ((gx l'' j).az :: w.reverse) _
    rcases hw with ⟨rfl,rfl⟩ | hw
    ·rw [hlast] at w3 ⊢
     exact .one w3 d2
    ·exact .cons w3 w4 hw
   ·show (gx l'' j).aK.toNat < ((j:Int)).toNat
    omega
  ·have c3:¬ 0 <= (gx l'' j).aK:=cx c3
   refine ⟨by omega,fun _=>?_,fun h=>(by cases h),by show w.reverse.length <= _; rw [List.length_reverse]; omega⟩
   rcases way j hj with ⟨w1,w2⟩ | ⟨w1,_⟩
   ·rcases hw with ⟨rfl,rfl⟩ | hw
    ·rw [hlast] at c3
     exact absurd (show 0 <= (i:Int) by omega) c3
    ·exact ⟨_,w2,hw,c2⟩
   ·exact absurd w1 c3
 ·rintro l2 s2 ⟨a1,a2,a3,a4⟩
  exact ⟨⟨k + 1,dj (by omega),hlt2,a1,a2,a3,a4⟩,dQ hlt2 (by omega)⟩
end
end Go.Proofs.YtmdbjpljlniloaaGreat
