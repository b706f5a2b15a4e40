/- Lemmas towards the statement: mirrors of functions, and plain laws. No condition. -/
import Derived.Test.YtmdbjpljlniloaaGreatPackSafraTwice3
set_option linter.unusedSimpArgs false
set_option linter.unusedVariables false
namespace Go.Proofs.YtmdbjpljlniloaaGreat
open Go.RowKit Go.MapKept
set_option maxRecDepth 100000
noncomputable section
abbrev nT (t:bO):Nat:=t.aC.toNat
structure TOk (t:bO):Prop where
 cnt:0 <= t.aC /\ t.aC <= 4
 lb:∀ k,k < nT t -> lb (tl t k)
 root:0 < nT t -> ta t 0 = -1
 up:∀ k:Nat,k < nT t -> 0 < k -> 0 <= ta t k /\ ta t k < (k:Int)
 sub:∀ k q,k < nT t -> 0 < k -> cM (tl t k) q=true -> cM (tl t (ta t k).toNat) q=true
 sib:∀ j k q,j < k -> k < nT t -> ta t j=ta t k -> cM (tl t j) q=true -> cM (tl t k) q=false
 own:∀ i,i < nT t -> ∃ q,0 <= q /\ cM (tl t i) q=true /\ ∀ k:Nat,k < nT t -> ta t k=(i:Int) -> cM (tl t k) q=false
 zero:∀ k,nT t <= k -> k < 4 -> tl t k=0 /\ ta t k=0
theorem TOk.n4 {t:bO} (h:TOk t):nT t <= 4:=by
 unfold nT
 have:=h.cnt
 omega
def s8 (b:bK) (q a:Int):Int:=cW (cA.l (cA.mk (cW (du.l b.aa) (q * ((4:Nat):Int) + ((0:Nat):Int))) (cW (du.l b.aa) (q * ((4:Nat):Int) + ((1:Nat):Int))) (cW (du.l b.aa) (q * ((4:Nat):Int) + ((2:Nat):Int))) (cW (du.l b.aa) (q * ((4:Nat):Int) + ((3:Nat):Int))))) a
structure BOk (b:bK):Prop where
 fin:lb b.av
 rows:∀ q a:Int,0 <= q /\ q < 4 -> 0 <= a /\ a < 4 -> lb (s8 b q a)
section
variable (b:bK) (t:bO) (a:Int)
def k9 (i:Nat):Nat -> Int
 | 0=>0
 | q + 1=>if cM (tl t i) (q:Int)=true then bR .or .i64 (k9 i q) (s8 b (q:Int) a) else k9 i q
def kq : Nat -> List be
 | 0=>[]
 | i + 1=>kq i ++ [⟨k9 b t a i 4,ta t i,true,false,false⟩]
def jA (l:List be):Nat -> List be
 | 0=>l
 | i + 1=>if bR .and .i64 (gx (jA l i) i).ap b.av ≠ 0 then jA l i ++ [⟨bR .and .i64 (gx (jA l i) i).ap b.av,(i:Int),false,false,false⟩] else jA l i
def pq : List be:=jA b (kq b t a (nT t)) (nT t)
def Lz : List be:=kz (eE (pq b t a)) (eE (pq b t a)).length
def kJ : bc:=eF (Lz b t a)
def rz (p q:Int):Prop:=(0 <= p /\ p < 4) /\ 0 <= q /\ cM (s8 b p a) q=true
def AN (q:Int):Prop:=0 <= q /\ cM b.av q=true
def trT : Tr4:=⟨nT t,fun k q=>0 <= q /\ cM (tl t k) q=true,ta t⟩
end
theorem eD {X:Type} [Inhabited X] {l m:List X} {k:Nat} (h:k < l.length):gx (l ++ m) k=gx l k:=by
 unfold gx
 rw [er,er,mV h]
theorem jj {X:Type} [Inhabited X] {l:List X} {x:X}:gx (l ++ [x]) l.length=x:=by
 unfold gx
 rw [er,oC (bP _),Nat.sub_self]
 rfl
section
variable {b:bK} {t:bO} {a:Int}
theorem nj (hb:BOk b) (ha:0 <= a /\ a < 4) {i:Nat}:∀ k,k <= 4 -> lb (k9 b t a i k) /\ ∀ q,cM (k9 b t a i k) q=true ↔ ∃ p:Nat,p < k /\ cM (tl t i) (p:Int)=true /\ cM (s8 b (p:Int) a) q=true
 | 0,_=>⟨show lb 0 from ⟨by decide,by decide⟩,fun q=>⟨fun h=>(by rw [k9,gI] at h; cases h),fun ⟨j,hj,_⟩=>absurd hj (e9 _)⟩⟩
 | k + 1,h=>by
  obtain ⟨h1,h2⟩:=nj hb ha (i:=i) k (by omega)
  unfold k9
  split
  ·rename_i c
   obtain ⟨c1,c2⟩:=AD h1 (hb.rows (k:Int) a ⟨by omega,by omega⟩ ha)
   refine ⟨c1,fun q=>?_⟩
   rw [c2,fc,h2 q]
   refine ⟨fun d=>?_,fun ⟨j,j1,j2,j3⟩=>?_⟩
   ·rcases d with ⟨j,j1,j2⟩ | d
    ·exact ⟨j,by omega,j2⟩
    ·exact ⟨k,by omega,c,d⟩
   ·rcases cU.1 j1 with e | rfl
    ·exact .inl ⟨j,e,j2,j3⟩
    ·exact .inr j3
  ·rename_i c
   refine ⟨h1,fun q=>(h2 q).trans ⟨fun ⟨j,j1,j2⟩=>⟨j,by omega,j2⟩,fun ⟨j,j1,j2,j3⟩=>?_⟩⟩
   rcases cU.1 j1 with e | rfl
   ·exact ⟨j,e,j2,j3⟩
   ·exact absurd j2 c
theorem ni (hb:BOk b) (ha:0 <= a /\ a < 4) (ht:TOk t) {i:Nat} (hi:i < nT t) {q:Int} (hq:0 <= q):cM (k9 b t a i 4) q=true ↔ ∃ p,(0 <= p /\ cM (tl t i) p=true) /\ rz b a p q:=by
 rw [(nj hb ha 4 (bP _)).2 q]
 constructor
 ·rintro ⟨p,p1,p2,p3⟩
  exact ⟨(p:Int),⟨by omega,p2⟩,⟨by omega,by omega⟩,hq,p3⟩
 ·rintro ⟨p,⟨p1,p2⟩,⟨p3,p4⟩,_,p5⟩
  refine ⟨p.toNat,by omega,?_,?_⟩ <;> rw [dB p1]
  ·exact p2
  ·exact p5
theorem xZ : ∀ n,(kq b t a n).length=n /\ ∀ i,i < n -> gx (kq b t a n) i=⟨k9 b t a i 4,ta t i,true,false,false⟩
 | 0=>⟨rfl,fun i hi=>absurd hi (e9 _)⟩
 | n + 1=>by
  obtain ⟨h1,h2⟩:=xZ n
  refine ⟨by rw [kq,di,h1]; rfl,fun i hi=>?_⟩
  rw [kq]
  rcases cU.1 hi with c | rfl
  ·rw [eD (by rw [h1]; exact c)]
   exact h2 i c
  ·have:=jj (l:=kq b t a i) (x:=(⟨k9 b t a i 4,ta t i,true,false,false⟩:be))
   rwa [h1] at this
structure L0R (b:bK) (t:bO) (a:Int) (n m:Nat) (l:List be):Prop where
 len:n <= l.length /\ l.length <= n + m
 old:∀ i,i < n -> gx l i=⟨k9 b t a i 4,ta t i,true,false,false⟩
 new:∀ k,n <= k -> k < l.length -> ∃ i,i < m /\ gx l k=⟨bR .and .i64 (k9 b t a i 4) b.av,(i:Int),false,false,false⟩
 all:∀ i,i < m -> bR .and .i64 (k9 b t a i 4) b.av ≠ 0 -> ∃ k,n <= k /\ k < l.length /\ gx l k=⟨bR .and .i64 (k9 b t a i 4) b.av,(i:Int),false,false,false⟩
theorem tF {n:Nat}:∀ m,m <= n -> L0R b t a n m (jA b (kq b t a n) m)
 | 0,_=>by
  obtain ⟨h1,h2⟩:=xZ (b:=b) (t:=t) (a:=a) n
  exact ⟨by rw [jA,h1]; omega,h2,fun k k1 k2=>(by rw [jA,h1] at k2; omega),fun i hi=>absurd hi (e9 _)⟩
 | m + 1,hm=>by
  obtain ⟨h1,h2,h3,h4⟩:=tF (n:=n) m (by omega)
  rw [jA,h2 m (by omega)]
  split
  ·rename_i c
   refine ⟨by rw [di]; simp only [dq,dI]; omega,fun i hi=>by rw [eD (by omega)]; exact h2 i hi,fun k k1 k2=>?_,fun i hi hne=>?_⟩
   ·rw [di] at k2
    simp only [dq,dI] at k2
    rcases cU.1 k2 with d | rfl
    ·obtain ⟨i,i1,i2⟩:=h3 k k1 d
     exact ⟨i,by omega,by rw [eD d]; exact i2⟩
    ·exact ⟨m,by omega,jj⟩
   ·rcases cU.1 hi with d | rfl
    ·obtain ⟨k,k1,k2,k3⟩:=h4 i d hne
     exact ⟨k,k1,by rw [di]; omega,by rw [eD k2]; exact k3⟩
    ·exact ⟨_,h1.1,by rw [di]; simp,jj⟩
  ·rename_i c
   refine ⟨⟨h1.1,by omega⟩,h2,fun k k1 k2=>?_,fun i hi hne=>?_⟩
   ·obtain ⟨i,i1,i2⟩:=h3 k k1 k2
    exact ⟨i,by omega,i2⟩
   ·rcases cU.1 hi with d | rfl
    ·exact h4 i d hne
    ·exact absurd hne c
structure Mid (b:bK) (t:bO) (a:Int) (l c f:List be):Prop where
 hb:BOk b
 ht:TOk t
 ha:0 <= a /\ a < 4
 l0:L0R b t a (nT t) (nT t) l
 ok:zN l
 cr:CnR l c
 fi:FI c f c.length
theorem HP (hb:BOk b) (ht:TOk t) (ha:0 <= a /\ a < 4):zN (pq b t a):=by
 have h0:=tF (b:=b) (t:=t) (a:=a) (n:=nT t) (nT t) (bP _)
 obtain ⟨h1,h2,h3,h4⟩:=h0
 have hn:=ht.n4
 have rq:∀ i,lb (k9 b t a i 4):=fun i=>(nj hb ha 4 (bP _)).1
 refine ⟨by unfold pq; omega,fun k hk=>?_,fun k hk=>?_,fun k hk=>?_⟩ <;> by_cases c:k < nT t
 ·unfold pq
  rw [h2 k c]
  exact rq k
 ·obtain ⟨i,_,e⟩:=h3 k (by omega) hk
  unfold pq
  rw [e]
  exact (yC (rq i) hb.fin).1
 ·unfold pq
  rw [h2 k c]
  show ta t k < (k:Int)
  by_cases c0:k=0
  ·subst c0
   rw [ht.root c]
   decide
  ·exact (ht.up k c (by omega)).2
 ·obtain ⟨i,i1,e⟩:=h3 k (by omega) hk
  unfold pq
  rw [e]
  show (i:Int) < (k:Int)
  omega
 ·unfold pq
  rw [h2 k c]
  exact ⟨rfl,rfl⟩
 ·obtain ⟨i,i1,e⟩:=h3 k (by omega) hk
  unfold pq
  rw [e]
  exact ⟨rfl,rfl⟩
theorem Hd (hb:BOk b) (ht:TOk t) (ha:0 <= a /\ a < 4):Mid b t a (pq b t a) (eE (pq b t a)) (Lz b t a):=by
 have ok:=HP hb ht ha
 exact ⟨hb,ht,ha,tF (nT t) (bP _),ok,Ds ok,FI.all ok (Ds ok) _ (bP _)⟩
end
namespace Mid
section
variable {b:bK} {t:bO} {a:Int} {l c f:List be} (h:Mid b t a l c f)
include h
theorem len : f.length=l.length /\ c.length=l.length:=⟨h.fi.len.trans h.cr.len,h.cr.len⟩
theorem abv (k:Nat) (hk:k < l.length):(gx c k).ak=(gx l k).ak /\ (gx f k).ak=(gx l k).ak:=⟨(h.cr.same k hk).1,(h.fi.same k).2.1.trans (h.cr.same k hk).1⟩
theorem oldF (k:Nat) (hk:k < l.length):(gx f k).aI=true ↔ k < nT t:=by
 rw [(h.fi.same k).2.2,(h.cr.same k hk).2.1]
 by_cases d:k < nT t
 ·rw [h.l0.old k d]
  exact ⟨fun _=>d,fun _=>rfl⟩
 ·obtain ⟨i,_,e⟩:=h.l0.new k (by omega) hk
  rw [e]
  exact ⟨fun x=>(by cases x),fun x=>absurd x d⟩
def liv (l f:List be) (k:Nat):Prop:=k < l.length /\ (gx f k).aF=false
omit h in
theorem up0 (h:Mid b t a l c f) (k:Nat) (hk:k < l.length) (h0:(gx l k).ak < 0):k=0:=by
 by_cases d:k < nT t
 ·rw [h.l0.old k d] at h0
  have h0:ta t k < 0:=h0
  rcases kn k with e | e
  ·exact e
  ·have:=(h.ht.up k d e).1
   omega
 ·obtain ⟨i,_,e⟩:=h.l0.new k (by omega) hk
  rw [e] at h0
  have h0:(i:Int) < 0:=h0
  omega
theorem upL (k:Nat) (hk:liv l f k) (h0:0 <= (gx l k).ak):(gx l k).ak < (k:Int) /\ liv l f (gx l k).ak.toNat:=by
 have hu:=h.ok.up k hk.1
 refine ⟨hu,by have:=hk.1; omega,?_⟩
 cases g:(gx f (gx l k).ak.toNat).aF with
 | false=>rfl
 | true =>
  have:=h.fi.down k (by rw [h.len.2]; exact hk.1) (by rw [(h.abv k hk.1).1]; exact h0) (by rw [(h.abv k hk.1).1]; exact g)
  rw [hk.2] at this
  cases this
theorem sub (k:Nat) (q:Int) (hk:k < l.length) (h0:0 <= (gx l k).ak) (hq:cM (gx c k).ap q=true):cM (gx c (gx l k).ak.toNat).ap q=true:=((h.cr.has k hk q).1 hq).2.1 h0
theorem sib (j k:Nat) (q:Int) (hk:k < l.length) (hjk:j < k) (e:(gx l j).ak=(gx l k).ak) (hj:cM (gx c j).ap q=true):¬ cM (gx c k).ap q=true:=fun hq=>by
 have:=((h.cr.has k hk q).1 hq).2.2 j hjk e
 rw [hj] at this
 cases this
theorem frs : Frs (liv l f) (fun k q=>cM (gx c k).ap q=true) (fun k=>(gx l k).ak):=
 ⟨fun k hk h0=>h.up0 k hk.1 h0,fun k hk h0=>h.upL k hk h0,fun j k q _ hk hjk e hj=>h.sib j k q hk.1 hjk e hj⟩
theorem owns (k:Nat) (hk:liv l f k):∃ q,0 <= q /\ cM (gx c k).ap q=true /\ ∀ j,liv l f j -> (gx l j).ak=(k:Int) -> cM (gx c j).ap q=false:=by
 have kc:k < c.length:=by rw [h.len.2]; exact hk.1
 cases x:(gx f k).aH with
 | false =>
  obtain ⟨q,q0,q1,q2⟩:=h.fi.nofl k kc kc x hk.2
  exact ⟨q,q0,q1,fun j hj e=>q2 j (by rw [h.len.2]; exact hj.1) (by rw [(h.abv j hj.1).1]; exact e) hj.2⟩
 | true =>
  have hne:(gx c k).ap ≠ 0:=fun e=>by
   have:=h.fi.zero k kc e
   rw [hk.2] at this
   cases this
  obtain ⟨q,q0,q1⟩:=yB (h.cr.lb k hk.1) hne
  refine ⟨q,q0,q1,fun j hj e=>?_⟩
  have:=(h.fi.fl k kc x).2.1 j (by rw [h.len.2]; exact hj.1) (by rw [(h.abv j hj.1).1]; exact e)
  rw [hj.2] at this
  cases this
theorem few : dP f f.length <= 4:=by
 obtain ⟨m,m1,m2,m3⟩:=xa (f:=f) f.length
 rw [<- m3]
 refine h.frs.few (m:=[0,1,2,3]) (fun k q hk h0 hq=>h.sub k q hk.1 h0 hq) (fun x hx=>?_) m1 fun x hx=>⟨by rw [<- h.len.1]; exact (m2 x hx).1,(m2 x hx).2⟩
 obtain ⟨q,q0,q1,q2⟩:=h.owns x hx
 exact ⟨q,in4 ⟨q0,AE (h.cr.lb x hx.1) q1⟩,q1,fun k hk e=>by rw [q2 k hk e]; simp⟩
theorem toldPre : zy f /\ ∀ k,k <= f.length -> TdR f k (mM f k):=by
 have hl:=h.len.1
 have hup:∀ k,k < f.length -> (gx f k).aF=false -> 0 <= (gx f k).ak -> (gx f k).ak < (k:Int) /\ (gx f (gx f k).ak.toNat).aF=false:=fun k hk g h0=>by
  rw [hl] at hk
  rw [(h.abv k hk).2] at h0 ⊢
  obtain ⟨u1,u2⟩:=h.upL k ⟨hk,g⟩ h0
  exact ⟨u1,u2.2⟩
 have all:=Gs (f:=f) (by rw [hl]; exact h.ok.len) h.few hup
 refine ⟨⟨by rw [hl]; exact h.ok.len,fun k hk=>?_,fun k hk g=>?_⟩,all⟩
 ·rw [hl] at hk
  rw [(h.abv k hk).2]
  have:=h.ok.up k hk
  have:=h.ok.len
  omega
 ·rw [(all k (by omega)).count]
  have:=mF hk g
  have:=h.few
  omega
theorem tdr : TdR f f.length (mM f f.length):=h.toldPre.2 _ (bP _)
theorem nT_eq : nT (eF f).ai=dP f f.length:=by
 have:=h.tdr.count
 unfold nT eF
 omega
theorem node (k':Nat) (hk:k' < nT (eF f).ai):∃ k,liv l f k /\ dP f k=k':=by
 rw [h.nT_eq] at hk
 obtain ⟨k,k1,k2,k3⟩:=w8 _ _ hk
 exact ⟨k,⟨by rw [<- h.len.1]; exact k1,k2⟩,k3⟩
theorem at_ (k:Nat) (hk:liv l f k):dP f k < nT (eF f).ai /\ tl (eF f).ai (dP f k)=(gx c k).ap /\ ta (eF f).ai (dP f k)=if 0 <= (gx l k).ak then (dP f (gx l k).ak.toNat:Int) else -1:=by
 have kf:k < f.length:=by rw [h.len.1]; exact hk.1
 refine ⟨by rw [h.nT_eq]; exact mF kf hk.2,(h.tdr.lab k kf hk.2).trans (h.fi.same k).1,?_⟩
 have:=h.tdr.abv k kf hk.2
 rw [(h.abv k hk.1).2] at this
 exact this
theorem hang {i k:Nat} (hi:liv l f i) (hk:liv l f k):ta (eF f).ai (dP f k)=(dP f i:Int) ↔ (gx l k).ak=(i:Int):=by
 rw [(h.at_ k hk).2.2]
 split
 ·rename_i c0
  have u:=(h.upL k hk c0).2
  refine ⟨fun e=>?_,fun e=>by rw [e,bE]⟩
  have:=p9 u.2 hi.2 (by omega)
  omega
 ·rename_i c0
  exact ⟨fun e=>(by omega),fun e=>absurd (show 0 <= (gx l k).ak by omega) c0⟩
theorem liv0 : ∀ n k,k <= n -> liv l f k -> liv l f 0
 | 0,k,hn,hk=>by rwa [show k=0 by omega] at hk
 | n + 1,k,hn,hk=>by
  by_cases c0:0 <= (gx l k).ak
  ·obtain ⟨u1,u2⟩:=h.upL k hk c0
   exact liv0 n _ (by omega) u2
  ·rwa [h.up0 k hk.1 (by omega)] at hk
theorem tok : TOk (eF f).ai:=by
 have few:=h.few
 have hn:=h.nT_eq
 have hcnt:(eF f).ai.aC=(dP f f.length:Int):=h.tdr.count
 have z0:∀ k,liv l f k -> (gx l k).ak < 0 -> dP f k=0:=fun k hk h0=>by rw [h.up0 k hk.1 h0]; rfl
 refine ⟨by omega,fun k' hk=>?_,fun h0=>?_,fun k' hk hp=>?_,fun k' q hk hp hq=>?_,fun j' k' q hjk hk e hj=>?_,fun i' hi=>?_,fun k hk hk4=>h.tdr.zero k (by omega) hk4⟩
 ·obtain ⟨k,k1,rfl⟩:=h.node k' hk
  rw [(h.at_ k k1).2.1]
  exact h.cr.lb k k1.1
 ·obtain ⟨k,k1,k2⟩:=h.node 0 h0
  have l0:=h.liv0 k k (bP _) k1
  have:=(h.at_ 0 l0).2.2
  have u:=h.ok.up 0 l0.1
  rw [if_neg (by omega)] at this
  exact this
 ·obtain ⟨k,k1,rfl⟩:=h.node k' hk
  have c0:0 <= (gx l k).ak:=Int.not_lt.1 fun c=>by have:=z0 k k1 c; omega
  rw [(h.at_ k k1).2.2,if_pos c0]
  obtain ⟨u1,u2⟩:=h.upL k k1 c0
  have:=mF (f:=f) (show (gx l k).ak.toNat < k by omega) u2.2
  omega
 ·obtain ⟨k,k1,rfl⟩:=h.node k' hk
  have c0:0 <= (gx l k).ak:=Int.not_lt.1 fun c=>by have:=z0 k k1 c; omega
  obtain ⟨u1,u2⟩:=h.upL k k1 c0
  rw [(h.at_ k k1).2.1] at hq
  rw [(h.at_ k k1).2.2,if_pos c0,bE,(h.at_ _ u2).2.1]
  exact h.sub k q k1.1 c0 hq
 ·obtain ⟨k,k1,rfl⟩:=h.node k' hk
  obtain ⟨j,j1,rfl⟩:=h.node j' (by omega)
  have jk:j < k:=by
   refine Nat.not_le.1 fun c=>?_
   have:=tL (f:=f) c
   omega
  rw [(h.at_ k k1).2.1]
  rw [(h.at_ j j1).2.1] at hj
  have c0:0 <= (gx l k).ak:=Int.not_lt.1 fun c=>by have:=z0 k k1 c; omega
  obtain ⟨u1,u2⟩:=h.upL k k1 c0
  have ek:=(h.at_ k k1).2.2
  rw [if_pos c0] at ek
  have:=(h.hang u2 j1).1 (e.trans ek)
  have:=h.sib j k q k1.1 jk (by omega) hj
  simpa using this
 ·obtain ⟨i,i1,rfl⟩:=h.node i' hi
  obtain ⟨q,q0,q1,q2⟩:=h.owns i i1
  refine ⟨q,q0,by rw [(h.at_ i i1).2.1]; exact q1,fun k' hk e=>?_⟩
  obtain ⟨k,k1,rfl⟩:=h.node k' hk
  rw [(h.at_ k k1).2.1]
  exact q2 k k1 ((h.hang i1 k1).1 e)
theorem mark_r : 1 <= (eF f).ay /\ (eF f).ay <= 9:=by
 have hn:=h.ht.n4
 have:=h.tdr.mark.2
 show 1 <= (mM f f.length).1.ay /\ (mM f f.length).1.ay <= 9
 rcases this with e | ⟨j,j1,j2,e⟩
 ·omega
 ·have:=(h.oldF j (by rw [<- h.len.1]; exact j1)).1 j2
  rcases e with ⟨_,e⟩ | ⟨_,_,e⟩ <;> omega
theorem kept {i j:Nat} (hm:2 * (i:Int) + 2 <= (eF f).ay) (hj:j <= i) (hn:j < nT t):liv l f j:=by
 have jl:j < l.length:=by have:=h.l0.len.1; omega
 refine ⟨jl,?_⟩
 cases g:(gx f j).aF with
 | false=>rfl
 | true =>
  have:=(h.tdr.mark.1 j (by rw [h.len.1]; exact jl) ((h.oldF j jl).2 hn)).1 g
  have:(eF f).ay <= 2 * (j:Int) + 1:=this
  omega
theorem kept_cnt {i:Nat} (hm:2 * (i:Int) + 2 <= (eF f).ay) (hn:i < nT t):dP f i=i:=AY fun j hj=>(h.kept hm (Nat.le_of_lt hj) (by omega)).2
theorem comes (k:Nat) (hk:k < l.length) {q:Int} (q0:0 <= q) (hq:cM (gx c k).ap q=true):(k < nT t /\ ∃ p,(0 <= p /\ cM (tl t k) p=true) /\ rz b a p q) \/ (nT t <= k /\ 0 <= (gx l k).ak /\ (gx l k).ak.toNat < nT t /\ AN b q /\ ∃ p,(0 <= p /\ cM (tl t (gx l k).ak.toNat) p=true) /\ rz b a p q):=by
 have hq:=((h.cr.has k hk q).1 hq).1
 by_cases d:k < nT t
 ·rw [h.l0.old k d] at hq
  exact .inl ⟨d,(ni h.hb h.ha h.ht d q0).1 hq⟩
 ·obtain ⟨i,i1,e⟩:=h.l0.new k (by omega) hk
  rw [e] at hq ⊢
  have hq:cM (bR .and .i64 (k9 b t a i 4) b.av) q=true:=hq
  rw [(yC (nj h.hb h.ha 4 (bP _)).1 h.hb.fin).2,cC] at hq
  refine .inr ⟨by omega,by show 0 <= (i:Int); omega,by show (i:Int).toNat < _; omega,⟨q0,hq.2⟩,?_⟩
  show ∃ p,(0 <= p /\ cM (tl t (i:Int).toNat) p=true) /\ _
  rw [bE]
  exact (ni h.hb h.ha h.ht i1 q0).1 hq.1
theorem finds {i:Nat} (hi:liv l f i) (hfl:(gx f i).aH=false) {q:Int} (hq:cM (gx c i).ap q=true):∀ n k,k <= n -> k < l.length -> (gx l k).ak=(i:Int) -> cM (gx l k).ap q=true -> ∃ k1,k1 <= k /\ liv l f k1 /\ (gx l k1).ak=(i:Int) /\ cM (gx c k1).ap q=true:=by
 intro n
 induction n with
 | zero =>
  intro k hn hk e
  have:=h.ok.up k hk
  omega
 | succ n ih =>
  intro k hn hk e hk2
  by_cases d:∃ j,j < k /\ (gx l j).ak=(i:Int) /\ cM (gx l j).ap q=true
  ·obtain ⟨j,j1,j2,j3⟩:=d
   obtain ⟨k1,a1,a2⟩:=ih j (by omega) (by omega) j2 j3
   exact ⟨k1,by omega,a2⟩
  have hc:cM (gx c k).ap q=true:=(h.cr.has k hk q).2 ⟨hk2,fun _=>by rw [e,bE]; exact hq,fun j hj ej=>by
   cases x:cM (gx c j).ap q with
   | false=>rfl
   | true=>exact absurd ⟨j,hj,ej.trans e,((h.cr.has j (by omega) q).1 x).1⟩ d⟩
  refine ⟨k,bP _,⟨hk,?_⟩,e,hc⟩
  cases g:(gx f k).aF with
  | false=>rfl
  | true =>
   rcases h.fi.why k (by rw [h.len.2]; exact hk) g with w | ⟨_,w⟩
   ·rw [w,gI] at hc
    cases hc
   ·rw [(h.abv k hk).1,e,bE,hi.2,hfl] at w
    rcases w with w | w <;> cases w
theorem noflash {i:Nat} (hm:2 * (i:Int) + 3 <= (eF f).ay) (hn:i < nT t):(gx f i).aH=false:=by
 have li:=h.kept (i:=i) (by omega) (bP _) hn
 cases g:(gx f i).aH with
 | false=>rfl
 | true =>
  have:=(h.tdr.mark.1 i (by rw [h.len.1]; exact li.1) ((h.oldF i li.1).2 hn)).2 li.2 g
  have:(eF f).ay <= 2 * (i:Int) + 2:=this
  omega
theorem sstep : sQ (rz b a) (AN b) (trT t) (trT (eF f).ai) (eF f).ay:=by
 refine ⟨fun k' q hk ⟨q0,hq⟩=>?_,fun k' hk=>?_,fun i hm hi=>?_,fun i hm=>?_,fun p q hn ⟨p0,hp⟩ hst=>?_,fun i k p q hm hi _ hst hq hk hka ⟨p0,hp⟩=>?_,fun i p q hm hi ⟨p0,hp⟩ hst hq hf=>?_⟩
 ·obtain ⟨k,k1,rfl⟩:=h.node k' hk
  have hq:cM (tl (eF f).ai (dP f k)) q=true:=hq
  rw [(h.at_ k k1).2.1] at hq
  rcases h.comes k k1.1 q0 hq with ⟨d,p,p1,p2⟩ | ⟨_,_,d,_,p,p1,p2⟩
  ·exact ⟨k,p,d,p1,p2⟩
  ·exact ⟨_,p,d,p1,p2⟩
 ·obtain ⟨k,k1,rfl⟩:=h.node k' hk
  obtain ⟨q,q0,q1,_⟩:=h.owns k k1
  exact ⟨q,q0,by rw [(h.at_ k k1).2.1]; exact q1⟩
 ·have li:=h.kept hm (bP _) hi
  have ci:=h.kept_cnt hm hi
  obtain ⟨a1,a2,a3⟩:=h.at_ i li
  rw [ci] at a1 a2
  refine ⟨a1,fun q ⟨q0,hq⟩=>?_,fun k' q hk e ⟨q0,hq⟩=>?_⟩
  ·rw [a2] at hq
   rcases h.comes i li.1 q0 hq with ⟨d,r⟩ | ⟨d,_⟩
   ·exact r
   ·have:i < nT t:=hi
    omega
  ·obtain ⟨k,k1,rfl⟩:=h.node k' hk
   have ea:(gx l k).ak=(i:Int):=(h.hang li k1).1 (by rw [ci]; exact e)
   rw [(h.at_ k k1).2.1] at hq
   rcases h.comes k k1.1 q0 hq with ⟨d,p,p1,p2⟩ | ⟨_,_,d,hf,p,p1,p2⟩
   ·refine .inl ⟨k,p,d,?_,p1,p2⟩
    rw [h.l0.old k d] at ea
    exact ea
   ·rw [ea,bE] at p1
    exact .inr ⟨hf,p,p1,p2⟩
 ·have hmk:=h.tdr.mark.2
  have hm':(mM f f.length).1.ay=2 * (i:Int) + 2:=hm
  have fl:i < nT t /\ liv l f i /\ (gx f i).aH=true:=by
   rcases hmk with e | ⟨j,j1,j2,e⟩
   ·omega
   ·rcases e with ⟨_,e⟩ | ⟨g1,g2,e⟩
    ·omega
    ·have:j=i:=by omega
     subst this
     have jl:j < l.length:=by rw [<- h.len.1]; exact j1
     exact ⟨(h.oldF j jl).1 j2,⟨jl,g1⟩,g2⟩
  obtain ⟨hn,li,hfl⟩:=fl
  have ci:=h.kept_cnt (by omega) hn
  obtain ⟨_,g2,g3⟩:=h.fi.fl i (by rw [h.len.2]; exact li.1) hfl
  refine ⟨hn,fun k' hk e=>?_,fun q ⟨q0,hq⟩=>?_⟩
  ·obtain ⟨k,k1,rfl⟩:=h.node k' hk
   have ea:(gx l k).ak=(i:Int):=(h.hang li k1).1 (by rw [ci]; exact e)
   have:=g2 k (by rw [h.len.2]; exact k1.1) (by rw [(h.abv k k1.1).1]; exact ea)
   rw [k1.2] at this
   cases this
  ·have a2:=(h.at_ i li).2.1
   rw [ci] at a2
   rw [a2] at hq
   obtain ⟨k,k1,k2,k3⟩:=g3 q hq
   rw [h.len.2] at k1
   rw [(h.abv k k1).1] at k2
   rcases h.comes k k1 q0 k3 with ⟨d,p,p1,p2⟩ | ⟨_,_,d,hf,p,p1,p2⟩
   ·refine .inl ⟨k,p,d,?_,p1,p2⟩
    rw [h.l0.old k d] at k2
    exact k2
   ·rw [k2,bE] at p1
    exact .inr ⟨hf,p,p1,p2⟩
 ·have hn:0 < nT t:=hn
  have l0:0 < l.length:=by have:=h.l0.len.1; omega
  have ab:(gx l 0).ak = -1:=by rw [h.l0.old 0 hn]; exact h.ht.root hn
  have hc:cM (gx c 0).ap q=true:=(h.cr.has 0 l0 q).2 ⟨by rw [h.l0.old 0 hn]; exact (ni h.hb h.ha h.ht hn hst.2.1).2 ⟨p,⟨p0,hp⟩,hst⟩,fun c0=>by omega,fun j hj=>absurd hj (e9 _)⟩
  have lv:liv l f 0:=by
   refine ⟨l0,?_⟩
   cases g:(gx f 0).aF with
   | false=>rfl
   | true =>
    rcases h.fi.why 0 (by rw [h.len.2]; exact l0) g with w | ⟨w,_⟩
    ·rw [w,gI] at hc
     cases hc
    ·rw [(h.abv 0 l0).1] at w
     omega
  obtain ⟨a1,a2,_⟩:=h.at_ 0 lv
  refine ⟨a1,⟨hst.2.1,a2 ▸ hc⟩,fun e=>?_⟩
  have e:(mM f f.length).1.ay=1:=e
  rcases h.tdr.mark.2 with d | ⟨j,j1,j2,d⟩
  ·omega
  ·rcases d with ⟨g,d⟩ | ⟨_,_,d⟩
   ·have:j=0:=by omega
    subst this
    rw [lv.2] at g
    cases g
   ·omega
 ·have hk:k < nT t:=hk
  have li:=h.kept (i:=i) (by omega) (bP _) hi
  have ci:=h.kept_cnt (i:=i) (by omega) hi
  obtain ⟨q0,hq⟩:=hq
  have hq:cM (tl (eF f).ai i) q=true:=hq
  have a2:=(h.at_ i li).2.1
  rw [ci] at a2
  rw [a2] at hq
  have kl:k < l.length:=by have:=h.l0.len.1; omega
  obtain ⟨k1,b1,b2,b3,b4⟩:=h.finds li (h.noflash hm hi) hq k k (bP _) kl (by rw [h.l0.old k hk]; exact hka) (by rw [h.l0.old k hk]; exact (ni h.hb h.ha h.ht hk q0).2 ⟨p,⟨p0,hp⟩,hst⟩)
  obtain ⟨c1,c2,_⟩:=h.at_ k1 b2
  have ik:i < k1:=by have:=h.ok.up k1 b2.1; omega
  have:=mF ik li.2
  have tp:=vc (f:=f) k1
  refine ⟨dP f k1,c1,by have:=(h.hang li b2).2 b3; rw [ci] at this; exact this,⟨q0,c2 ▸ b4⟩,by omega,by omega,fun e j hj em=>?_⟩
  have e1:k1=k:=by omega
  subst e1
  have em:(mM f f.length).1.ay=2 * (j:Int) + 1:=em
  have hn:=h.ht.n4
  rcases h.tdr.mark.2 with d | ⟨j',j1,j2,d⟩
  ·omega
  ·rcases d with ⟨g,d⟩ | ⟨_,_,d⟩
   ·have:j'=j:=by omega
    subst this
    rcases Nat.lt_or_eq_of_le hj with x | rfl
    ·rw [xb e _ x] at g
     cases g
    ·rw [b2.2] at g
     cases g
   ·omega
 ·have hi:i < nT t:=hi
  have li:=h.kept (i:=i) (by omega) (bP _) hi
  have ci:=h.kept_cnt (i:=i) (by omega) hi
  obtain ⟨q0,hq⟩:=hq
  have hq:cM (tl (eF f).ai i) q=true:=hq
  have a2:=(h.at_ i li).2.1
  rw [ci] at a2
  rw [a2] at hq
  have hr:cM (bR .and .i64 (k9 b t a i 4) b.av) q=true:=by
   rw [(yC (nj h.hb h.ha 4 (bP _)).1 h.hb.fin).2,(ni h.hb h.ha h.ht hi q0).2 ⟨p,⟨p0,hp⟩,hst⟩,hf.2]
   rfl
  obtain ⟨k,k1,k2,k3⟩:=h.l0.all i hi (fun e=>by rw [e,gI] at hr; cases hr)
  obtain ⟨k1',b1,b2,b3,b4⟩:=h.finds li (h.noflash hm hi) hq k k (bP _) k2 (by rw [k3]) (by rw [k3]; exact hr)
  obtain ⟨c1,c2,_⟩:=h.at_ k1' b2
  exact ⟨dP f k1',c1,by have:=(h.hang li b2).2 b3; rw [ci] at this; exact this,q0,c2 ▸ b4⟩
end
end Mid
def xr (b:bK) (t:bO) (a:Int) (Q:bc -> Prop):Prop:=
 ∃ (Inv:Int -> (List be) -> Prop) (mu:Int -> (List be) -> Nat),Inv 0 ([]:List be) /\
 ∀ x18 l4,Inv x18 l4 -> (cv (decide (x18 < t.aC)) ((0 <= x18 /\ x18 < 4) /\
 ∃ (Inv_2:Int -> Int -> Prop) (mu_2:Int -> Int -> Nat),Inv_2 0 0 /\
 ∀ x26 y50,Inv_2 x26 y50 -> (cv (decide (x26 < 4)) (∃ J:Int -> Prop,((0 <= x18 /\ x18 < 4) /\
 (0 <= x26) /\
 cv ((bR .and .i64 (Int.fdiv (cW (cA.l t.ap) x18) (2 ^ (min (x26).toNat 64))) 1) == 1) ((0 <= x26 /\ x26 < 4) /\
 (0 <= a /\ a < 4) /\
 J (bR .or .i64 y50 (cW (cA.l (cA.mk (cW (du.l b.aa) (x26 * ((4:Nat):Int) + ((0:Nat):Int))) (cW (du.l b.aa) (x26 * ((4:Nat):Int) + ((1:Nat):Int))) (cW (du.l b.aa) (x26 * ((4:Nat):Int) + ((2:Nat):Int))) (cW (du.l b.aa) (x26 * ((4:Nat):Int) + ((3:Nat):Int))))) a))) (J y50)) /\
 (∀ y50_2,J y50_2 -> (Inv_2 (wr (x26 + 1)) y50_2 /\ mu_2 (wr (x26 + 1)) y50_2 < mu_2 x26 y50))) (ed l4.length ([(be.mk y50 (cW (cA.l t.ak) x18) true false false)]:List be).length 24 /\
 (Inv (wr (x18 + 1)) (l4 ++ ([(be.mk y50 (cW (cA.l t.ak) x18) true false false)]:List be)) /\ mu (wr (x18 + 1)) (l4 ++ ([(be.mk y50 (cW (cA.l t.ak) x18) true false false)]:List be)) < mu x18 l4)))) (∃ (Inv_3:Int -> (List be) -> Prop) (mu_3:Int -> (List be) -> Nat),Inv_3 0 l4 /\
 ∀ x57 l4_2,Inv_3 x57 l4_2 -> (cv (decide (x57 < t.aC)) (∃ J_2:(List be) -> Prop,(∃ e,cq l4_2 x57=some e /\
 cv ((bR .and .i64 e.ap b.av) != 0) (ed l4_2.length ([(be.mk (bR .and .i64 e.ap b.av) x57 false false false)]:List be).length 24 /\
 J_2 (l4_2 ++ ([(be.mk (bR .and .i64 e.ap b.av) x57 false false false)]:List be))) (J_2 l4_2)) /\
 (∀ l4_3,J_2 l4_3 -> (Inv_3 (wr (x57 + 1)) l4_3 /\ mu_3 (wr (x57 + 1)) l4_3 < mu_3 x57 l4_2))) ((xl l4_2) /\
 ∃ (Inv_4:Int -> (List be) -> Prop) (mu_4:Int -> (List be) -> Nat),Inv_4 0 ((eE l4_2)) /\
 ∀ x83 l4_4,Inv_4 x83 l4_4 -> (cv (decide (x83 < (((eE l4_2)).length:Int))) (∃ J_3:(List be) -> Prop,(∃ (Inv_5:Int -> Int -> Prop) (mu_5:Int -> Int -> Nat),Inv_5 0 0 /\
 ∀ x14 x88,Inv_5 x14 x88 -> (cv (decide (x88 < (l4_4.length:Int))) (∃ J_4:Int -> Prop,(∃ J_5:Bool -> Prop,(∃ e_2,cq l4_4 x88=some e_2 /\
 cv (e_2.ak == x83) (∃ e_3,cq l4_4 x88=some e_3 /\
 J_5 (!e_3.aF)) (J_5 false)) /\
 (∀ x105,J_5 x105 -> cv x105 (∃ e_4,cq l4_4 x88=some e_4 /\
 J_4 (bR .or .i64 x14 e_4.ap)) (J_4 x14))) /\
 (∀ x14_2,J_4 x14_2 -> (Inv_5 x14_2 (wr (x88 + 1)) /\ mu_5 x14_2 (wr (x88 + 1)) < mu_5 x14 x88))) (∃ J_6:Bool -> Prop,(∃ e_5,cq l4_4 x83=some e_5 /\
 cv (!e_5.aF) (∃ e_6,cq l4_4 x83=some e_6 /\
 J_6 ((x14 == e_6.ap) && (x14 != 0))) (J_6 false)) /\
 (∀ x132,J_6 x132 -> cv x132 (∃ e_7,cq l4_4 x83=some e_7 /\
 (xl (l4_4.set (x83).toNat (be.mk e_7.ap e_7.ak e_7.aI e_7.aF true)) /\ 0 <= x83 /\ x83 < ((l4_4.set (x83).toNat (be.mk e_7.ap e_7.ak e_7.aI e_7.aF true)).length:Int)) /\
 J_3 ((ip (l4_4.set (x83).toNat (be.mk e_7.ap e_7.ak e_7.aI e_7.aF true)) (x83:Int).toNat))) (J_3 l4_4))))) /\
 (∀ l4_5,J_3 l4_5 -> (Inv_4 (wr (x83 + 1)) l4_5 /\ mu_4 (wr (x83 + 1)) l4_5 < mu_4 x83 l4_4))) ((zy l4_4) /\
 Q (eF l4_4)))))))
abbrev qd0 (b:bK):=(eu (.agg [I b.aa.aj.aj,I b.aa.aj.aq,I b.aa.aj.aw,I b.aa.aj.ax,I b.aa.aq.aj,I b.aa.aq.aq,I b.aa.aq.aw,I b.aa.aq.ax,I b.aa.aw.aj,I b.aa.aw.aq,I b.aa.aw.aw,I b.aa.aw.ax,I b.aa.ax.aj,I b.aa.ax.aq,I b.aa.ax.aw,I b.aa.ax.ax,I b.av]))
abbrev qd1 (b:bK) (y0:Int):=(cA.l (cA.mk (cW (du.l b.aa) (y0 * ((4:Nat):Int) + ((0:Nat):Int))) (cW (du.l b.aa) (y0 * ((4:Nat):Int) + ((1:Nat):Int))) (cW (du.l b.aa) (y0 * ((4:Nat):Int) + ((2:Nat):Int))) (cW (du.l b.aa) (y0 * ((4:Nat):Int) + ((3:Nat):Int)))))
abbrev qd2 := (.box [I 0,I 0,I 0,I 0,I 0,I 0,I 0,I 0,I 0,I 0] 81 false:br)
abbrev qd3 (t:bO):=(.box [I t.aC,I t.ap.aj,I t.ap.aq,I t.ap.aw,I t.ap.ax,I t.ak.aj,I t.ak.aq,I t.ak.aw,I t.ak.ax] 79 false:br)
abbrev qd4 (y0) (y1):=([bg 6 (.ptr 1 0),bg 7 (.own 4),bg 82 (I ((eE y0).length:Int)),bg 83 (I y1)]:List (Nat × SC))
abbrev qd5 (y0):=([.gone,(qd2), .gone, .gone,bf 111 be.ty y0]:List br)
abbrev qd6 (b:bK):=([bg 0 (.pe (qd0 b) 17),bg 6 (.ptr 1 0)]:List (Nat × SC))
abbrev qd7 (b:bK) (y0) (y1):=(be.mk (bR .and .i64 y0 b.av) y1 false false false)
abbrev qd8 (t:bO) (u0) (u1):=(be.mk u0 (cW (cA.l t.ak) u1) true false false)
abbrev qd9 := (List be)
abbrev vF (t:bO) (y0):=(cW (cA.l t.ak) y0)
abbrev sR := sl 6 (.ptr 1 0)
abbrev GF (y0):=sl 82 (I ((eE y0).length:Int))
abbrev ul := sl 4 (.ptr 0 0)
abbrev uj (t:bO):=sl 17 (I t.aC)
abbrev Lg (b:bK) (y0:Int):=(cW (du.l b.aa) (y0 * ((4:Nat):Int) + ((0:Nat):Int)))
abbrev Lf (b:bK) (y0:Int):=(cW (du.l b.aa) (y0 * ((4:Nat):Int) + ((1:Nat):Int)))
abbrev Le (b:bK) (y0:Int):=(cW (du.l b.aa) (y0 * ((4:Nat):Int) + ((2:Nat):Int)))
abbrev Ld (b:bK) (y0:Int):=(cW (du.l b.aa) (y0 * ((4:Nat):Int) + ((3:Nat):Int)))
set_option maxHeartbeats 2000000 in
theorem DN (b:bK) (t:bO) (a:Int) (Q:bc -> Prop) (h:xr b t a Q):Ct 35 [.sv (.one (.pe (eu (.agg [I b.aa.aj.aj,I b.aa.aj.aq,I b.aa.aj.aw,I b.aa.aj.ax,I b.aa.aq.aj,I b.aa.aq.aq,I b.aa.aq.aw,I b.aa.aq.ax,I b.aa.aw.aj,I b.aa.aw.aq,I b.aa.aw.aw,I b.aa.aw.ax,I b.aa.ax.aj,I b.aa.ax.aq,I b.aa.ax.aw,I b.aa.ax.ax,I b.av])) 17)), .sv (.agg [I t.aC,I t.ap.aj,I t.ap.aq,I t.ap.aw,I t.ap.ax,I t.ak.aj,I t.ak.aq,I t.ak.aw,I t.ak.ax]), .sv (.one (I a))] [] Q (fun (r:bc)=>.sv (.agg [I r.ai.aC,I r.ai.ap.aj,I r.ai.ap.aq,I r.ai.ap.aw,I r.ai.ap.ax,I r.ai.ak.aj,I r.ai.ak.aq,I r.ai.ak.aw,I r.ai.ak.ax,I r.ay])):=by
 have ht:=bA
 refine Ct.body Tryz.func35 rfl rfl rfl rfl (fun c hn=>?_)
 unfold xr at h
 refine bk hn ?_
 refine bk hn ?_
 refine bi (bp (cw ht hn 3 ⟨ba 2 a :: ul :: bg 7 (.v (.slice none 0 0)) :: (uj t) :: ba 18 0 :: (qd6 b),[qd3 t,qd2]⟩ ?_))
 refine bj (iw 7 4 111 be.ty (by rfl) (by rfl) ?_)
 refine dV h (fun zz=>⟨[bg 0 (.pe (qd0 b) 17),ba 2 a,ul,sR,bx 7 4,uj t,ba 18 zz.1],[qd3 t,qd2, .gone, .gone,bf 111 be.ty zz.2]⟩) fun Inv mu x18 l4 h=>?_
 refine bk hn ?_
 refine bi (bv h (fun h=>?_) (fun h=>?_))
 refine bn (bi (bj (bk hn ?_)))
 refine bp (bC ht hn 2 ⟨ba 2 a :: ul :: bx 7 4 :: ba 8 x18 :: (uj t) :: ba 18 x18 :: ba 21 x18 :: bu 22 0 5 :: (qd6 b),[qd3 t,qd2, .gone, .gone,bf 111 be.ty l4]⟩ ?_)
 have hk:=h.1
 replace h:=h.2
 refine fe hn (dc (k:=x18) 0 5 (5 + (x18:Int).toNat * 1) ht rfl Tryz.underlying74 (by rfl) (by rfl) (by rfl) (by rfl) hk rfl) ?_
 refine fe hn (mm (cA.l t.ak) (k:=x18) (m:=4) 5 ht rfl (by rfl) (by rfl) (by rfl) (by rfl) (by rfl) (by rfl) (by rfl) (by omega) (by omega)) ?_
 refine bM hn ?_
 refine bi (bk hn ?_)
 refine bj (dV h (fun zz=>⟨[bg 0 (.pe (qd0 b) 17),ba 2 a,ul,sR,bx 7 4,ba 8 x18,bu 9 5 0,uj t,ba 18 x18,ba 26 zz.1],[qd3 t,qd2, .gone, .gone,bf 111 be.ty l4, .box [I zz.2,I (vF t x18),B true,B false,B false] 111 false]⟩) fun Inv_2 mu_2 x26 y50 h=>?_)
 refine bk hn ?_
 refine bi (bv h (fun h=>?_) (fun h=>?_))
 refine bn ?_
 obtain ⟨J,h,hJ⟩:=h
 refine bS (σ:=Int) (fun zz=>J zz) (fun zz=>⟨[bg 0 (.pe (qd0 b) 17),ba 2 a,ul,sR,bx 7 4,ba 8 x18,bu 9 5 0,uj t,ba 18 x18,ba 26 x26],[qd3 t,qd2, .gone, .gone,bf 111 be.ty l4, .box [I zz,I (vF t x18),B true,B false,B false] 111 false]⟩) ?_ ?_
 refine bj (bk hn ?_)
 refine bp (bC ht hn 2 ⟨ba 2 a :: ul :: bx 7 4 :: ba 8 x18 :: bu 9 5 0 :: ba 10 x26 :: (uj t) :: ba 18 x18 :: ba 26 x26 :: ba 29 x18 :: bu 30 0 1 :: (qd6 b),[qd3 t,qd2, .gone, .gone,bf 111 be.ty l4, .box [I y50,I (vF t x18),B true,B false,B false] 111 false]⟩ ?_)
 have hk_2:=h.1
 replace h:=h.2
 refine fe hn (dc (k:=x18) 0 1 (1 + (x18:Int).toNat * 1) ht rfl Tryz.underlying74 (by rfl) (by rfl) (by rfl) (by rfl) hk_2 rfl) ?_
 refine fe hn (mm (cA.l t.ap) (k:=x18) (m:=4) 1 ht rfl (by rfl) (by rfl) (by rfl) (by rfl) (by rfl) (by rfl) (by rfl) (by omega) (by omega)) ?_
 refine bC ht hn 1 ⟨ba 2 a :: ul :: bx 7 4 :: ba 8 x18 :: bu 9 5 0 :: ba 10 x26 :: (uj t) :: ba 18 x18 :: ba 26 x26 :: ba 32 (cW (cA.l t.ap) x18) :: ba 33 x26 :: (qd6 b),[qd3 t,qd2, .gone, .gone,bf 111 be.ty l4, .box [I y50,I (vF t x18),B true,B false,B false] 111 false]⟩ ?_
 have hz:=h.1
 replace h:=h.2
 refine fe hn (nU (u:=(cW (cA.l t.ap) x18)) (v:=x26) rfl (by rfl) (by rfl) hz (.inr ⟨rfl,rfl⟩)) ?_
 refine bM hn ?_
 refine bv h (fun h=>?_) (fun h=>?_)
 have hk_3:=h.1
 replace h:=h.2
 have hk_4:=h.1
 replace h:=h.2
 refine da ⟨ba 2 a :: ul :: bx 7 4 :: ba 8 x18 :: bu 9 5 0 :: ba 10 x26 :: (uj t) :: ba 18 x18 :: ba 26 x26 :: (qd6 b),[cQ 5 0,bq y50,o1 (.pe (qd0 b) 17),bq x26,bq a,o1 (.pe (qd0 b) 17),o1 (.pe (eu (.agg [I b.aa.aj.aj,I b.aa.aj.aq,I b.aa.aj.aw,I b.aa.aj.ax,I b.aa.aq.aj,I b.aa.aq.aq,I b.aa.aq.aw,I b.aa.aq.ax,I b.aa.aw.aj,I b.aa.aw.aq,I b.aa.aw.aw,I b.aa.aw.ax,I b.aa.ax.aj,I b.aa.ax.aq,I b.aa.ax.aw,I b.aa.ax.ax])) 16),o1 (.pe (eu (.agg [I (Lg b x26),I (Lf b x26),I (Le b x26),I (Ld b x26)])) 4),o1 (.pe (eu (.one (I (cW (qd1 b x26) a)))) 1),bq (cW (qd1 b x26) a),bq (bR .or .i64 y50 (cW (qd1 b x26) a)),cQ 5 0,bJ],[bU (qd3 t),bU (qd2),bU .gone,bU .gone,bU (bf 111 be.ty l4),⟨.box [I y50,I (vF t x18),B true,B false,B false] 111 false,none,none,some (12, .box [I (bR .or .i64 y50 (cW (qd1 b x26) a)),I (vF t x18),B true,B false,B false] 111 false)⟩]⟩ hn ?_ ?_
 exact ⟨.e,
 .e,
 .e,
 .e,
 .e,
 .e,
 .v (bX (aB (l:=[I b.aa.aj.aj,I b.aa.aj.aq,I b.aa.aj.aw,I b.aa.aj.ax,I b.aa.aq.aj,I b.aa.aq.aq,I b.aa.aq.aw,I b.aa.aq.ax,I b.aa.aw.aj,I b.aa.aw.aq,I b.aa.aw.aw,I b.aa.aw.ax,I b.aa.ax.aj,I b.aa.ax.aq,I b.aa.ax.aw,I b.aa.ax.ax,I b.av]) (r:=.agg [I b.aa.aj.aj,I b.aa.aj.aq,I b.aa.aj.aw,I b.aa.aj.ax,I b.aa.aq.aj,I b.aa.aq.aq,I b.aa.aq.aw,I b.aa.aq.ax,I b.aa.aw.aj,I b.aa.aw.aq,I b.aa.aw.aw,I b.aa.aw.ax,I b.aa.ax.aj,I b.aa.ax.aq,I b.aa.ax.aw,I b.aa.ax.ax]) rfl)),
 .vl ⟨[ba 40 x26,bg 43 (.pe (eu (.agg [I b.aa.aj.aj,I b.aa.aj.aq,I b.aa.aj.aw,I b.aa.aj.ax,I b.aa.aq.aj,I b.aa.aq.aq,I b.aa.aq.aw,I b.aa.aq.ax,I b.aa.aw.aj,I b.aa.aw.aq,I b.aa.aw.aw,I b.aa.aw.ax,I b.aa.ax.aj,I b.aa.ax.aq,I b.aa.ax.aw,I b.aa.ax.ax])) 16)],[]⟩ (bX (IL (L:=(du.l b.aa)) (k:=x26) (r:=[I (Lg b x26),I (Lf b x26),I (Le b x26),I (Ld b x26)]) (fs:=3) ht rfl Tryz.underlying75 (by rfl) (by rfl) (by rfl) (by rfl) (by rfl) (by rfl) (by rfl) hk_3)),
 .vl ⟨[ba 41 a,bg 44 (.pe (eu (.agg [I (Lg b x26),I (Lf b x26),I (Le b x26),I (Ld b x26)])) 4)],[]⟩ (bX (IM (L:=(qd1 b x26)) (k:=a) ht rfl Tryz.underlying74 (by rfl) (by rfl) (by rfl) (by rfl) (by rfl) hk_4)),
 .v (bX (lD (s:=.one (I (cW (qd1 b x26) a))) rfl)),
 .e,
 .e,
 .mu ⟨[ba 47 (bR .or .i64 y50 (cW (qd1 b x26) a)),bu 48 5 0],[.gone, .gone, .gone, .gone, .gone, .box [I y50,I (vF t x18),B true,B false,B false] 111 false]⟩ 5 _ _ rfl rfl (by kernel_rfl) (by rfl) (eY ht rfl (by rfl) (by rfl) (by rfl) (by rfl) (fun h=>by cases h) (by rfl) (by rfl)) rfl rfl rfl rfl rfl rfl rfl,
 trivial⟩
 exact bZ (bR .or .i64 y50 (cW (qd1 b x26) a)) h
 exact bn (bZ y50 h)
 intro y50_2 h
 replace h:=hJ _ h
 exact cn hn ((wr (x26 + 1)),y50_2) h
 refine bD rfl (bI (bC ht hn 2 ⟨ba 2 a :: ul :: (uj t) :: ba 18 x18 :: bx 50 4 :: (51, .sv (.agg [I y50,I (vF t x18),B true,B false,B false])) :: (qd6 b),[qd3 t,qd2, .gone, .gone,bf 111 be.ty l4, .gone]⟩ ?_))
 refine dg (K:=[]) (p:=some (6,bf 111 be.ty ([qd8 t y50 x18]:qd9))) hn (by rfl) (lI (T:=be.ty) ([qd8 t y50 x18]:qd9) 6 rfl) (by rfl) (by rfl) (by rfl) ?_
 refine dE (T:=be.ty) (l:=([qd8 t y50 x18]:qd9)) (e:=111) 6 rfl ?_
 refine bC ht hn 0 ⟨ba 2 a :: ul :: (uj t) :: ba 18 x18 :: bx 50 4 :: (51, .sv (.agg [I y50,I (vF t x18),B true,B false,B false])) :: bg 52 (LS be.ty ([qd8 t y50 x18]:qd9)) :: (qd6 b),[qd3 t,qd2, .gone, .gone,bf 111 be.ty l4, .gone, .gone]⟩ ?_
 obtain ⟨hp,h⟩:=h
 refine jF (S2:=⟨ba 2 a :: ul :: (uj t) :: ba 18 x18 :: (51, .sv (.agg [I y50,I (vF t x18),B true,B false,B false])) :: bg 52 (LS be.ty ([qd8 t y50 x18]:qd9)) :: (qd6 b),[qd3 t,qd2, .gone, .gone,bf 111 be.ty l4, .gone, .gone]⟩) (K:=[4]) (p:=some (4,bf 111 be.ty (l4 ++ ([qd8 t y50 x18]:qd9)))) hn (by rfl) (aP (T:=be.ty) (l:=l4) (es:=([qd8 t y50 x18]:qd9)) rfl hp) (by kernel_rfl) (by rfl) (by rfl) (by rfl) ?_
 refine bM hn ?_
 exact cn hn ((wr (x18 + 1)),(l4 ++ ([qd8 t y50 x18]:qd9))) h
 refine bD rfl (bi (bk hn ?_))
 refine bj (dV h (fun zz=>⟨[bg 0 (.pe (qd0 b) 17),sR,bx 7 4,ba 56 t.aC,ba 57 zz.1],[.gone,qd2, .gone, .gone,bf 111 be.ty zz.2]⟩) fun Inv_3 mu_3 x57 l4_2 h=>?_)
 refine bk hn ?_
 refine bi (bv h (fun h=>?_) (fun h=>?_))
 refine bn ?_
 obtain ⟨J_2,h,hJ_2⟩:=h
 refine bS (σ:=qd9) (fun zz=>J_2 zz) (fun zz=>⟨[bg 0 (.pe (qd0 b) 17),sR,bx 7 4,ba 56 t.aC,ba 57 x57],[.gone,qd2, .gone, .gone,bf 111 be.ty zz]⟩) ?_ ?_
 refine bj (bk hn ?_)
 refine bi ?_
 obtain ⟨e,he,h⟩:=h
 refine da ⟨bx 7 4 :: ba 11 x57 :: ba 56 t.aC :: ba 57 x57 :: (qd6 b),[cu 4,bq x57,o1 (.oe 4 (x57).toNat 5),o1 (.oe 4 ((x57).toNat * 5 + 0) 1),bq e.ap,o1 (.pe (qd0 b) 17),o1 (.pe (qd0 b) 17),o1 (.pe (eu (.one (I b.av))) 1),bq b.av,bq (bR .and .i64 e.ap b.av),bq (bR .and .i64 e.ap b.av)],[bU .gone,bU (qd2),bU .gone,bU .gone,bU (bf 111 be.ty l4_2)]⟩ hn ?_ ?_
 exact ⟨.e,
 .e,
 .i (T:=be.ty) rfl he,
 .f (k:=(x57).toNat) rfl,
 .x (T:=be.ty) (fo:=0) (z:=I e.ap) rfl (bs he).2.2,
 .e,
 .e,
 .v (bX (aB (l:=[I b.aa.aj.aj,I b.aa.aj.aq,I b.aa.aj.aw,I b.aa.aj.ax,I b.aa.aq.aj,I b.aa.aq.aq,I b.aa.aq.aw,I b.aa.aq.ax,I b.aa.aw.aj,I b.aa.aw.aq,I b.aa.aw.aw,I b.aa.aw.ax,I b.aa.ax.aj,I b.aa.ax.aq,I b.aa.ax.aw,I b.aa.ax.ax,I b.av]) (r:=.one (I b.av)) rfl)),
 .v (bX (lD (s:=.one (I b.av)) rfl)),
 .e,
 .e,
 trivial⟩
 refine bk hn ?_
 refine bv h (fun h=>?_) (fun h=>?_)
 refine bI (bC ht hn 4 ⟨ba 56 t.aC :: ba 57 x57 :: bx 72 4 :: (75, .sv (.agg [I (bR .and .i64 e.ap b.av),I x57,B false,B false,B false])) :: (qd6 b),[.gone,qd2, .gone, .gone,bf 111 be.ty l4_2]⟩ ?_)
 refine dg (K:=[]) (p:=some (5,bf 111 be.ty ([qd7 b e.ap x57]:qd9))) hn (by rfl) (lI (T:=be.ty) ([qd7 b e.ap x57]:qd9) 5 rfl) (by rfl) (by rfl) (by rfl) ?_
 refine dE (T:=be.ty) (l:=([qd7 b e.ap x57]:qd9)) (e:=111) 5 rfl ?_
 refine bC ht hn 0 ⟨ba 56 t.aC :: ba 57 x57 :: bx 72 4 :: (75, .sv (.agg [I (bR .and .i64 e.ap b.av),I x57,B false,B false,B false])) :: bg 76 (LS be.ty ([qd7 b e.ap x57]:qd9)) :: (qd6 b),[.gone,qd2, .gone, .gone,bf 111 be.ty l4_2, .gone]⟩ ?_
 obtain ⟨hp,h⟩:=h
 refine jF (S2:=⟨ba 56 t.aC :: ba 57 x57 :: (75, .sv (.agg [I (bR .and .i64 e.ap b.av),I x57,B false,B false,B false])) :: bg 76 (LS be.ty ([qd7 b e.ap x57]:qd9)) :: (qd6 b),[.gone,qd2, .gone, .gone,bf 111 be.ty l4_2, .gone]⟩) (K:=[4]) (p:=some (4,bf 111 be.ty (l4_2 ++ ([qd7 b e.ap x57]:qd9)))) hn (by rfl) (aP (T:=be.ty) (l:=l4_2) (es:=([qd7 b e.ap x57]:qd9)) rfl hp) (by kernel_rfl) (by rfl) (by rfl) (by rfl) ?_
 refine bM hn ?_
 exact bZ (l4_2 ++ ([qd7 b e.ap x57]:qd9)) h
 exact bn (bZ l4_2 h)
 intro l4_3 h
 replace h:=hJ_2 _ h
 exact cn hn ((wr (x57 + 1)),l4_3) h
 refine bD rfl (bp (bC ht hn 1 ⟨[sR,bx 7 4,bx 79 4],[.gone,qd2, .gone, .gone,bf 111 be.ty l4_2]⟩ ?_))
 obtain ⟨hp,h⟩:=h
 refine kB (IG l4_2 hp) Nn [4] hn rfl ?_
 refine bH (bi (bk hn ?_))
 refine bj (dV h (fun zz=>⟨[sR,bx 7 4,GF l4_2,ba 83 zz.1],[.gone,qd2, .gone, .gone,bf 111 be.ty zz.2]⟩) fun Inv_4 mu_4 x83 l4_4 h=>?_)
 refine bk hn ?_
 refine bi (bv h (fun h=>?_) (fun h=>?_))
 refine bn ?_
 obtain ⟨J_3,h,hJ_3⟩:=h
 refine bS (σ:=qd9) (fun zz=>J_3 zz) (fun zz=>⟨(qd4 l4_2 x83),[.gone,qd2, .gone, .gone,bf 111 be.ty zz]⟩) ?_ ?_
 refine bj (bk hn ?_)
 refine bk hn ?_
 refine bi (bk hn ?_)
 refine bj (dV h (fun zz=>⟨[sR,bx 7 4,ba 13 x83,ba 14 zz.1,GF l4_2,ba 83 x83,ba 87 (l4_4.length:Int),ba 88 zz.2],(qd5 l4_4)⟩) fun Inv_5 mu_5 x14 x88 h=>?_)
 refine bk hn ?_
 refine bi (bv h (fun h=>?_) (fun h=>?_))
 refine bn ?_
 obtain ⟨J_4,h,hJ_4⟩:=h
 refine bS (σ:=Int) (fun zz=>J_4 zz) (fun zz=>⟨[sR,bx 7 4,ba 13 x83,ba 14 zz,GF l4_2,ba 83 x83,ba 87 (l4_4.length:Int),ba 88 x88],(qd5 l4_4)⟩) ?_ ?_
 refine bj (bk hn ?_)
 obtain ⟨J_5,h,hJ_5⟩:=h
 refine bS (σ:=Bool) (fun zz=>J_5 zz) (fun zz=>⟨[sR,bx 7 4,ba 13 x83,ba 14 x14,ba 15 x88,GF l4_2,ba 83 x83,ba 87 (l4_4.length:Int),ba 88 x88,bG 105 zz],(qd5 l4_4)⟩) ?_ ?_
 refine bI (cN hn 2 ?_)
 obtain ⟨e_2,he_2,h⟩:=h
 refine bT hn (iO (T:=be.ty) rfl he_2) ?_
 refine bT hn (fO (k:=(x88).toNat) rfl) ?_
 refine bT hn (lF (T:=be.ty) (fo:=1) (z:=I e_2.ak) rfl (bs he_2).2.2) ?_
 refine cN hn 3 ?_
 refine cz (e_2.ak == x83) (fun hb=>?_) (fun hb=>?_)
 replace h:=h.1 hb
 refine cf 98 hb ?_
 refine cN hn 2 ?_
 obtain ⟨e_3,he_3,h⟩:=h
 refine bT hn (iO (T:=be.ty) rfl he_3) ?_
 refine bT hn (fO (k:=(x88).toNat) rfl) ?_
 refine bT hn (lF (T:=be.ty) (fo:=3) (z:=B e_3.aF) rfl (bs he_3).2.2) ?_
 refine bM hn ?_
 exact bZ (!e_3.aF) h
 replace h:=h.2 hb
 refine cf 98 hb ?_
 refine bM hn ?_
 exact bZ false h
 intro x105 h
 replace h:=hJ_5 _ h
 refine bv h (fun h=>?_) (fun h=>?_)
 refine bI (cN hn 3 ?_)
 obtain ⟨e_4,he_4,h⟩:=h
 refine bT hn (iO (T:=be.ty) rfl he_4) ?_
 refine bT hn (fO (k:=(x88).toNat) rfl) ?_
 refine bT hn (lF (T:=be.ty) (fo:=0) (z:=I e_4.ap) rfl (bs he_4).2.2) ?_
 refine bM hn ?_
 exact bZ (bR .or .i64 x14 e_4.ap) h
 exact bn (bZ x14 h)
 intro x14_2 h
 replace h:=hJ_4 _ h
 exact cn hn (x14_2,(wr (x88 + 1))) h
 refine bD rfl ?_
 obtain ⟨J_6,h,hJ_6⟩:=h
 refine bS (σ:=Bool) (fun zz=>J_6 zz) (fun zz=>⟨[sR,bx 7 4,ba 13 x83,GF l4_2,ba 83 x83,bG 132 zz],(qd5 l4_4)⟩) ?_ ?_
 refine bI (cN hn 2 ?_)
 obtain ⟨e_5,he_5,h⟩:=h
 refine bT hn (iO (T:=be.ty) rfl he_5) ?_
 refine bT hn (fO (k:=(x83).toNat) rfl) ?_
 refine bT hn (lF (T:=be.ty) (fo:=3) (z:=B e_5.aF) rfl (bs he_5).2.2) ?_
 refine cN hn 2 ?_
 refine cz (!e_5.aF) (fun hb=>?_) (fun hb=>?_)
 replace h:=h.1 hb
 refine cf 120 hb ?_
 refine cN hn 3 ?_
 obtain ⟨e_6,he_6,h⟩:=h
 refine bT hn (iO (T:=be.ty) rfl he_6) ?_
 refine bT hn (fO (k:=(x83).toNat) rfl) ?_
 refine bT hn (lF (T:=be.ty) (fo:=0) (z:=I e_6.ap) rfl (bs he_6).2.2) ?_
 refine bC ht hn 3 ⟨ba 13 x83 :: ba 14 x14 :: bG 129 (x14 == e_6.ap) :: (qd4 l4_2 x83),(qd5 l4_4)⟩ ?_
 refine eB ⟨ba 13 x83 :: bG 132 ((x14 == e_6.ap) && (x14 != 0)) :: (qd4 l4_2 x83),(qd5 l4_4)⟩ ?_ ?_
 refine cz (x14 == e_6.ap) (fun hb0=>?_) (fun hb0=>?_)
 refine cf 129 hb0 ?_
 refine bC ht hn 3 ⟨ba 13 x83 :: bG 132 (x14 != 0) :: (qd4 l4_2 x83),(qd5 l4_4)⟩ ?_
 exact bH (sub_ok (by simp only [hb0]; kernel_rfl))
 refine cf 129 hb0 ?_
 refine bC ht hn 3 ⟨ba 13 x83 :: bG 132 false :: (qd4 l4_2 x83),(qd5 l4_4)⟩ ?_
 exact bH (sub_ok (by simp only [hb0]; kernel_rfl))
 exact bZ ((x14 == e_6.ap) && (x14 != 0)) h
 replace h:=h.2 hb
 refine cf 120 hb ?_
 refine bM hn ?_
 exact bZ false h
 intro x132 h
 replace h:=hJ_6 _ h
 refine bv h (fun h=>?_) (fun h=>?_)
 refine bp (bC ht hn 2 ⟨ba 13 x83 :: bx 133 4 :: ba 134 x83 :: (qd4 l4_2 x83),(qd5 l4_4)⟩ ?_)
 obtain ⟨e_7,he_7,h⟩:=h
 refine fe hn (ic (T:=be.ty) (l:=l4_4) (k:=x83) ht rfl (by rfl) (by rfl) (by rfl) (by rfl) (by decide) (by rfl) (by rfl) (by rfl) he_7) ?_
 refine fe hn (jd (k:=(x83).toNat) ht rfl (by rfl) (by rfl) (by rfl) (by rfl)) ?_
 refine H8 rfl (by rfl) (kw (T:=be.ty) (l:=l4_4) (k:=(x83).toNat) (fo:=4) (y:=e_7) (y':=(be.mk e_7.ap e_7.ak e_7.aI e_7.aF true)) (z:=B true) ht rfl (by rfl) (by rfl) (fun _ h=>by cases h) rfl rfl (dM rfl) rfl (by rfl) (fun h=>by cases h) (by rfl) (by rfl) (bs he_7).2.2 (by rfl)) (by rfl) rfl rfl ?_
 refine bH (bI (bC ht hn 2 ⟨bx 137 4 :: ba 138 x83 :: (qd4 l4_2 x83),[.gone,qd2, .gone, .gone,bf 111 be.ty (l4_4.set (x83).toNat (be.mk e_7.ap e_7.ak e_7.aI e_7.aF true))]⟩ ?_))
 obtain ⟨hp,h⟩:=h
 refine kB (IE (l4_4.set (x83).toNat (be.mk e_7.ap e_7.ak e_7.aI e_7.aF true)) x83 hp) Nm [4] hn rfl ?_
 exact bH (bZ (ip (l4_4.set (x83).toNat (be.mk e_7.ap e_7.ak e_7.aI e_7.aF true)) (x83:Int).toNat) h)
 exact bn (bZ l4_4 h)
 intro l4_5 h
 replace h:=hJ_3 _ h
 exact cn hn ((wr (x83 + 1)),l4_5) h
 refine bD rfl (bp (bC ht hn 1 ⟨[sR,bx 141 4],(qd5 l4_4)⟩ ?_))
 refine dE (T:=be.ty) (l:=l4_4) (e:=111) 4 rfl ?_
 refine cN hn 0 ?_
 obtain ⟨hp,h⟩:=h
 refine fK hn (cL (Iv l4_4 hp) Nl rfl) ?_
 refine bM hn ?_
 exact fL ht (eF l4_4) h
theorem NI : ∀ args w,(callFunc 35 args).run Tryz.prog w=.ok (.enter 35 args) w:=enters_of Tryz.func35 (by kernel_rfl) rfl
theorem tst {s:Int} (hs:lb s) {q:Nat} (hq:q <= 4):(bR .and .i64 (Int.fdiv s (2 ^ (min ((q:Int)).toNat 64))) 1 == 1)=cM s (q:Int):=by
 have h1:=hs.1
 have h2:=hs.2
 rw [LJ ⟨h1,by omega⟩ ⟨by omega,by omega⟩]
 cases cM s (q:Int) <;> rfl
theorem FI.pre {l0 c l:List be} {n:Nat} (ho:zN l0) (hc:CnR l0 c) (h:FI c l n):xl l:=by
 have e:l.length=l0.length:=h.len.trans hc.len
 have:=ho.len
 refine ⟨by omega,fun k hk=>?_⟩
 rw [(h.same k).2.1,(hc.same k (by omega)).1]
 have:=ho.up k (by omega)
 omega
theorem zN.pre {l:List be} (ho:zN l):xl l:=by
 have:=ho.len
 exact ⟨by omega,fun k hk=>by have:=ho.up k hk; omega⟩
theorem Iw (b:bK) (t:bO) (a:Int) (hp:BOk b /\ TOk t /\ 0 <= a /\ a < 4)  : Ct 35 [.sv (.one (.pe (eu (.agg [I b.aa.aj.aj,I b.aa.aj.aq,I b.aa.aj.aw,I b.aa.aj.ax,I b.aa.aq.aj,I b.aa.aq.aq,I b.aa.aq.aw,I b.aa.aq.ax,I b.aa.aw.aj,I b.aa.aw.aq,I b.aa.aw.aw,I b.aa.aw.ax,I b.aa.ax.aj,I b.aa.ax.aq,I b.aa.ax.aw,I b.aa.ax.ax,I b.av])) 17)), .sv (.agg [I t.aC,I t.ap.aj,I t.ap.aq,I t.ap.aw,I t.ap.ax,I t.ak.aj,I t.ak.aq,I t.ak.aw,I t.ak.ax]), .sv (.one (I a))] [] (fun (_:Unit)=>True) (fun _=>.sv (.agg [I (kJ b t a).ai.aC,I (kJ b t a).ai.ap.aj,I (kJ b t a).ai.ap.aq,I (kJ b t a).ai.ap.aw,I (kJ b t a).ai.ap.ax,I (kJ b t a).ai.ak.aj,I (kJ b t a).ai.ak.aq,I (kJ b t a).ai.ak.aw,I (kJ b t a).ai.ak.ax,I (kJ b t a).ay])):=by
 refine (DN b t a (fun res_=>res_=(kJ b t a)) ?_).fun
 obtain ⟨hb,ht,ha⟩:=hp
 have hn4:=ht.n4
 have hm:=Hd hb ht ha
 have hcast:t.aC=((nT t:Nat):Int):=by
  have:=ht.cnt
  unfold nT
  omega
 unfold xr
 rw [hcast]
 obtain ⟨n,hn⟩:∃ n,n=nT t:=⟨_,rfl⟩
 rw [<- hn] at hn4 ⊢
 refine ⟨fun x l=>∃ k:Nat,x=k /\ k <= n /\ l=kq b t a k,fun x _=>n - x.toNat,⟨0,rfl,cy _,rfl⟩,?_⟩
 rintro x l ⟨k,rfl,hk,rfl⟩
 have rl:=(xZ (b:=b) (t:=t) (a:=a) k).1
 refine ⟨fun hb1=>?_,fun hb1=>?_⟩
 ·have hlt:=dlt hb1
  have hlb:lb (tl t k):=ht.lb k (by omega)
  refine ⟨⟨by omega,by omega⟩,fun x y=>∃ q:Nat,x=q /\ q <= 4 /\ y=k9 b t a k q,fun x _=>4 - x.toNat,⟨0,rfl,by decide,rfl⟩,?_⟩
  rintro x y ⟨q,rfl,hq,rfl⟩
  refine ⟨fun hb2=>?_,fun hb2=>?_⟩
  ·have hq4:q < 4:=dlt (n:=4) hb2
   refine ⟨fun y=>y=k9 b t a k (q + 1),⟨⟨by omega,by omega⟩,by omega,fun c=>?_,fun c=>?_⟩,?_⟩
   ·rw [tst hlb hq] at c
    refine ⟨⟨by omega,by omega⟩,ha,?_⟩
    rw [k9,if_pos c]
    rfl
   ·rw [tst hlb hq] at c
    rw [k9,if_neg (by rw [c]; simp)]
   ·rintro _ rfl
    exact ⟨⟨q + 1,dj (by omega),hq4,rfl⟩,dQ hq4 (by omega)⟩
  ·have hq4:4 <= q:=dge (n:=4) hb2
   have e:q=4:=by omega
   subst e
   exact ⟨eI (by rw [rl]; simp only [dq,dI]; omega),⟨k + 1,dj (by omega),hlt,rfl⟩,dQ hlt (by omega)⟩
 ·have hge:=dge hb1
  have e:k=n:=by omega
  subst e
  have L0:∀ m,m <= k -> L0R b t a k m (jA b (kq b t a k) m):=fun m hm2=>tF m hm2
  refine ⟨fun x l=>∃ m:Nat,x=m /\ m <= k /\ l=jA b (kq b t a k) m,fun x _=>k - x.toNat,⟨0,rfl,cy _,rfl⟩,?_⟩
  rintro x l ⟨m,rfl,hmk,rfl⟩
  have hL:=(L0 m hmk).len
  refine ⟨fun hb2=>?_,fun hb2=>?_⟩
  ·have hlt:=dlt hb2
   refine ⟨fun l=>l=jA b (kq b t a k) (m + 1),⟨_,ix rfl rfl (by omega),fun c=>?_,fun c=>?_⟩,?_⟩
   ·have c:bR .and .i64 (gx (jA b (kq b t a k) m) m).ap b.av ≠ 0:=by simpa using c
    refine ⟨eI (by simp only [dq,dI]; omega),?_⟩
    rw [jA,if_pos c]
   ·have c:¬ bR .and .i64 (gx (jA b (kq b t a k) m) m).ap b.av ≠ 0:=by simpa using c
    rw [jA,if_neg c]
   ·rintro _ rfl
    exact ⟨⟨m + 1,dj (by omega),hlt,rfl⟩,dQ hlt (by omega)⟩
  ·have hge2:=dge hb2
   have e:m=k:=by omega
   subst e
   have eA:jA b (kq b t a m) m=pq b t a:=by
    unfold pq
    rw [<- hn]
   rw [eA]
   have fall:=FI.all hm.ok hm.cr
   have clen:=hm.len.2
   have l12:=hm.ok.len
   refine ⟨hm.ok.pre,?_⟩
   obtain ⟨c,hc⟩:∃ c,c=eE (pq b t a):=⟨_,rfl⟩
   have hmid:Lz b t a=kz c c.length:=by rw [hc]; rfl
   have hcr:=hm.cr
   have hok:=hm.ok
   rw [<- hc] at fall clen hcr ⊢
   refine ⟨fun x l=>∃ i:Nat,x=i /\ i <= c.length /\ l=kz c i,fun x _=>c.length - x.toNat,⟨0,rfl,cy _,rfl⟩,?_⟩
   rintro x l ⟨i,rfl,hi,rfl⟩
   have fi:=fall i hi
   have fl:=fi.len
   refine ⟨fun hb3=>?_,fun hb3=>?_⟩
   ·have hlt:=dlt hb3
    refine ⟨fun l=>l=kz c (i + 1),⟨fun y x=>∃ j:Nat,x=j /\ j <= (kz c i).length /\ y=gc (kz c i) i j,fun _ x=>(kz c i).length - x.toNat,⟨0,rfl,cy _,rfl⟩,?_⟩,?_⟩
    ·rintro y x ⟨j,rfl,hj,rfl⟩
     refine ⟨fun hb4=>?_,fun hb4=>?_⟩
     ·have hjl:=dlt hb4
      refine ⟨fun y=>y=gc (kz c i) i (j + 1),⟨fun r=>r=true ↔ (((gx (kz c i) j).ak == (i:Int))=true /\ (gx (kz c i) j).aF=false),⟨_,ix rfl rfl hjl,fun d=>⟨_,ix rfl rfl hjl,?_⟩,fun d=>?_⟩,fun r hr=>⟨fun d=>⟨_,ix rfl rfl hjl,?_⟩,fun d=>?_⟩⟩,?_⟩
      ·rw [d]
       simp
      ·rw [d]
       simp
      ·rw [gc,if_pos (hr.1 d)]
      ·rw [gc,if_neg fun x=>by rw [hr.2 x] at d; cases d]
      ·rintro _ rfl
       exact ⟨⟨j + 1,dj (by omega),hjl,rfl⟩,dQ hjl (by omega)⟩
     ·have hjl:=dge hb4
      have e:j=(kz c i).length:=by omega
      subst e
      refine ⟨fun r=>r=true ↔ ((gx (kz c i) i).aF=false /\ gc (kz c i) i (kz c i).length=(gx (kz c i) i).ap /\ gc (kz c i) i (kz c i).length ≠ 0),⟨_,ix rfl fl hlt,fun d=>⟨_,ix rfl fl hlt,?_⟩,fun d=>?_⟩,fun r hr=>⟨fun d=>⟨_,ix rfl fl hlt,⟨?_,by omega,?_⟩,?_⟩,fun d=>?_⟩⟩
      ·have d:(gx (kz c i) i).aF=false:=by simpa using d
       simp [d]
      ·have d:(gx (kz c i) i).aF=true:=by simpa using d
       simp [d]
      ·have:=fi.pre hok hcr
       rw [bE]
       refine ⟨by rw [cK]; exact this.1,fun k hk=>?_⟩
       rw [cK] at hk ⊢
       refine Int.lt_of_le_of_lt (Int.le_of_eq (lE (i:=i) (by omega) (by rfl))) ?_
       exact this.2 k hk
      ·rw [cK]
       omega
      ·rw [kz,AM,if_pos (hr.1 d)]
       rfl
      ·rw [kz,AM,if_neg fun x=>by rw [hr.2 x] at d; cases d]
    ·rintro _ rfl
     exact ⟨⟨i + 1,dj (by omega),hlt,rfl⟩,dQ hlt (by omega)⟩
   ·have hge3:=dge hb3
    have e:i=c.length:=by omega
    subst e
    rw [<- hmid]
    exact ⟨hm.toldPre.1,rfl⟩
theorem TOk.frs {t:bO} (h:TOk t):Frs (fun k=>k < nT t) (fun k q=>cM (tl t k) q=true) (ta t):=by
 refine ⟨fun k hk h0=>?_,fun k hk h0=>?_,fun j k q hj hk hjk e hq hq2=>?_⟩
 ·rcases kn k with c | c
  ·exact c
  ·have:=(h.up k hk c).1
   omega
 ·rcases kn k with c | c
  ·subst c
   rw [h.root hk] at h0
   omega
  ·have:=(h.up k hk c).2
   exact ⟨this,by omega⟩
 ·rw [h.sib j k q hjk hk e hq] at hq2
  cases hq2
theorem TOk.sub' {t:bO} (h:TOk t) (k:Nat) (q:Int) (hk:k < nT t) (h0:0 <= ta t k) (hq:cM (tl t k) q=true):cM (tl t (ta t k).toNat) q=true:=by
 rcases kn k with c | c
 ·subst c
  rw [h.root hk] at h0
  omega
 ·exact h.sub k q hk c hq
def gH (t:bO) (q:Int):Nat:=if 3 < nT t /\ cM (tl t 3) q=true then 3 else if 2 < nT t /\ cM (tl t 2) q=true then 2 else if 1 < nT t /\ cM (tl t 1) q=true then 1 else if 0 < nT t /\ cM (tl t 0) q=true then 0 else 3
theorem hO (t:bO) (q:Int):gH t q <= 3:=by
 unfold gH
 repeat' split
 all_goals omega
theorem ym {t:bO} (h:TOk t) {q:Int} {i:Nat} (hi:i < nT t) (hq:cM (tl t i) q=true):i <= gH t q /\ gH t q < nT t /\ cM (tl t (gH t q)) q=true:=by
 have h4:=h.n4
 have i4:i < 4:=gv hi h4
 unfold gH
 repeat' split
 ·rename_i c
  exact ⟨by show i <= 3; omega,c⟩
 ·rename_i c d
  refine ⟨?_,d⟩
  rcases dA 2 i with x | x
  ·rw [show i=3 by omega] at hi hq
   exact absurd ⟨hi,hq⟩ c
  ·exact x
 ·rename_i c d e
  refine ⟨?_,e⟩
  rcases dA 1 i with x | x
  ·have:i=2 \/ i=3:=by omega
   rcases this with rfl | rfl
   ·exact absurd ⟨hi,hq⟩ d
   ·exact absurd ⟨hi,hq⟩ c
  ·exact x
 ·rename_i c d e f
  refine ⟨?_,f⟩
  rcases dA 0 i with x | x
  ·have:i=1 \/ i=2 \/ i=3:=by omega
   rcases this with rfl | rfl | rfl
   ·exact absurd ⟨hi,hq⟩ e
   ·exact absurd ⟨hi,hq⟩ d
   ·exact absurd ⟨hi,hq⟩ c
  ·exact x
 ·rename_i c d e f
  have:i=0 \/ i=1 \/ i=2 \/ i=3:=by omega
  rcases this with rfl | rfl | rfl | rfl
  ·exact absurd ⟨hi,hq⟩ f
  ·exact absurd ⟨hi,hq⟩ e
  ·exact absurd ⟨hi,hq⟩ d
  ·exact absurd ⟨hi,hq⟩ c
theorem Au {t:bO} {q:Int} (h:gH t q < 3):gH t q < nT t /\ cM (tl t (gH t q)) q=true:=by
 unfold gH at h ⊢
 repeat' split
 all_goals first | assumption | skip
 rename_i c d e f
 rw [if_neg c,if_neg d,if_neg e,if_neg f] at h
 omega
theorem Mh {t:bO} (h:TOk t) (h4:nT t=4) {q:Int} (hq:0 <= q /\ q < 4):∃ i,i < nT t /\ cM (tl t i) q=true:=by
 refine jq fun hno=>?_
 have:=h.frs.few (m:=[(0:Int),1,2,3].filter (fun x=>x ≠ q)) (fun k q hk h0 hq=>h.sub' k q hk h0 hq) (fun x hx=>by
  obtain ⟨r,r0,r1,r2⟩:=h.own x hx
  refine ⟨r,ga.2 ⟨in4 ⟨r0,AE (h.lb x hx) r1⟩,?_⟩,r1,fun k hk e=>by rw [r2 k hk e]; simp⟩
  rw [fu]
  rintro rfl
  exact hno ⟨x,hx,r1⟩) (l:=[0,1,2,3]) (by decide) (fun x hx=>by
  rw [h4]
  simp only [eh,mc,or_false] at hx
  omega)
 have e:q=0 \/ q=1 \/ q=2 \/ q=3:=by omega
 rcases e with rfl | rfl | rfl | rfl <;> exact absurd this (by decide)
theorem Lt {t:bO} (h:TOk t) {i:Nat} (hi:i < nT t):∃ q,(0 <= q /\ q < 4) /\ gH t q=i:=by
 obtain ⟨q,q0,q1,q2⟩:=h.own i hi
 refine ⟨q,⟨q0,AE (h.lb i hi) q1⟩,?_⟩
 obtain ⟨a1,a2,a3⟩:=ym h hi q1
 refine jq fun hne=>?_
 obtain ⟨k,_,k2,k3,k4⟩:=h.frs.kid (fun k q hk h0 hq=>h.sub' k q hk h0 hq) (gH t q) (gH t q) i (bP _) (by omega) hi a2 q1 a3
 have k4:cM (tl t k) q=true:=k4
 rw [q2 k k2 k3] at k4
 cases k4
def AX (t:bO):Nat:=if nT t=4 then 2 + (ta t 2).toNat + 2 * (ta t 3).toNat else (ta t 2).toNat
def cod (t:bO):Nat:=gH t 0 + 4 * gH t 1 + 16 * gH t 2 + 64 * gH t 3 + 256 * AX t
theorem ta2 {t:bO} (h:TOk t):0 <= ta t 2 /\ ta t 2 <= 1:=by
 by_cases c:2 < nT t
 ·have:=h.up 2 c (by decide)
  omega
 ·have:=(h.zero 2 (by omega) (by decide)).2
  omega
theorem ta3 {t:bO} (h:TOk t):0 <= ta t 3 /\ ta t 3 <= 2:=by
 by_cases c:3 < nT t
 ·have:=h.up 3 c (by decide)
  omega
 ·have:=(h.zero 3 (by omega) (by decide)).2
  omega
theorem yR {t:bO} (h:TOk t):AX t < 8 /\ (2 <= AX t ↔ nT t=4):=by
 have h2:=ta2 h
 have h3:=ta3 h
 unfold AX
 split <;> omega
theorem BX {t:bO} (h:TOk t):cod t < 2048:=by
 have:=yR h
 have:=hO t 0
 have:=hO t 1
 have:=hO t 2
 have:=hO t 3
 unfold cod
 omega
section
variable {t t':bO} (h:TOk t) (h':TOk t')
include h'
omit h in
theorem Dn (ho:∀ q,0 <= q /\ q < 4 -> gH t q=gH t' q) (hx:nT t <= 3):nT t' <= 3 -> nT t' <= nT t:=fun hx'=>by
 refine Nat.not_lt.1 fun hlt=>?_
 obtain ⟨q,q0,q1⟩:=Lt h' hlt
 have e:=ho q q0
 rw [q1] at e
 have:=(Au (t:=t) (q:=q) (by omega)).1
 omega
include h in
theorem MC (hn:nT t=nT t') (ha:∀ k,k < nT t -> ta t k=ta t' k) (ho:∀ q,0 <= q /\ q < 4 -> gH t q=gH t' q) {i:Nat} (hi:i < nT t) {q:Int} (q0:0 <= q) (hq:cM (tl t i) q=true):cM (tl t' i) q=true:=by
 have q4:q < 4:=AE (h.lb i hi) hq
 obtain ⟨a1,a2,a3⟩:=ym h hi hq
 have top:cM (tl t' (gH t q)) q=true:=by
  rw [ho q ⟨q0,q4⟩]
  by_cases c:gH t' q < 3
  ·exact (Au c).2
  ·have h4:=h.n4
   have e:=ho q ⟨q0,q4⟩
   have n4:nT t'=4:=by omega
   obtain ⟨j,j1,j2⟩:=Mh h' n4 ⟨q0,q4⟩
   exact (ym h' j1 j2).2.2
 have down:∀ n y,y <= n -> i <= y -> y < nT t -> cM (tl t y) q=true -> cM (tl t' y) q=true -> cM (tl t' i) q=true:=by
  intro n
  induction n with
  | zero=>intro y hy hiy _ _ r; rwa [show i=y by omega]
  | succ n ih =>
   intro y hy hiy hyn r1 r2
   rcases Nat.eq_or_lt_of_le hiy with e | e
   ·rwa [e]
   have up:=h.up y hyn (by omega)
   have s1:=h.sub y q hyn (by omega) r1
   have s2:=h'.sub y q (by omega) (by omega) r2
   rw [<- ha y hyn] at s2
   rcases dA (ta t y).toNat i with c | c
   ·obtain ⟨k,k1,k2,k3,k4⟩:=h.frs.kid (fun k q hk h0 hq=>h.sub' k q hk h0 hq) i i (ta t y).toNat (bP _) c (show (ta t y).toNat < nT t by omega) hi s1 hq
    have:=h.sib k y q (by omega) hyn (by omega) k4
    rw [r1] at this
    cases this
   ·exact ih (ta t y).toNat (by omega) c (by omega) s1 s2
 exact down _ (gH t q) (bP _) a1 a2 a3 top
end
theorem Gr {t t':bO} (hc:t.aC=t'.aC) (hl:∀ k,k < 4 -> tl t k=tl t' k) (ha:∀ k,k < 4 -> ta t k=ta t' k):t=t':=by
 obtain ⟨n,⟨l0,l1,l2,l3⟩,⟨a0,a1,a2,a3⟩⟩:=t
 obtain ⟨n',⟨l0',l1',l2',l3'⟩,⟨a0',a1',a2',a3'⟩⟩:=t'
 have e0:n=n':=hc
 have b0:l0=l0':=hl 0 (by decide)
 have b1:l1=l1':=hl 1 (by decide)
 have b2:l2=l2':=hl 2 (by decide)
 have b3:l3=l3':=hl 3 (by decide)
 have c0:a0=a0':=ha 0 (by decide)
 have c1:a1=a1':=ha 1 (by decide)
 have c2:a2=a2':=ha 2 (by decide)
 have c3:a3=a3':=ha 3 (by decide)
 subst e0 b0 b1 b2 b3 c0 c1 c2 c3
 rfl
theorem Kd {t t':bO} (h:TOk t) (h':TOk t') (e:cod t=cod t'):t=t':=by
 have x:=yR h
 have x':=yR h'
 have o0:=hO t 0
 have o1:=hO t 1
 have o2:=hO t 2
 have o3:=hO t 3
 have p0:=hO t' 0
 have p1:=hO t' 1
 have p2:=hO t' 2
 have p3:=hO t' 3
 unfold cod at e
 have e0:gH t 0=gH t' 0:=by omega
 have e1:gH t 1=gH t' 1:=by omega
 have e2:gH t 2=gH t' 2:=by omega
 have e3:gH t 3=gH t' 3:=by omega
 have ex:AX t=AX t':=by omega
 have ho:∀ q,0 <= q /\ q < 4 -> gH t q=gH t' q:=fun q hq=>by
  have:q=0 \/ q=1 \/ q=2 \/ q=3:=by omega
  rcases this with rfl | rfl | rfl | rfl <;> assumption
 have n4:=h.n4
 have n4':=h'.n4
 have hn:nT t=nT t':=by
  by_cases c:nT t=4
  ·rw [c]
   exact (x'.2.1 (by rw [<- ex]; exact x.2.2 c)).symm
  ·have c':¬ nT t'=4:=fun c'=>c (x.2.1 (by rw [ex]; exact x'.2.2 c'))
   have:=Dn h' ho (by omega) (by omega)
   have:=Dn h (fun q hq=>(ho q hq).symm) (by omega) (by omega)
   omega
 have t2:=ta2 h
 have t2':=ta2 h'
 have t3:=ta3 h
 have t3':=ta3 h'
 have ha:∀ k,k < 4 -> ta t k=ta t' k:=fun k hk=>by
  match k,hk with
  | 0,_ =>
   by_cases c:0 < nT t
   ·rw [h.root c,h'.root (by omega)]
   ·rw [(h.zero 0 (by omega) (by decide)).2,(h'.zero 0 (by omega) (by decide)).2]
  | 1,_ =>
   by_cases c:1 < nT t
   ·have:=h.up 1 c (by decide)
    have:=h'.up 1 (by omega) (by decide)
    omega
   ·rw [(h.zero 1 (by omega) (by decide)).2,(h'.zero 1 (by omega) (by decide)).2]
  | 2,_ =>
   unfold AX at ex
   rw [<- hn] at ex
   split at ex <;> omega
  | 3,_ =>
   by_cases c:3 < nT t
   ·unfold AX at ex
    rw [<- hn,if_pos (by omega),if_pos (by omega)] at ex
    omega
   ·rw [(h.zero 3 (by omega) (by decide)).2,(h'.zero 3 (by omega) (by decide)).2]
  | k + 4,hk=>omega
 have hcnt:t.aC=t'.aC:=by
  have:=h.cnt
  have:=h'.cnt
  unfold nT at hn
  omega
 refine Gr hcnt (fun k hk=>?_) ha
 by_cases c:k < nT t
 ·refine Hj (h.lb k c) (h'.lb k (by omega)) fun q q0=>?_
  rw [Bool.eq_iff_iff]
  exact ⟨MC h h' hn (fun k hk=>ha k (by omega)) ho c q0,MC h' h hn.symm (fun k hk=>(ha k (by omega)).symm) (fun q hq=>(ho q hq).symm) (by omega) q0⟩
 ·rw [(h.zero k (by omega) hk).1,(h'.zero k (by omega) hk).1]
def POk (p:bc):Prop:=TOk p.ai /\ 1 <= p.ay /\ p.ay <= 9
def vb (p:bc):Nat:=cod p.ai + 2048 * (p.ay.toNat - 1)
theorem HO {p p':bc} (h:POk p) (h':POk p') (e:vb p=vb p'):p=p':=by
 obtain ⟨t,m⟩:=p
 obtain ⟨t',m'⟩:=p'
 have c:=BX h.1
 have c':=BX h'.1
 have b:=h.2
 have b':=h'.2
 unfold vb at e
 have e:cod t + 2048 * (m.toNat - 1)=cod t' + 2048 * (m'.toNat - 1):=e
 have c:cod t < 2048:=c
 have c':cod t' < 2048:=c'
 have b:1 <= m /\ m <= 9:=b
 have b':1 <= m' /\ m' <= 9:=b'
 have e1:t=t':=Kd h.1 h'.1 (by omega)
 have e2:m=m':=by omega
 rw [e1,e2]
theorem GU : ∃ m:List bc,(∀ p,p ∈ m ↔ POk p) /\ m.length <= 18432:=by
 classical
 let f:Nat -> Option bc:=fun c=>if h:∃ p,POk p /\ vb p=c then some (Classical.choose h) else none
 refine ⟨(List.range 18432).filterMap f,fun p=>⟨fun hp=>?_,fun hp=>?_⟩,?_⟩
 ·obtain ⟨c,_,hc⟩:=oP.1 hp
  have hc:(if h:∃ p,POk p /\ vb p=c then some (Classical.choose h) else none)=some p:=hc
  split at hc
  ·rename_i h
   cases hc
   exact (gf h).1
  ·cases hc
 ·refine oP.2 ⟨vb p,?_,?_⟩
  ·rw [d6]
   have:=BX hp.1
   have:=hp.2
   unfold vb
   omega
  ·have h:∃ p',POk p' /\ vb p'=vb p:=⟨p,hp,rfl⟩
   show (if h:∃ p',POk p' /\ vb p'=vb p then some (Classical.choose h) else none)=some p
   rw [dif_pos h]
   exact cZ some (HO (gf h).1 hp (gf h).2)
 ·exact dp (List.length_filterMap_le _ _) (Nat.le_of_eq g8)
def tA (R:List aY) (a:Int) (b:Int) (dom:((aY × aY) -> Prop)) (φ:((aY × aY) -> Int)) (Q:(List aY) -> Prop):Prop:=
 ∃ (Inv:Int -> (List aY) -> Prop) (mu:Int -> (List aY) -> Nat),Inv (wr (a + 1)) R /\
 ∀ x8 l0,Inv x8 l0 -> (cv (decide (x8 < b)) (∃ (Inv_2:Int -> (List aY) -> Prop) (mu_2:Int -> (List aY) -> Nat),Inv_2 x8 l0 /\
 ∀ x9 l0_2,Inv_2 x9 l0_2 -> (∃ J:Bool -> Prop,(cv (decide (x9 > a)) (∃ e,cq l0_2 x9=some e /\
 ∃ e_2,cq l0_2 (wr (x9 - 1))=some e_2 /\
 (dom (e,e_2)) /\
 J (decide ((φ (e,e_2)) < 0))) (J false)) /\
 (∀ x34,J x34 -> cv x34 (∃ e_3,cq l0_2 (wr (x9 - 1))=some e_3 /\
 ∃ e_4,cq l0_2 x9=some e_4 /\
 ∃ e_5,cq l0_2 x9=some e_5 /\
 ∃ e_6,cq (l0_2.set (x9).toNat e_3) (wr (x9 - 1))=some e_6 /\
 (Inv_2 (wr (x9 - 1)) ((l0_2.set (x9).toNat e_3).set ((wr (x9 - 1))).toNat e_4) /\ mu_2 (wr (x9 - 1)) ((l0_2.set (x9).toNat e_3).set ((wr (x9 - 1))).toNat e_4) < mu_2 x9 l0_2)) ((Inv (wr (x8 + 1)) l0_2 /\ mu (wr (x8 + 1)) l0_2 < mu x8 l0))))) (Q l0))
abbrev qe0 (a:Int) (b:Int) (dom:((aY × aY) -> Prop)) (φ:((aY × aY) -> Int)) (y0:Nat -> Value) (y1):=([bg 0 (.pown 0 (y0 0)),bg 1 (I a),bg 2 (I b),bg 3 (dv dom φ),bg 8 (I y1)]:List (Nat × SC))
theorem Eo (R:List aY) (a:Int) (b:Int) (dom:((aY × aY) -> Prop)) (φ:((aY × aY) -> Int)) (Q:(List aY) -> Prop) (h:tA R a b dom φ Q):fj 87 [.sv (.one (.own 0)), .sv (.one (I a)), .sv (.one (I b)), .sv (.one (dv dom φ))] [bf 29 aY.ty R] [0] Q (fun (r:List aY)=>.tup []) (fun (r:List aY)=>[bf 29 aY.ty r]):=by
 have ht:=bA
 refine eZ Tryz.func87 rfl rfl rfl (by kernel_rfl) (fun c Vk hn=>?_)
 unfold tA at h
 refine bk hn ?_
 refine bj (dV h (fun zz=>⟨[bg 0 (.pown 0 (Vk 0)),ba 1 a,ba 2 b,bg 3 (dv dom φ),ba 8 zz.1],[bf 29 aY.ty zz.2]⟩) fun Inv mu x8 l0 h=>?_)
 refine bi (bp (cw ht hn 3 ⟨bG 14 (decide (x8 < b)) :: (qe0 a b dom φ Vk x8),[bf 29 aY.ty l0]⟩ ?_))
 refine bv h (fun h=>?_) (fun h=>?_)
 refine bn (bi (bj (bk hn ?_)))
 refine bj (dV h (fun zz=>⟨[bg 0 (.pown 0 (Vk 0)),ba 1 a,ba 2 b,bg 3 (dv dom φ),ba 8 x8,ba 9 zz.1],[bf 29 aY.ty zz.2]⟩) fun Inv_2 mu_2 x9 l0_2 h=>?_)
 refine bi ?_
 obtain ⟨J,h,hJ⟩:=h
 refine bS (σ:=Bool) (fun zz=>J zz) (fun zz=>⟨[bg 0 (.pown 0 (Vk 0)),ba 1 a,ba 2 b,bg 3 (dv dom φ),ba 8 x8,ba 9 x9,bG 34 zz],[bf 29 aY.ty l0_2]⟩) ?_ ?_
 refine cz (decide (x9 > a)) (fun hb_2=>?_) (fun hb_2=>?_)
 replace h:=h.1 hb_2
 obtain ⟨e,he,h⟩:=h
 obtain ⟨e_2,he_2,h⟩:=h
 obtain ⟨hp_2,h⟩:=h
 refine da ⟨ba 9 x9 :: (qe0 a b dom φ Vk x8),[bq x9,bq a,cH true,cH true,o1 (dv dom φ),cu 0,bq x9,o1 (.oe 0 (x9).toNat 3), .sv (.agg (aY.cl e)),cu 0,bq x9,bq (wr (x9 - 1)),o1 (.oe 0 (wr (x9 - 1)).toNat 3), .sv (.agg (aY.cl e_2)),bq (φ (e,e_2)),cH (decide ((φ (e,e_2)) < 0)),cH (decide ((φ (e,e_2)) < 0))],[bU (bf 29 aY.ty l0_2)]⟩ hn ?_ ?_
 exact ⟨.e,
 .e,
 .b hb_2,
 .e,
 .e,
 .e,
 .e,
 .i (T:=aY.ty) rfl he,
 .l (T:=aY.ty) rfl (bs he).2.2,
 .e,
 .e,
 .e,
 .i (T:=aY.ty) rfl he_2,
 .l (T:=aY.ty) rfl (bs he_2).2.2,
 .v (cV (ins:=(fun (x:(aY × aY))=>[.sv (.agg (aY.cl x.1)), .sv (.agg (aY.cl x.2))])) (out:=(fun (r:Int)=>.sv (.one (I r)))) (dom:=dom) (φ:=φ) (e,e_2) hp_2 rfl),
 .e,
 .e,
 trivial⟩
 exact bZ (decide ((φ (e,e_2)) < 0)) h
 replace h:=h.2 hb_2
 refine da ⟨ba 9 x9 :: (qe0 a b dom φ Vk x8),[bq x9,bq a,cH false,cH false,bJ,bJ,bJ,bJ,bJ,bJ,bJ,bJ,bJ,bJ,bJ,bJ,cH false],[bU (bf 29 aY.ty l0_2)]⟩ hn ?_ ?_
 exact ⟨.e,
 .e,
 .b hb_2,
 .e,
 .k,
 .k,
 .k,
 .k,
 .k,
 .k,
 .k,
 .k,
 .k,
 .k,
 .k,
 .k,
 .e,
 trivial⟩
 exact bZ false h
 intro x34 h
 replace h:=hJ _ h
 refine bv h (fun h=>?_) (fun h=>?_)
 refine bn (bi (bj ?_))
 obtain ⟨e_3,he_3,h⟩:=h
 obtain ⟨e_4,he_4,h⟩:=h
 obtain ⟨e_5,he_5,h⟩:=h
 refine dt ⟨ba 9 x9 :: (qe0 a b dom φ Vk x8),[cu 0,bq x9,cu 0,bq x9,bq (wr (x9 - 1)),cu 0,bq x9,bq (wr (x9 - 1)),o1 (.oe 0 (wr (x9 - 1)).toNat 3), .sv (.agg (aY.cl e_3)),cu 0,bq x9,o1 (.oe 0 (x9).toNat 3), .sv (.agg (aY.cl e_4)),o1 (.oe 0 (x9).toNat 3),bJ],[⟨bf 29 aY.ty l0_2,none,none,some (15,bf 29 aY.ty (l0_2.set (x9).toNat e_3))⟩]⟩ 16 ⟨ba 9 x9 :: bx 39 0 :: ba 41 (wr (x9 - 1)) :: (50, .sv (.agg (aY.cl e_4))) :: (qe0 a b dom φ Vk x8),[bf 29 aY.ty (l0_2.set (x9).toNat e_3)]⟩ (by kernel_rfl) hn (by kernel_rfl) (by kernel_rfl) (by kernel_rfl) (by rfl) (by kernel_rfl) ?_ (by kernel_rfl) ?_
 exact ⟨.e,
 .e,
 .e,
 .e,
 .e,
 .e,
 .e,
 .e,
 .i (T:=aY.ty) rfl he_3,
 .l (T:=aY.ty) rfl (bs he_3).2.2,
 .e,
 .e,
 .i (T:=aY.ty) rfl he_4,
 .l (T:=aY.ty) rfl (bs he_4).2.2,
 .i (T:=aY.ty) rfl he_5,
 .mu ⟨[(46, .sv (.agg (aY.cl e_3))),bg 51 (.oe 0 (x9).toNat 3)],[bf 29 aY.ty l0_2]⟩ 0 _ _ rfl rfl (by kernel_rfl) (by rfl) (dY (T:=aY.ty) (l:=l0_2) (y:=e_3) ht rfl (by rfl) (by rfl) (fun _ h=>by cases h) (by rfl) (by rfl) (dd he_5) (by rfl) (by rfl) (by rfl)) rfl rfl rfl rfl rfl rfl rfl,
 trivial⟩
 obtain ⟨e_6,he_6,h⟩:=h
 refine bT hn (iO (T:=aY.ty) rfl he_6) ?_
 refine gg (T:=aY.ty) (y:=e_4) hn rfl (dd he_6) ?_
 exact bH (cn hn ((wr (x9 - 1)),((l0_2.set (x9).toNat e_3).set (wr (x9 - 1)).toNat e_4)) h)
 exact bD rfl (cn hn ((wr (x8 + 1)),l0_2) h)
 exact bD rfl (d4 [0] ht l0 h (by kernel_rfl) (by rfl) rfl)
theorem M7 : ∀ args w,(callFunc 87 args).run Tryz.prog w=.ok (.enter 87 args) w:=enters_of Tryz.func87 (by kernel_rfl) rfl
theorem Jg (R:List aY) (a:Int) (b:Int) (dom:((aY × aY) -> Prop)) (φ:((aY × aY) -> Int)) (hp:oB dom φ R a b)  : tA R a b dom φ (SQ φ R a b):=by
 obtain ⟨hd,ho,ha,hab,hbl,hlen⟩:=hp
 obtain ⟨A,rfl⟩:∃ A:Nat,a=A:=⟨a.toNat,by omega⟩
 obtain ⟨B,rfl⟩:∃ B:Nat,b=B:=⟨b.toNat,by omega⟩
 unfold tA SQ
 simp only [bE]
 refine ⟨fun x l=>∃ i:Nat,x=i /\ A < i /\ (i <= B \/ i=A + 1) /\ dW A B R l /\ Srt φ A i l,fun x _=>B - x.toNat,⟨A + 1,dj (by omega),Nat.lt_succ_self _, .inr rfl, .refl,fun i j h1 h2 h3=>by omega⟩,?_⟩
 rintro x l ⟨i,rfl,hi,hiB,hS,hT⟩
 have hl:=hS.len
 refine ⟨fun hb=>?_,fun hb=>?_⟩
 rotate_left
 ·have hb:=cx hb
  exact ⟨hS,fun p q h1 h2 h3=>hT p q h1 h2 (by omega)⟩
 have hb:=ca hb
 refine ⟨fun y m=>∃ j:Nat,y=j /\ A <= j /\ j <= i /\ dW A B R m /\ ∀ p q,A <= p -> p < q -> q <= i -> q ≠ j -> le φ (gx m p) (gx m q),fun y _=>y.toNat,⟨i,rfl,by omega,bP _,hS,fun p q h1 h2 h3 h4=>hT p q h1 h2 (by omega)⟩,?_⟩
 rintro y m ⟨j,rfl,hAj,hji,hSm,hK⟩
 have hml:=hSm.len
 refine ⟨fun b'=>b'=(decide (A < j) && decide (φ (gx m j,gx m (j - 1)) < 0)),⟨fun hc=>?_,fun hc=>?_⟩,?_⟩
 ·have hc:=ca hc
  have hw:wr ((j:Int) - 1)=((j - 1:Nat):Int):=by rw [bL (by omega) (by omega)]; omega
  refine ⟨_,bB (by omega) (by omega),_,by rw [hw]; exact bB (by omega) (by omega),hd _,?_⟩
  show decide _=(_ && _)
  rw [decide_eq_true (show A < j by omega),mT]
  rfl
 ·have hc:=cx hc
  show false=(_ && _)
  rw [decide_eq_false (show ¬ A < j by omega)]
  rfl
 rintro b' rfl
 refine ⟨fun hc=>?_,fun hc=>?_⟩
 ·obtain ⟨c1,c2⟩:=Bool.and_eq_true_iff.1 hc
  have c1:=ca c1
  have c2:=ca c2
  have hw:wr ((j:Int) - 1)=((j - 1:Nat):Int):=by rw [bL (by omega) (by omega)]; omega
  rw [hw]
  refine ⟨_,bB (by omega) (by omega),_,bB (by omega) (by omega),_,bB (by omega) (by omega),_,bB (by omega) (by rw [cK]; omega),⟨j - 1,rfl,by omega,by omega,hSm.trans (gM (i:=j) (j:=j - 1) ⟨by omega,by omega⟩ ⟨by omega,by omega⟩ (by omega)),?_⟩,?_⟩
  ·intro p q h1 h2 h3 h4
   show le φ (gx (sw m j (j - 1)) p) (gx (sw m j (j - 1)) q)
   rw [fB (by omega) (by omega),fB (by omega) (by omega),if_neg h4]
   by_cases e1:q=j
   ·rw [if_pos e1]
    by_cases e2:p=j - 1
    ·rw [if_pos e2]
     exact ho.lt c2
    ·rw [if_neg e2,if_neg (by omega)]
     exact hK p (j - 1) h1 (by omega) (by omega) (by omega)
   ·rw [if_neg e1]
    by_cases e2:p=j - 1
    ·rw [if_pos e2]
     exact hK j q hAj (by omega) h3 e1
    ·rw [if_neg e2]
     by_cases e3:p=j
     ·rw [if_pos e3]
      exact hK (j - 1) q (by omega) (by omega) h3 e1
     ·rw [if_neg e3]
      exact hK p q h1 h2 h3 e1
  ·show ((j - 1:Nat):Int).toNat < (j:Int).toNat
   omega
 ·refine ⟨⟨i + 1,dj (by omega),by omega, .inl (by omega),hSm,fun p q h1 h2 h3=>?_⟩,dQ (by omega) (by omega)⟩
  by_cases e:q=j
  ·subst e
   rw [decide_eq_true (show A < q by omega),mT] at hc
   have hc:le φ (gx m (q - 1)) (gx m q):=cx hc
   rcases dA p (q - 1) with c | c
   ·exact ho.le_tr (hK p (q - 1) h1 c (by omega) (by omega)) hc
   ·obtain rfl:p=q - 1:=by omega
    exact hc
  ·exact hK p q h1 h2 (by omega) e
theorem Jh (R:List aY) (a:Int) (b:Int) (dom:((aY × aY) -> Prop)) (φ:((aY × aY) -> Int)) (hp:oB dom φ R a b)  : fj 87 [.sv (.one (.own 0)), .sv (.one (I a)), .sv (.one (I b)), .sv (.one (dv dom φ))] [bf 29 aY.ty R] [0] (SQ φ R a b) (fun (r:List aY)=>.tup []) (fun (r:List aY)=>[bf 29 aY.ty r]):=Eo R a b dom φ _ (Jg R a b dom φ hp)
def tq (R:List aY) (a:Int) (b:Int) (dom:((aY × aY) -> Prop)) (φ:((aY × aY) -> Int)) (Q:(List aY) -> Prop):Prop:=
 ∃ (Inv:Int -> Int -> (List aY) -> Prop) (mu:Int -> Int -> (List aY) -> Nat),Inv a (wr (b - 1)) R /\
 ∀ x8 x9 l0,Inv x8 x9 l0 -> (cv (decide (x8 < x9)) (∃ e,cq l0 x9=some e /\
 ∃ e_2,cq l0 x8=some e_2 /\
 ∃ e_3,cq l0 x8=some e_3 /\
 ∃ e_4,cq (l0.set (x8).toNat e) x9=some e_4 /\
 (Inv (wr (x8 + 1)) (wr (x9 - 1)) ((l0.set (x8).toNat e).set (x9).toNat e_2) /\ mu (wr (x8 + 1)) (wr (x9 - 1)) ((l0.set (x8).toNat e).set (x9).toNat e_2) < mu x8 x9 l0)) (Q l0))
theorem Ef (R:List aY) (a:Int) (b:Int) (dom:((aY × aY) -> Prop)) (φ:((aY × aY) -> Int)) (Q:(List aY) -> Prop) (h:tq R a b dom φ Q):fj 91 [.sv (.one (.own 0)), .sv (.one (I a)), .sv (.one (I b)), .sv (.one (dv dom φ))] [bf 29 aY.ty R] [0] Q (fun (r:List aY)=>.tup []) (fun (r:List aY)=>[bf 29 aY.ty r]):=by
 have ht:=bA
 refine eZ Tryz.func91 rfl rfl rfl (by kernel_rfl) (fun c Vk hn=>?_)
 unfold tq at h
 refine bk hn ?_
 refine bk hn ?_
 refine bj (ma h (fun zz=>⟨[bg 0 (.pown 0 (Vk 0)),ba 8 zz.1,ba 9 zz.2.1],[bf 29 aY.ty zz.2.2]⟩) fun Inv mu x8 x9 l0 h=>?_)
 refine bi (bp (cw ht hn 3 ⟨[bg 0 (.pown 0 (Vk 0)),ba 8 x8,ba 9 x9,bG 15 (decide (x8 < x9))],[bf 29 aY.ty l0]⟩ ?_))
 refine bv h (fun h=>?_) (fun h=>?_)
 refine bn (bj (bi ?_))
 obtain ⟨e,he,h⟩:=h
 obtain ⟨e_2,he_2,h⟩:=h
 obtain ⟨e_3,he_3,h⟩:=h
 refine dt ⟨[bg 0 (.pown 0 (Vk 0)),ba 8 x8,ba 9 x9],[cu 0,bq x8,cu 0,bq x9,cu 0,bq x9,o1 (.oe 0 (x9).toNat 3), .sv (.agg (aY.cl e)),cu 0,bq x8,o1 (.oe 0 (x8).toNat 3), .sv (.agg (aY.cl e_2)),o1 (.oe 0 (x8).toNat 3),bJ],[⟨bf 29 aY.ty l0,none,none,some (13,bf 29 aY.ty (l0.set (x8).toNat e))⟩]⟩ 14 ⟨[bg 0 (.pown 0 (Vk 0)),ba 8 x8,ba 9 x9,bx 18 0,ba 19 x9,(27, .sv (.agg (aY.cl e_2)))],[bf 29 aY.ty (l0.set (x8).toNat e)]⟩ (by kernel_rfl) hn (by kernel_rfl) (by kernel_rfl) (by kernel_rfl) (by rfl) (by kernel_rfl) ?_ (by kernel_rfl) ?_
 exact ⟨.e,
 .e,
 .e,
 .e,
 .e,
 .e,
 .i (T:=aY.ty) rfl he,
 .l (T:=aY.ty) rfl (bs he).2.2,
 .e,
 .e,
 .i (T:=aY.ty) rfl he_2,
 .l (T:=aY.ty) rfl (bs he_2).2.2,
 .i (T:=aY.ty) rfl he_3,
 .mu ⟨[(23, .sv (.agg (aY.cl e))),bg 28 (.oe 0 (x8).toNat 3)],[bf 29 aY.ty l0]⟩ 0 _ _ rfl rfl (by kernel_rfl) (by rfl) (dY (T:=aY.ty) (l:=l0) (y:=e) ht rfl (by rfl) (by rfl) (fun _ h=>by cases h) (by rfl) (by rfl) (dd he_3) (by rfl) (by rfl) (by rfl)) rfl rfl rfl rfl rfl rfl rfl,
 trivial⟩
 obtain ⟨e_4,he_4,h⟩:=h
 refine bT hn (iO (T:=aY.ty) rfl he_4) ?_
 refine gg (T:=aY.ty) (y:=e_2) hn rfl (dd he_4) ?_
 refine bH (bk hn ?_)
 exact cn hn ((wr (x8 + 1)),(wr (x9 - 1)),((l0.set (x8).toNat e).set (x9).toNat e_2)) h
 exact bD rfl (d4 [0] ht l0 h (by kernel_rfl) (by rfl) rfl)
theorem M3 : ∀ args w,(callFunc 91 args).run Tryz.prog w=.ok (.enter 91 args) w:=enters_of Tryz.func91 (by kernel_rfl) rfl
theorem I3 (R:List aY) (a:Int) (b:Int) (dom:((aY × aY) -> Prop)) (φ:((aY × aY) -> Int)) (hp:oB dom φ R a b)  : tq R a b dom φ (dW a.toNat b.toNat R):=by
 obtain ⟨hd,ho,ha,hab,hbl,hlen⟩:=hp
 obtain ⟨A,rfl⟩:∃ A:Nat,a=A:=⟨a.toNat,by omega⟩
 obtain ⟨B,rfl⟩:∃ B:Nat,b=B:=⟨b.toNat,by omega⟩
 unfold tq
 simp only [bE]
 refine ⟨fun x y l=>A <= x /\ x <= B /\ y < B /\ -1 <= y /\ dW A B R l,fun x y _=>(y - x).toNat,⟨by omega,by omega,?_,?_, .refl⟩,?_⟩
 ·rw [bL (by omega) (by omega)]; omega
 ·rw [bL (by omega) (by omega)]; omega
 rintro x y l ⟨h1,h2,h3,h4,hS⟩
 have hl:=hS.len
 refine ⟨fun hb=>?_,fun hb=>hS⟩
 have hb:=ca hb
 have hw:wr (y - 1)=y - 1:=bL (by omega) (by omega)
 have hw2:wr (x + 1)=x + 1:=bL (by omega) (by omega)
 rw [hw,hw2]
 refine ⟨_,bB (by omega) (by omega),_,bB (by omega) (by omega),_,bB (by omega) (by omega),_,bB (by omega) (by rw [cK]; omega),⟨by omega,by omega,by omega,by omega,hS.trans (gM (i:=x.toNat) (j:=y.toNat) ⟨by omega,by omega⟩ ⟨by omega,by omega⟩ (by omega))⟩,?_⟩
 show (y - 1 - (x + 1)).toNat < (y - x).toNat
 omega
theorem I4 (R:List aY) (a:Int) (b:Int) (dom:((aY × aY) -> Prop)) (φ:((aY × aY) -> Int)) (hp:oB dom φ R a b)  : fj 91 [.sv (.one (.own 0)), .sv (.one (I a)), .sv (.one (I b)), .sv (.one (dv dom φ))] [bf 29 aY.ty R] [0] (dW a.toNat b.toNat R) (fun (r:List aY)=>.tup []) (fun (r:List aY)=>[bf 29 aY.ty r]):=Ef R a b dom φ _ (I3 R a b dom φ hp)
section
variable {X:Type} {dom:X × X -> Prop}
structure vp (dom:X × X -> Prop) (R:List X) (a b:Int):Prop where
 dom:∀ z,dom z
 a0:0 <= a /\ a < R.length
 b0:0 <= b /\ b < R.length
def Ik (a b:Int) (r:Int × Int × Int):Prop:=(r.1=a \/ r.1=b) /\ (r.2.1=a \/ r.2.1=b)
structure zH (dom:X × X -> Prop) (R:List X) (a b c:Int):Prop where
 dom:∀ z,dom z
 a0:0 <= a /\ a < R.length
 b0:0 <= b /\ b < R.length
 c0:0 <= c /\ c < R.length
def Kw (a b c:Int) (r:Int × Int):Prop:=r.1=a \/ r.1=b \/ r.1=c
structure vq (dom:X × X -> Prop) (R:List X) (a:Int):Prop where
 dom:∀ z,dom z
 a0:1 <= a /\ a + 1 < R.length
 len:R.length <= 1000000
def Il (a:Int) (r:Int × Int):Prop:=a - 1 <= r.1 /\ r.1 <= a + 1
structure Iq (dom:X × X -> Prop) (R:List X) (a b:Int):Prop where
 dom:∀ z,dom z
 a0:0 <= a /\ a < b /\ b <= R.length
 len:R.length <= 1000000
def Kz (a b:Int) (r:Int × Int):Prop:=a <= r.1 /\ r.1 < b
end
theorem ry {x:Int} (h:0 <= x /\ x < 18446744073709551616):IntKind.wrap .u64 x=x:=by
 unfold IntKind.wrap
 simp [IntKind.bits,IntKind.signed]
 omega
def sq (x r:Int):Prop:=0 <= r /\ r <= 20 /\ x < 2 ^ r.toNat /\ (1 <= x -> 2 ^ r.toNat <= 2 * x)
def Kv (n r:Int):Prop:=∃ k:Nat,r=2 ^ k /\ k <= 20 /\ n < 2 ^ k /\ (1 <= n -> 2 ^ k <= 2 * n)
def xP (R:List aY) (a:Int) (b:Int) (s:Int) (dom:((aY × aY) -> Prop)) (φ:((aY × aY) -> Int)) (Q:Int × Int × Int -> Prop):Prop:=
 R.length <= 9223372036854775807 ->
 (∃ e,cq R b=some e /\
 ∃ e_2,cq R a=some e_2 /\
 (dom (e,e_2)) /\
 cv (decide ((φ (e,e_2)) < 0)) (Q (b,a,(wr (s + 1)))) (Q (a,b,s)))
theorem Ek (R:List aY) (a:Int) (b:Int) (s:Int) (dom:((aY × aY) -> Prop)) (φ:((aY × aY) -> Int)) (Q:Int × Int × Int -> Prop) (h:xP R a b s dom φ Q):fj 104 [.sv (.one (LS aY.ty R)), .sv (.one (I a)), .sv (.one (I b)), .sv (.one (.ptr 0 0)), .sv (.one (dv dom φ))] [.box [I s] 3 false] [0] Q (fun (r:Int × Int × Int)=>.tup [.one (I r.1), .one (I r.2.1)]) (fun (r:Int × Int × Int)=>[.box [I r.2.2] 3 false]):=by
 have ht:=bA
 refine fj.body Tryz.func104 rfl rfl rfl (by kernel_rfl) (by kernel_rfl) (fun c Bk hn=>?_)
 unfold xP at h
 refine de 0 (by rfl) (fun hl=>?_)
 replace h:=h hl
 clear hl
 refine bk hn ?_
 refine bi (bi ?_)
 obtain ⟨e,he,h⟩:=h
 obtain ⟨e_2,he_2,h⟩:=h
 obtain ⟨hp_2,h⟩:=h
 refine da ⟨[bg 0 (LS aY.ty R),ba 1 a,ba 2 b,bg 3 (.pptr 0 0 (Bk 0)),bg 4 (dv dom φ)],[o1 (dv dom φ),o1 (LS aY.ty R),bq b,o1 (.pe (eu (.agg (aY.cl e))) 3), .sv (.agg (aY.cl e)),o1 (LS aY.ty R),bq a,o1 (.pe (eu (.agg (aY.cl e_2))) 3), .sv (.agg (aY.cl e_2)),bq (φ (e,e_2)),cH (decide ((φ (e,e_2)) < 0))],[bU (.box [I s] 3 false)]⟩ hn ?_ ?_
 exact ⟨.e,
 .e,
 .e,
 .v (bX (iX (T:=aY.ty) rfl he)),
 .v (bX (lD (s:=.agg (aY.cl e)) rfl)),
 .e,
 .e,
 .v (bX (iX (T:=aY.ty) rfl he_2)),
 .v (bX (lD (s:=.agg (aY.cl e_2)) rfl)),
 .v (cV (ins:=(fun (x:(aY × aY))=>[.sv (.agg (aY.cl x.1)), .sv (.agg (aY.cl x.2))])) (out:=(fun (r:Int)=>.sv (.one (I r)))) (dom:=dom) (φ:=φ) (e,e_2) hp_2 rfl),
 .e,
 trivial⟩
 refine bv h (fun h=>?_) (fun h=>?_)
 refine bk hn ?_
 refine bp (cw ht hn 4 ⟨[bg 3 (.pptr 0 0 (Bk 0)),ba 10 b,ba 11 a],[.box [I (wr (s + 1))] 3 false]⟩ ?_)
 exact cT (fp [3] ht (b,a,(wr (s + 1))) h (by kernel_rfl) (by rfl) rfl)
 refine bn (bp (cw ht hn 4 ⟨[bg 3 (.pptr 0 0 (Bk 0)),ba 10 a,ba 11 b],[.box [I s] 3 false]⟩ ?_))
 exact cT (fp [3] ht (a,b,s) h (by kernel_rfl) (by rfl) rfl)
theorem HG : ∀ args w,(callFunc 104 args).run Tryz.prog w=.ok (.enter 104 args) w:=enters_of Tryz.func104 (by kernel_rfl) rfl
theorem Jd (R:List aY) (a:Int) (b:Int) (s:Int) (dom:((aY × aY) -> Prop)) (φ:((aY × aY) -> Int)) (hp:vp dom R a b)  : xP R a b s dom φ (Ik a b):=by
 obtain ⟨hd,ha,hb⟩:=hp
 exact fun _=>⟨_,bB hb.1 hb.2,_,bB ha.1 ha.2,hd _,fun _=>⟨.inr rfl, .inl rfl⟩,fun _=>⟨.inl rfl, .inr rfl⟩⟩
theorem xQ (R:List aY) (a:Int) (b:Int) (s:Int) (dom:((aY × aY) -> Prop)) (φ:((aY × aY) -> Int)) (hp:vp dom R a b)  : fj 104 [.sv (.one (LS aY.ty R)), .sv (.one (I a)), .sv (.one (I b)), .sv (.one (.ptr 0 0)), .sv (.one (dv dom φ))] [.box [I s] 3 false] [0] (Ik a b) (fun (r:Int × Int × Int)=>.tup [.one (I r.1), .one (I r.2.1)]) (fun (r:Int × Int × Int)=>[.box [I r.2.2] 3 false]):=Ek R a b s dom φ _ (Jd R a b s dom φ hp)
def xR (R:List aY) (a:Int) (b:Int) (d:Int) (s:Int) (dom:((aY × aY) -> Prop)) (φ:((aY × aY) -> Int)) (Q:Int × Int -> Prop):Prop:=
 R.length <= 9223372036854775807 ->
 ((vp dom R a b) /\
 ∀ r:Int × Int × Int,(Ik a b) r ->
 ((vp dom R r.2.1 d) /\
 ∀ r_2:Int × Int × Int,(Ik r.2.1 d) r_2 ->
 ((vp dom R r.1 r_2.1) /\
 ∀ r_3:Int × Int × Int,(Ik r.1 r_2.1) r_3 ->
 (Q (r_3.2.1,r_3.2.2)))))
abbrev qh0 (y0:Nat -> Nat):=sl 4 (.pptr 0 0 (y0 0))
theorem El (R:List aY) (a:Int) (b:Int) (d:Int) (s:Int) (dom:((aY × aY) -> Prop)) (φ:((aY × aY) -> Int)) (Q:Int × Int -> Prop) (h:xR R a b d s dom φ Q):fj 102 [.sv (.one (LS aY.ty R)), .sv (.one (I a)), .sv (.one (I b)), .sv (.one (I d)), .sv (.one (.ptr 0 0)), .sv (.one (dv dom φ))] [.box [I s] 3 false] [0] Q (fun (r:Int × Int)=>.sv (.one (I r.1))) (fun (r:Int × Int)=>[.box [I r.2] 3 false]):=by
 have ht:=bA
 refine fj.body Tryz.func102 rfl rfl rfl (by kernel_rfl) (by kernel_rfl) (fun c Bk hn=>?_)
 unfold xR at h
 refine de 0 (by rfl) (fun hl=>?_)
 replace h:=h hl
 clear hl
 refine bk hn ?_
 refine bp (bC ht hn 5 ⟨[bg 0 (LS aY.ty R),ba 3 d,qh0 Bk,bg 5 (dv dom φ),bg 14 (LS aY.ty R),ba 15 a,ba 16 b,bu 17 0 0,bg 18 (dv dom φ)],[.box [I s] 3 false]⟩ ?_)
 obtain ⟨hp,h⟩:=h
 refine dz [bg 0 (LS aY.ty R),ba 3 d,qh0 Bk,bg 5 (dv dom φ),bg 14 (LS aY.ty R),ba 15 a,ba 16 b,bu 17 0 0,bg 18 (dv dom φ)] (xQ R a b s dom φ hp) HG (caps:=[]) [0] hn (by rfl) rfl (by rfl) (eR (by kernel_rfl) (by rfl)) (by kernel_rfl) (by decide) (by kernel_rfl) (by rfl) (by rfl) (fun r hr_2=>⟨by rfl,_,by rfl,?_⟩)
 replace h:=h r hr_2
 refine bM hn ?_
 refine bp (bC ht hn 5 ⟨[bg 0 (LS aY.ty R),ba 1 r.1,qh0 Bk,bg 5 (dv dom φ),bg 23 (LS aY.ty R),ba 24 r.2.1,ba 25 d,bu 26 0 0,bg 27 (dv dom φ)],[.box [I r.2.2] 3 false]⟩ ?_)
 obtain ⟨hp,h⟩:=h
 refine dz [bg 0 (LS aY.ty R),ba 1 r.1,qh0 Bk,bg 5 (dv dom φ),bg 23 (LS aY.ty R),ba 24 r.2.1,ba 25 d,bu 26 0 0,bg 27 (dv dom φ)] (xQ R r.2.1 d r.2.2 dom φ hp) HG (caps:=[]) [0] hn (by rfl) rfl (by rfl) (eR (by kernel_rfl) (by rfl)) (by kernel_rfl) (by decide) (by kernel_rfl) (by rfl) (by rfl) (fun r_2 hr_2_2=>⟨by rfl,_,by rfl,?_⟩)
 replace h:=h r_2 hr_2_2
 refine bM hn ?_
 refine bp (bC ht hn 5 ⟨[qh0 Bk,bg 32 (LS aY.ty R),ba 33 r.1,ba 34 r_2.1,bu 35 0 0,bg 36 (dv dom φ)],[.box [I r_2.2.2] 3 false]⟩ ?_)
 obtain ⟨hp,h⟩:=h
 refine dz [qh0 Bk,bg 32 (LS aY.ty R),ba 33 r.1,ba 34 r_2.1,bu 35 0 0,bg 36 (dv dom φ)] (xQ R r.1 r_2.1 r_2.2.2 dom φ hp) HG (caps:=[]) [0] hn (by rfl) rfl (by rfl) (eR (by kernel_rfl) (by rfl)) (by kernel_rfl) (by decide) (by kernel_rfl) (by rfl) (by rfl) (fun r_3 hr_3=>⟨by rfl,_,by rfl,?_⟩)
 replace h:=h r_3 hr_3
 refine bM hn ?_
 refine bp (cw ht hn 2 ⟨[qh0 Bk,ba 12 r_3.2.1],[.box [I r_3.2.2] 3 false]⟩ ?_)
 exact cT (fp [4] ht (r_3.2.1,r_3.2.2) h (by kernel_rfl) (by rfl) rfl)
theorem KQ : ∀ args w,(callFunc 102 args).run Tryz.prog w=.ok (.enter 102 args) w:=enters_of Tryz.func102 (by kernel_rfl) rfl
theorem Je (R:List aY) (a:Int) (b:Int) (d:Int) (s:Int) (dom:((aY × aY) -> Prop)) (φ:((aY × aY) -> Int)) (hp:zH dom R a b d)  : xR R a b d s dom φ (Kw a b d):=by
 obtain ⟨hd,ha,hb,hc⟩:=hp
 have key:∀ x y z:Int,(x=y \/ x=z) -> (0 <= y /\ y < (R.length:Int)) -> (0 <= z /\ z < (R.length:Int)) -> 0 <= x /\ x < (R.length:Int):=fun x y z h h1 h2=>by rcases h with rfl | rfl <;> assumption
 refine fun _=>⟨⟨hd,ha,hb⟩,fun r hr=>⟨⟨hd,key _ _ _ hr.2 ha hb,hc⟩,fun s hs=>⟨⟨hd,key _ _ _ hr.1 ha hb,key _ _ _ hs.1 (key _ _ _ hr.2 ha hb) hc⟩,fun t ht=>?_⟩⟩⟩
 obtain ⟨r1,r2⟩:=hr
 obtain ⟨s1,s2⟩:=hs
 obtain ⟨t1,t2⟩:=ht
 show t.2.1=a \/ t.2.1=b \/ t.2.1=d
 omega
theorem CJ (R:List aY) (a:Int) (b:Int) (d:Int) (s:Int) (dom:((aY × aY) -> Prop)) (φ:((aY × aY) -> Int)) (hp:zH dom R a b d)  : fj 102 [.sv (.one (LS aY.ty R)), .sv (.one (I a)), .sv (.one (I b)), .sv (.one (I d)), .sv (.one (.ptr 0 0)), .sv (.one (dv dom φ))] [.box [I s] 3 false] [0] (Kw a b d) (fun (r:Int × Int)=>.sv (.one (I r.1))) (fun (r:Int × Int)=>[.box [I r.2] 3 false]):=El R a b d s dom φ _ (Je R a b d s dom φ hp)
def tz (R:List aY) (a:Int) (s:Int) (dom:((aY × aY) -> Prop)) (φ:((aY × aY) -> Int)) (Q:Int × Int -> Prop):Prop:=
 R.length <= 9223372036854775807 ->
 ((zH dom R (wr (a - 1)) a (wr (a + 1))) /\
 ∀ r:Int × Int,(Kw (wr (a - 1)) a (wr (a + 1))) r ->
 (Q (r.1,r.2)))
theorem Em (R:List aY) (a:Int) (s:Int) (dom:((aY × aY) -> Prop)) (φ:((aY × aY) -> Int)) (Q:Int × Int -> Prop) (h:tz R a s dom φ Q):fj 101 [.sv (.one (LS aY.ty R)), .sv (.one (I a)), .sv (.one (.ptr 0 0)), .sv (.one (dv dom φ))] [.box [I s] 3 false] [0] Q (fun (r:Int × Int)=>.sv (.one (I r.1))) (fun (r:Int × Int)=>[.box [I r.2] 3 false]):=by
 have ht:=bA
 refine fj.body Tryz.func101 rfl rfl rfl (by kernel_rfl) (by kernel_rfl) (fun c Bk hn=>?_)
 unfold tz at h
 refine de 0 (by rfl) (fun hl=>?_)
 replace h:=h hl
 clear hl
 refine bk hn ?_
 refine bp (bC ht hn 8 ⟨[bg 2 (.pptr 0 0 (Bk 0)),bg 9 (LS aY.ty R),ba 11 (wr (a - 1)),ba 12 a,ba 14 (wr (a + 1)),bu 15 0 0,bg 16 (dv dom φ)],[.box [I s] 3 false]⟩ ?_)
 obtain ⟨hp,h⟩:=h
 refine dz [bg 2 (.pptr 0 0 (Bk 0)),bg 9 (LS aY.ty R),ba 11 (wr (a - 1)),ba 12 a,ba 14 (wr (a + 1)),bu 15 0 0,bg 16 (dv dom φ)] (CJ R (wr (a - 1)) a (wr (a + 1)) s dom φ hp) KQ (caps:=[]) [0] hn (by rfl) rfl (by rfl) (eR (by kernel_rfl) (by rfl)) (by kernel_rfl) (by decide) (by kernel_rfl) (by rfl) (by rfl) (fun r hr_2=>⟨by rfl,_,by rfl,?_⟩)
 replace h:=h r hr_2
 refine cw ht hn 1 ⟨[bg 2 (.pptr 0 0 (Bk 0)),ba 8 r.1],[.box [I r.2] 3 false]⟩ ?_
 exact cT (fp [2] ht (r.1,r.2) h (by kernel_rfl) (by rfl) rfl)
theorem HI : ∀ args w,(callFunc 101 args).run Tryz.prog w=.ok (.enter 101 args) w:=enters_of Tryz.func101 (by kernel_rfl) rfl
theorem Jf (R:List aY) (a:Int) (s:Int) (dom:((aY × aY) -> Prop)) (φ:((aY × aY) -> Int)) (hp:vq dom R a)  : tz R a s dom φ (Il a):=by
 obtain ⟨hd,ha,hl⟩:=hp
 unfold tz
 have w1:wr (a - 1)=a - 1:=bL (by omega) (by omega)
 have w2:wr (a + 1)=a + 1:=bL (by omega) (by omega)
 rw [w1,w2]
 refine fun _=>⟨⟨hd,⟨by omega,by omega⟩,⟨by omega,by omega⟩,⟨by omega,by omega⟩⟩,fun r hr=>?_⟩
 have hr:r.1=a - 1 \/ r.1=a \/ r.1=a + 1:=hr
 show a - 1 <= r.1 /\ r.1 <= a + 1
 omega
theorem xS (R:List aY) (a:Int) (s:Int) (dom:((aY × aY) -> Prop)) (φ:((aY × aY) -> Int)) (hp:vq dom R a)  : fj 101 [.sv (.one (LS aY.ty R)), .sv (.one (I a)), .sv (.one (.ptr 0 0)), .sv (.one (dv dom φ))] [.box [I s] 3 false] [0] (Il a) (fun (r:Int × Int)=>.sv (.one (I r.1))) (fun (r:Int × Int)=>[.box [I r.2] 3 false]):=Em R a s dom φ _ (Jf R a s dom φ hp)
def xT (R:List aY) (a:Int) (b:Int) (dom:((aY × aY) -> Prop)) (φ:((aY × aY) -> Int)) (Q:(Int × Int) -> Prop):Prop:=
 R.length <= 9223372036854775807 ->
 (∃ J:Int -> Int -> Prop,(cv (decide ((wr (b - a)) >= 8)) (∃ J_2:Int -> Int -> Int -> Int -> Prop,(cv (decide ((wr (b - a)) >= 50)) ((vq dom R (wr (a + (wr ((wr (Int.tdiv (wr (b - a)) 4)) * 1))))) /\
 ∀ r:Int × Int,(Il (wr (a + (wr ((wr (Int.tdiv (wr (b - a)) 4)) * 1))))) r ->
 ((vq dom R (wr (a + (wr ((wr (Int.tdiv (wr (b - a)) 4)) * 2))))) /\
 ∀ r_2:Int × Int,(Il (wr (a + (wr ((wr (Int.tdiv (wr (b - a)) 4)) * 2))))) r_2 ->
 ((vq dom R (wr (a + (wr ((wr (Int.tdiv (wr (b - a)) 4)) * 3))))) /\
 ∀ r_3:Int × Int,(Il (wr (a + (wr ((wr (Int.tdiv (wr (b - a)) 4)) * 3))))) r_3 ->
 (J_2 r.1 r_2.1 r_3.1 r_3.2)))) (J_2 (wr (a + (wr ((wr (Int.tdiv (wr (b - a)) 4)) * 1)))) (wr (a + (wr ((wr (Int.tdiv (wr (b - a)) 4)) * 2)))) (wr (a + (wr ((wr (Int.tdiv (wr (b - a)) 4)) * 3)))) 0)) /\
 (∀ x12 x13_2 x14 y0_2,J_2 x12 x13_2 x14 y0_2 -> (zH dom R x12 x13_2 x14) /\
 ∀ r_4:Int × Int,(Kw x12 x13_2 x14) r_4 ->
 (J r_4.1 r_4.2))) (J (wr (a + (wr ((wr (Int.tdiv (wr (b - a)) 4)) * 2)))) 0)) /\
 (∀ x13 y0,J x13 y0 -> cv (y0 == 0) (Q (x13,1)) (cv (y0 == 12) (Q (x13,2)) (Q (x13,0)))))
abbrev qj0 (b:Int) (a:Int):=(wr (Int.tdiv (wr (b - a)) 4))
abbrev qj1 (a:Int) (b:Int):=(wr (a + (wr ((qj0 b a) * 3))))
abbrev qj2 (R:List aY):=(LS aY.ty R)
abbrev qj3 (a:Int) (b:Int):=(wr (a + (wr ((qj0 b a) * 2))))
abbrev qj4 := sl 11 (.ptr 0 0)
theorem Es (R:List aY) (a:Int) (b:Int) (dom:((aY × aY) -> Prop)) (φ:((aY × aY) -> Int)) (Q:(Int × Int) -> Prop) (h:xT R a b dom φ Q):Ct 90 [.sv (.one (LS aY.ty R)), .sv (.one (I a)), .sv (.one (I b)), .sv (.one (dv dom φ))] [] Q (fun (r:(Int × Int))=>.tup [.one (I r.1), .one (I r.2)]):=by
 have ht:=bA
 refine Ct.body Tryz.func90 rfl rfl rfl rfl (fun c hn=>?_)
 unfold xT at h
 refine de 0 (by rfl) (fun hl=>?_)
 replace h:=h hl
 clear hl
 refine bk hn ?_
 refine bk hn ?_
 refine bk hn ?_
 refine bk hn ?_
 refine bk hn ?_
 refine bk hn ?_
 obtain ⟨J,h,hJ⟩:=h
 refine bS (σ:=Int × Int) (fun zz=>J zz.1 zz.2) (fun zz=>⟨[qj4,ba 13 zz.1],[.box [I zz.2] 3 false]⟩) ?_ ?_
 refine bk hn ?_
 refine bv h (fun h=>?_) (fun h=>?_)
 obtain ⟨J_2,h,hJ_2⟩:=h
 refine bS (σ:=Int × Int × Int × Int) (fun zz=>J_2 zz.1 zz.2.1 zz.2.2.1 zz.2.2.2) (fun zz=>⟨[bg 0 (qj2 R),bg 3 (dv dom φ),qj4,ba 12 zz.1,ba 13 zz.2.1,ba 14 zz.2.2.1],[.box [I zz.2.2.2] 3 false]⟩) ?_ ?_
 refine bk hn ?_
 refine bv h (fun h=>?_) (fun h=>?_)
 refine bp (bC ht hn 3 ⟨ba 13 (qj3 a b) :: ba 14 (qj1 a b) :: bg 37 (qj2 R) :: ba 38 (wr (a + (wr ((qj0 b a) * 1)))) :: bg 39 (dv dom φ) :: [bg 0 (qj2 R),bg 3 (dv dom φ),qj4],[.box [I 0] 3 false]⟩ ?_)
 obtain ⟨hp,h⟩:=h
 refine dz [bg 0 (qj2 R),bg 3 (dv dom φ),qj4,ba 13 (qj3 a b),ba 14 (qj1 a b),bg 37 (qj2 R),ba 38 (wr (a + (wr ((qj0 b a) * 1)))),bg 39 (dv dom φ)] (xS R (wr (a + (wr ((qj0 b a) * 1)))) 0 dom φ hp) HI (caps:=[]) [0] hn (by rfl) rfl (by rfl) (eR (by kernel_rfl) (by rfl)) (by kernel_rfl) (by decide) (by kernel_rfl) (by rfl) (by rfl) (fun r hr_2=>⟨by rfl,_,by rfl,?_⟩)
 replace h:=h r hr_2
 refine bM hn ?_
 refine bp (bC ht hn 3 ⟨ba 12 r.1 :: ba 14 (qj1 a b) :: bg 41 (qj2 R) :: ba 42 (qj3 a b) :: bg 43 (dv dom φ) :: [bg 0 (qj2 R),bg 3 (dv dom φ),qj4],[.box [I r.2] 3 false]⟩ ?_)
 obtain ⟨hp,h⟩:=h
 refine dz [bg 0 (qj2 R),bg 3 (dv dom φ),qj4,ba 12 r.1,ba 14 (qj1 a b),bg 41 (qj2 R),ba 42 (qj3 a b),bg 43 (dv dom φ)] (xS R (qj3 a b) r.2 dom φ hp) HI (caps:=[]) [0] hn (by rfl) rfl (by rfl) (eR (by kernel_rfl) (by rfl)) (by kernel_rfl) (by decide) (by kernel_rfl) (by rfl) (by rfl) (fun r_2 hr_2_2=>⟨by rfl,_,by rfl,?_⟩)
 replace h:=h r_2 hr_2_2
 refine bM hn ?_
 refine bI (bC ht hn 3 ⟨ba 12 r.1 :: ba 13 r_2.1 :: bg 45 (qj2 R) :: ba 46 (qj1 a b) :: bg 47 (dv dom φ) :: [bg 0 (qj2 R),bg 3 (dv dom φ),qj4],[.box [I r_2.2] 3 false]⟩ ?_)
 obtain ⟨hp,h⟩:=h
 refine dz [bg 0 (qj2 R),bg 3 (dv dom φ),qj4,ba 12 r.1,ba 13 r_2.1,bg 45 (qj2 R),ba 46 (qj1 a b),bg 47 (dv dom φ)] (xS R (qj1 a b) r_2.2 dom φ hp) HI (caps:=[]) [0] hn (by rfl) rfl (by rfl) (eR (by kernel_rfl) (by rfl)) (by kernel_rfl) (by decide) (by kernel_rfl) (by rfl) (by rfl) (fun r_3 hr_3=>⟨by rfl,_,by rfl,?_⟩)
 replace h:=h r_3 hr_3
 refine bM hn ?_
 exact bZ (r.1,r_2.1,r_3.1,r_3.2) h
 exact bn (bZ ((wr (a + (wr ((qj0 b a) * 1)))),(qj3 a b),(qj1 a b),0) h)
 rintro ⟨x12,x13_2,x14,y0_2⟩ h
 replace h:=hJ_2 _ _ _ _ h
 refine bI (bC ht hn 5 ⟨[qj4,bg 49 (qj2 R),ba 50 x12,ba 51 x13_2,ba 52 x14,bg 53 (dv dom φ)],[.box [I y0_2] 3 false]⟩ ?_)
 obtain ⟨hp,h⟩:=h
 refine dz [qj4,bg 49 (qj2 R),ba 50 x12,ba 51 x13_2,ba 52 x14,bg 53 (dv dom φ)] (CJ R x12 x13_2 x14 y0_2 dom φ hp) KQ (caps:=[]) [0] hn (by rfl) rfl (by rfl) (eR (by kernel_rfl) (by rfl)) (by kernel_rfl) (by decide) (by kernel_rfl) (by rfl) (by rfl) (fun r_4 hr_4=>⟨by rfl,_,by rfl,?_⟩)
 replace h:=h r_4 hr_4
 refine bM hn ?_
 exact bZ (r_4.1,r_4.2) h
 exact bn (bZ ((qj3 a b),0) h)
 rintro ⟨x13,y0⟩ h
 replace h:=hJ _ _ h
 refine bk hn ?_
 refine bj (bk hn ?_)
 refine bv h (fun h=>?_) (fun h=>?_)
 exact cD hn (x13,1) h
 refine bk hn ?_
 refine bv h (fun h=>?_) (fun h=>?_)
 exact cD hn (x13,2) h
 exact cD hn (x13,0) h
theorem M4 : ∀ args w,(callFunc 90 args).run Tryz.prog w=.ok (.enter 90 args) w:=enters_of Tryz.func90 (by kernel_rfl) rfl
theorem Jl (R:List aY) (a:Int) (b:Int) (dom:((aY × aY) -> Prop)) (φ:((aY × aY) -> Int)) (hp:Iq dom R a b)  : Ct 90 [.sv (.one (LS aY.ty R)), .sv (.one (I a)), .sv (.one (I b)), .sv (.one (dv dom φ))] [] (Kz a b) (fun (r:(Int × Int))=>.tup [.one (I r.1), .one (I r.2)]):=by
 refine Es R a b dom φ (Kz a b) ?_
 obtain ⟨hd,⟨ha,hab,hb⟩,hl⟩:=hp
 unfold xT
 intro _
 obtain ⟨A,rfl⟩:∃ A:Nat,a=A:=⟨a.toNat,by omega⟩
 obtain ⟨n,rfl⟩:∃ n:Nat,b=((A + n:Nat):Int):=⟨(b - A).toNat,by omega⟩
 have w1:wr (((A + n:Nat):Int) - (A:Int))=(n:Int):=by rw [bL (by omega) (by omega)]; omega
 have w2:wr (Int.tdiv (n:Int) 4)=((n / 4:Nat):Int):=by
  rw [nN (by omega),bL (by omega) (by omega)]
  omega
 rw [w1,w2]
 have wm:∀ j:Int,1 <= j /\ j <= 3 -> wr ((A:Int) + wr (((n / 4:Nat):Int) * j))=(A:Int) + ((n / 4:Nat):Int) * j:=fun j hj=>by
  have:((n / 4:Nat):Int) * j <= ((n / 4:Nat):Int) * 3:=rt hj.2 (by omega)
  have h0:0 <= ((n / 4:Nat):Int) * j:=mi (by omega) (by omega)
  rw [bL (n:=((n / 4:Nat):Int) * j) (by omega) (by omega),bL (by omega) (by omega)]
 rw [wm 1 (by omega),wm 2 (by omega),wm 3 (by omega)]
 refine ⟨fun x _=>(A:Int) <= x /\ x < ((A + n:Nat):Int),⟨fun h8=>?_,fun _=>⟨by omega,by omega⟩⟩,fun x _ hx=>⟨fun _=>hx,fun _=>⟨fun _=>hx,fun _=>hx⟩⟩⟩
 have h8:=ca h8
 have h8:8 <= (n:Int):=h8
 refine ⟨fun x y z _=>((A:Int) <= x /\ x < ((A + n:Nat):Int)) /\ ((A:Int) <= y /\ y < ((A + n:Nat):Int)) /\ ((A:Int) <= z /\ z < ((A + n:Nat):Int)),⟨fun h50=>?_,fun _=>⟨⟨by omega,by omega⟩,⟨by omega,by omega⟩,⟨by omega,by omega⟩⟩⟩,?_⟩
 ·have h50:=ca h50
  have h50:50 <= (n:Int):=h50
  refine ⟨⟨hd,⟨by omega,by omega⟩,hl⟩,fun r hr=>⟨⟨hd,⟨by omega,by omega⟩,hl⟩,fun s hs=>⟨⟨hd,⟨by omega,by omega⟩,hl⟩,fun t ht=>?_⟩⟩⟩
  obtain ⟨r1,r2⟩:=hr
  obtain ⟨s1,s2⟩:=hs
  obtain ⟨t1,t2⟩:=ht
  exact ⟨⟨by omega,by omega⟩,⟨by omega,by omega⟩,⟨by omega,by omega⟩⟩
 ·rintro x y z s ⟨hx,hy,hz⟩
  refine ⟨⟨hd,⟨by omega,by omega⟩,⟨by omega,by omega⟩,⟨by omega,by omega⟩⟩,fun r hr=>?_⟩
  have hr:r.1=x \/ r.1=y \/ r.1=z:=hr
  rcases hr with e | e | e <;> rw [e] <;> assumption
def yz : ByteArray:=ByteArray.mk #[0,1,2,2,3,3,3,3,4,4,4,4,4,4,4,4,5,5,5,5,5,5,5,5,5,5,5,5,5,5,5,5,6,6,6,6,6,6,6,6,6,6,6,6,6,6,6,6,6,6,6,6,6,6,6,6,6,6,6,6,6,6,6,6,7,7,7,7,7,7,7,7,7,7,7,7,7,7,7,7,7,7,7,7,7,7,7,7,7,7,7,7,7,7,7,7,7,7,7,7,7,7,7,7,7,7,7,7,7,7,7,7,7,7,7,7,7,7,7,7,7,7,7,7,7,7,7,7,8,8,8,8,8,8,8,8,8,8,8,8,8,8,8,8,8,8,8,8,8,8,8,8,8,8,8,8,8,8,8,8,8,8,8,8,8,8,8,8,8,8,8,8,8,8,8,8,8,8,8,8,8,8,8,8,8,8,8,8,8,8,8,8,8,8,8,8,8,8,8,8,8,8,8,8,8,8,8,8,8,8,8,8,8,8,8,8,8,8,8,8,8,8,8,8,8,8,8,8,8,8,8,8,8,8,8,8,8,8,8,8,8,8,8,8,8,8,8,8,8,8,8,8,8,8,8,8]
def se (x:Int) (Q:Int -> Prop):Prop:=
 ∃ J:Int -> Int -> Prop,(cv (decide (x >= 4294967296)) (J (Int.fdiv x (2 ^ (min 32 64))) 32) (J x 0)) /\
 (∀ x0 x2,J x0 x2 -> ∃ J_2:Int -> Int -> Prop,(cv (decide (x0 >= 65536)) (J_2 (Int.fdiv x0 (2 ^ (min 16 64))) (wr (x2 + 16))) (J_2 x0 x2)) /\
 (∀ x0_2 x2_2,J_2 x0_2 x2_2 -> ∃ J_3:Int -> Int -> Prop,(cv (decide (x0_2 >= 256)) (J_3 (Int.fdiv x0_2 (2 ^ (min 8 64))) (wr (x2_2 + 8))) (J_3 x0_2 x2_2)) /\
 (∀ x0_3 x2_3,J_3 x0_3 x2_3 -> ∃ b,vh yz (IntKind.wrap .u8 x0_3)=some b /\
 Q (wr (x2_3 + (wr b))))))
theorem A5 (x:Int) (Q:Int -> Prop) (h:se x Q):Ct 86 [.sv (.one (.v (.int .u64 x)))] [] Q (fun (r:Int)=>.sv (.one (I r))):=by
 have ht:=bA
 refine Ct.body Tryz.func86 rfl rfl rfl rfl (fun c hn=>?_)
 unfold se at h
 refine bk hn ?_
 obtain ⟨J,h,hJ⟩:=h
 refine bS (σ:=Int × Int) (fun zz=>J zz.1 zz.2) (fun zz=>⟨[bg 0 (.v (.int .u64 zz.1)),ba 2 zz.2],[]⟩) ?_ ?_
 refine bk hn ?_
 refine bv h (fun h=>?_) (fun h=>?_)
 refine bk hn ?_
 exact cn hn ((Int.fdiv x (2 ^ (min 32 64))),32) h
 exact bn (bZ (x,0) h)
 rintro ⟨x0,x2⟩ h
 replace h:=hJ _ _ h
 obtain ⟨J_2,h,hJ_2⟩:=h
 refine bS (σ:=Int × Int) (fun zz=>J_2 zz.1 zz.2) (fun zz=>⟨[bg 0 (.v (.int .u64 zz.1)),ba 2 zz.2],[]⟩) ?_ ?_
 refine bk hn ?_
 refine bv h (fun h=>?_) (fun h=>?_)
 refine bk hn ?_
 exact cn hn ((Int.fdiv x0 (2 ^ (min 16 64))),(wr (x2 + 16))) h
 exact bn (bZ (x0,x2) h)
 rintro ⟨x0_2,x2_2⟩ h
 replace h:=hJ_2 _ _ h
 obtain ⟨J_3,h,hJ_3⟩:=h
 refine bS (σ:=Int × Int) (fun zz=>J_3 zz.1 zz.2) (fun zz=>⟨[bg 0 (.v (.int .u64 zz.1)),ba 2 zz.2],[]⟩) ?_ ?_
 refine bk hn ?_
 refine bv h (fun h=>?_) (fun h=>?_)
 refine bk hn ?_
 exact cn hn ((Int.fdiv x0_2 (2 ^ (min 8 64))),(wr (x2_2 + 8))) h
 exact bn (bZ (x0_2,x2_2) h)
 rintro ⟨x0_3,x2_3⟩ h
 replace h:=hJ_3 _ _ h
 refine bp (bC ht hn 3 ⟨[ba 19 x2_3,bg 21 (.v (.int .u8 (IntKind.wrap .u8 x0_3)))],[]⟩ ?_)
 obtain ⟨b,hb_2,h⟩:=h
 refine fe hn (Bl (s:=yz) (i:=(IntKind.wrap .u8 x0_3)) rfl Tryz.underlying9 (by rfl) (by rfl) hb_2) ?_
 refine bM hn ?_
 exact fL ht (wr (x2_3 + (wr b))) h
theorem M8 : ∀ args w,(callFunc 86 args).run Tryz.prog w=.ok (.enter 86 args) w:=enters_of Tryz.func86 (by kernel_rfl) rfl
def KC (y:Nat):Bool:=match vh yz (y:Int) with
 | some t=>decide (0 <= t /\ t <= 8) && decide (y < 2 ^ t.toNat) && (decide (y=0) || decide (2 ^ t.toNat <= 2 * y))
 | none=>false
theorem IT : (List.range 256).all KC=true:=by kernel_rfl
theorem K9 {y:Nat} (h:y < 256):∃ t:Nat,vh yz (y:Int)=some (t:Int) /\ t <= 8 /\ y < 2 ^ t /\ (1 <= y -> 2 ^ t <= 2 * y):=by
 have:=cI.1 IT y (d6.2 h)
 unfold KC at this
 split at this
 ·rename_i t ht
  rw [cC,cC,fc,fu,fu,fu,fu] at this
  obtain ⟨⟨h1,h2⟩,h3⟩:=this
  exact ⟨t.toNat,by rw [dB h1.1]; exact ht,by omega,h2,fun h4=>by omega⟩
 ·cases this
theorem FB (x:Int) (hp:0 <= x /\ x < 1048576)  : Ct 86 [.sv (.one (.v (.int .u64 x)))] [] (sq x) (fun (r:Int)=>.sv (.one (I r))):=by
 refine A5 x (sq x) ?_
 obtain ⟨h0,h1⟩:=hp
 unfold se
 have e8:∀ y:Int,0 <= y -> Int.fdiv y (2 ^ (min 8 64))=y / 256:=fun y hy=>xn _ (by decide)
 have e16:∀ y:Int,0 <= y -> Int.fdiv y (2 ^ (min 16 64))=y / 65536:=fun y hy=>xn _ (by decide)
 refine ⟨fun y n=>y=x /\ n=0,⟨fun h=>absurd (ca h) (by omega),fun _=>⟨rfl,rfl⟩⟩,?_⟩
 rintro y0 n0 ⟨e1,e2⟩
 have e1:=e1.symm
 subst e1
 subst e2
 refine ⟨fun y n=>(n=0 /\ y=x /\ x < 65536) \/ (n=16 /\ y=x / 65536 /\ 65536 <= x),⟨fun h=>.inr ⟨rfl,e16 x h0,ca h⟩,fun h=>.inl ⟨rfl,rfl,by have:=cx h; omega⟩⟩,?_⟩
 intro y n hy
 refine ⟨fun z k=>0 <= z /\ z < 256 /\ ((k=0 /\ z=x) \/ (k=8 /\ z=x / 256 /\ 256 <= x) \/ (k=16 /\ z=x / 65536 /\ 65536 <= x)),⟨fun h=>?_,fun h=>?_⟩,?_⟩
 ·have h:=ca h
  rw [e8 y (by omega)]
  rcases hy with ⟨rfl,rfl,h2⟩ | ⟨rfl,rfl,h2⟩
  ·exact ⟨by omega,by omega, .inr (.inl ⟨rfl,rfl,h⟩)⟩
  ·omega
 ·have h:=cx h
  rcases hy with ⟨rfl,rfl,h2⟩ | ⟨rfl,rfl,h2⟩
  ·exact ⟨by omega,by omega, .inl ⟨rfl,rfl⟩⟩
  ·exact ⟨by omega,by omega, .inr (.inr ⟨rfl,rfl,h2⟩)⟩
 rintro z k ⟨z0,z1,hz⟩
 obtain ⟨Z,rfl⟩:∃ Z:Nat,z=Z:=⟨z.toNat,by omega⟩
 obtain ⟨t,ht,t8,t1,t2⟩:=K9 (y:=Z) (by omega)
 have wz:IntKind.wrap .u8 (Z:Int)=(Z:Int):=by
  unfold IntKind.wrap
  simp [IntKind.bits,IntKind.signed]
  omega
 have wt:wr (t:Int)=(t:Int):=bL (by omega) (by omega)
 rw [wz]
 refine ⟨_,ht,?_⟩
 rw [wt]
 have pw:∀ j:Nat,(((2:Nat) ^ (j + t):Nat):Int)=((2 ^ j:Nat):Int) * ((2 ^ t:Nat):Int):=fun j=>by rw [Nat.pow_add]; exact g9 _ _
 have cast:∀ m:Nat,((2:Int) ^ m)=(((2:Nat) ^ m:Nat):Int):=fun m=>(Int.natCast_pow 2 m).symm
 obtain ⟨P,hP⟩:∃ P:Nat,P=2 ^ t:=⟨_,rfl⟩
 rw [<- hP] at t1 t2
 unfold sq
 rcases hz with ⟨rfl,h2⟩ | ⟨rfl,h2,h3⟩ | ⟨rfl,h2,h3⟩
 ·have w:wr (0 + (t:Int))=(t:Int):=by rw [bL (by omega) (by omega)]; omega
  rw [w,bE,cast,<- hP]
  exact ⟨by omega,by omega,by omega,fun _=>by omega⟩
 ·have w:wr (8 + (t:Int))=((8 + t:Nat):Int):=by rw [bL (by omega) (by omega)]; omega
  have p8:((2 ^ 8:Nat):Int)=256:=rfl
  rw [w,bE,cast,pw,<- hP,p8]
  exact ⟨by omega,by omega,by omega,fun _=>by omega⟩
 ·have w:wr (16 + (t:Int))=((16 + t:Nat):Int):=by rw [bL (by omega) (by omega)]; omega
  have p8:((2 ^ 16:Nat):Int)=65536:=rfl
  have tle:t <= 4:=by
   rcases dA 4 t with c | c
   ·have:2 ^ 5 <= 2 ^ t:=Nat.pow_le_pow_right (by decide) c
    have:32 <= 2 ^ t:=this
    omega
   ·exact c
  rw [w,bE,cast,pw,<- hP,p8]
  exact ⟨by omega,by omega,by omega,fun _=>by omega⟩
def DC (x:Int) (Q:Int -> Prop):Prop:=
 (0 <= x /\ x < 1048576) /\
 ∀ r:Int,(sq x) r ->
 (Q r)
theorem FA (x:Int) (Q:Int -> Prop) (h:DC x Q):Ct 73 [.sv (.one (.v (.int .u64 x)))] [] Q (fun (r:Int)=>.sv (.one (I r))):=by
 have ht:=bA
 refine Ct.body Tryz.func73 rfl rfl rfl rfl (fun c hn=>?_)
 unfold DC at h
 refine bp (cw ht hn 1 ⟨[bg 0 (.v (.int .u64 x))],[]⟩ ?_)
 refine bi (Bd (b:=false) (fun hb=>?_) (fun hb=>?_))
 cases hb
 refine bn (bp (bC ht hn 1 ⟨[bg 6 (.v (.int .u64 x))],[]⟩ ?_))
 obtain ⟨hp,h⟩:=h
 refine fw (Q:=sq x) (x:=fun (r:Int)=>.sv (.one (I r))) (p:=fun _=>none) hn (by rfl) (eH (FB x hp) M8 (caps:=[]) [] rfl (by rfl) (by kernel_rfl) (by kernel_rfl) (by rfl) (fun _=>rfl) (by rfl)) (fun r hr_2=>⟨by rfl,_,by rfl,?_⟩)
 replace h:=h r hr_2
 refine bM hn ?_
 exact fL ht r h
theorem LF : ∀ args w,(callFunc 73 args).run Tryz.prog w=.ok (.enter 73 args) w:=enters_of Tryz.func73 (by kernel_rfl) rfl
theorem zm (x:Int) (hp:0 <= x /\ x < 1048576)  : Ct 73 [.sv (.one (.v (.int .u64 x)))] [] (sq x) (fun (r:Int)=>.sv (.one (I r))):=by
 refine FA x (sq x) ?_
 exact ⟨hp,fun _ h=>h⟩
def zl (n:Int) (Q:Int -> Prop):Prop:=
 (0 <= (IntKind.wrap .u64 n) /\ (IntKind.wrap .u64 n) < 1048576) /\
 ∀ r:Int,(sq (IntKind.wrap .u64 n)) r ->
 ((0 <= r) /\
 Q (IntKind.wrap .u64 (1 * (2 ^ (min (r).toNat 64)))))
theorem Fz (n:Int) (Q:Int -> Prop) (h:zl n Q):Ct 96 [.sv (.one (I n))] [] Q (fun (r:Int)=>.sv (.one (.v (.int .u64 r)))):=by
 have ht:=bA
 refine Ct.body Tryz.func96 rfl rfl rfl rfl (fun c hn=>?_)
 unfold zl at h
 refine bk hn ?_
 refine bp (bC ht hn 2 ⟨[bg 4 (.v (.int .u64 (IntKind.wrap .u64 n)))],[]⟩ ?_)
 obtain ⟨hp,h⟩:=h
 refine fw (Q:=sq (IntKind.wrap .u64 n)) (x:=fun (r:Int)=>.sv (.one (I r))) (p:=fun _=>none) hn (by rfl) (eH (zm (IntKind.wrap .u64 n) hp) LF (caps:=[]) [] rfl (by rfl) (by kernel_rfl) (by kernel_rfl) (by rfl) (fun _=>rfl) (by rfl)) (fun r hr_2=>⟨by rfl,_,by rfl,?_⟩)
 replace h:=h r hr_2
 have hz:=h.1
 replace h:=h.2
 refine fe hn (nU (u:=1) (v:=r) rfl (by rfl) (by rfl) hz (.inl ⟨rfl,rfl⟩)) ?_
 refine bM hn ?_
 exact fL ht (IntKind.wrap .u64 (1 * (2 ^ (min (r).toNat 64)))) h
theorem MX : ∀ args w,(callFunc 96 args).run Tryz.prog w=.ok (.enter 96 args) w:=enters_of Tryz.func96 (by kernel_rfl) rfl
theorem Kl (n:Int) (hp:0 <= n /\ n < 1048576)  : Ct 96 [.sv (.one (I n))] [] (Kv n) (fun (r:Int)=>.sv (.one (.v (.int .u64 r)))):=by
 refine Fz n (Kv n) ?_
 unfold zl
 have wn:IntKind.wrap .u64 n=n:=ry (by omega)
 rw [wn]
 refine ⟨hp,fun r hr=>?_⟩
 obtain ⟨h0,h1,h2,h3⟩:=hr
 obtain ⟨k,rfl⟩:∃ k:Nat,r=k:=⟨r.toNat,by omega⟩
 rw [bE] at h2 h3 ⊢
 have hk:k <= 20:=by omega
 have hpw:(2:Int) ^ k <= 1048576:=by
  have:2 ^ k <= 2 ^ 20:=Nat.pow_le_pow_right (by decide) hk
  have e:((2:Int) ^ k)=(((2:Nat) ^ k:Nat):Int):=(Int.natCast_pow 2 k).symm
  rw [e]
  omega
 have hpos:0 <= (2:Int) ^ k:=by
  have e:((2:Int) ^ k)=(((2:Nat) ^ k:Nat):Int):=(Int.natCast_pow 2 k).symm
  rw [e]
  omega
 refine ⟨by omega,k,?_,hk,h2,h3⟩
 rw [mQ (by omega),Int.one_mul]
 exact ry (by omega)
def ze (x:Int) (Q:Int × Int -> Prop):Prop:=
 Q ((bR .xor .u64 (bR .xor .u64 (bR .xor .u64 x (IntKind.wrap .u64 (x * 2 ^ (min 13 64)))) (Int.fdiv (bR .xor .u64 x (IntKind.wrap .u64 (x * 2 ^ (min 13 64)))) (2 ^ (min 7 64)))) (IntKind.wrap .u64 ((bR .xor .u64 (bR .xor .u64 x (IntKind.wrap .u64 (x * 2 ^ (min 13 64)))) (Int.fdiv (bR .xor .u64 x (IntKind.wrap .u64 (x * 2 ^ (min 13 64)))) (2 ^ (min 7 64)))) * 2 ^ (min 17 64)))),(bR .xor .u64 (bR .xor .u64 (bR .xor .u64 x (IntKind.wrap .u64 (x * 2 ^ (min 13 64)))) (Int.fdiv (bR .xor .u64 x (IntKind.wrap .u64 (x * 2 ^ (min 13 64)))) (2 ^ (min 7 64)))) (IntKind.wrap .u64 ((bR .xor .u64 (bR .xor .u64 x (IntKind.wrap .u64 (x * 2 ^ (min 13 64)))) (Int.fdiv (bR .xor .u64 x (IntKind.wrap .u64 (x * 2 ^ (min 13 64)))) (2 ^ (min 7 64)))) * 2 ^ (min 17 64)))))
abbrev qm0 (x:Int):=(bR .xor .u64 (bR .xor .u64 x (IntKind.wrap .u64 (x * 2 ^ (min 13 64)))) (Int.fdiv (bR .xor .u64 x (IntKind.wrap .u64 (x * 2 ^ (min 13 64)))) (2 ^ (min 7 64))))
abbrev qm1 (x:Int):=(bR .xor .u64 (qm0 x) (IntKind.wrap .u64 ((qm0 x) * 2 ^ (min 17 64))))
abbrev qm2 (x:Int):=(bR .xor .u64 x (IntKind.wrap .u64 (x * 2 ^ (min 13 64))))
theorem Fs (x:Int) (Q:Int × Int -> Prop) (h:ze x Q):fj 97 [.sv (.one (.ptr 0 0))] [.box [.v (.int .u64 x)] 148 false] [0] Q (fun (r:Int × Int)=>.sv (.one (.v (.int .u64 r.1)))) (fun (r:Int × Int)=>[.box [.v (.int .u64 r.2)] 148 false]):=by
 have ht:=bA
 refine fj.body Tryz.func97 rfl rfl rfl (by kernel_rfl) (by kernel_rfl) (fun c Bk hn=>?_)
 unfold ze at h
 refine bk hn ?_
 refine bi (da ⟨[bg 0 (.pptr 0 0 (Bk 0))],[cQ 0 0,cQ 0 0,o1 (.v (.int .u64 x)),cQ 0 0,cQ 0 0,o1 (.v (.int .u64 x)),o1 (.v (.int .u64 (IntKind.wrap .u64 (x * 2 ^ (min 13 64))))),o1 (.v (.int .u64 (qm2 x))),cQ 0 0,bJ],[⟨.box [.v (.int .u64 x)] 148 false,none,none,some (9, .box [.v (.int .u64 (qm2 x))] 148 false)⟩]⟩ hn ?_ ?_)
 exact ⟨.e,
 .e,
 .e,
 .e,
 .e,
 .e,
 .e,
 .e,
 .e,
 .mu ⟨[bg 10 (.v (.int .u64 (qm2 x))),bu 11 0 0],[.box [.v (.int .u64 x)] 148 false]⟩ 0 _ _ rfl rfl (by kernel_rfl) (by rfl) (eY ht rfl (by rfl) (by rfl) (by rfl) (by rfl) (fun h=>by cases h) (by rfl) (by rfl)) rfl rfl rfl rfl rfl rfl rfl,
 trivial⟩
 refine bi (da ⟨[bg 0 (.pptr 0 0 (Bk 0))],[cQ 0 0,cQ 0 0,o1 (.v (.int .u64 (qm2 x))),cQ 0 0,cQ 0 0,o1 (.v (.int .u64 (qm2 x))),o1 (.v (.int .u64 (Int.fdiv (qm2 x) (2 ^ (min 7 64))))),o1 (.v (.int .u64 (qm0 x))),cQ 0 0,bJ],[⟨.box [.v (.int .u64 (qm2 x))] 148 false,none,none,some (9, .box [.v (.int .u64 (qm0 x))] 148 false)⟩]⟩ hn ?_ ?_)
 exact ⟨.e,
 .e,
 .e,
 .e,
 .e,
 .e,
 .e,
 .e,
 .e,
 .mu ⟨[bg 19 (.v (.int .u64 (qm0 x))),bu 20 0 0],[.box [.v (.int .u64 (qm2 x))] 148 false]⟩ 0 _ _ rfl rfl (by kernel_rfl) (by rfl) (eY ht rfl (by rfl) (by rfl) (by rfl) (by rfl) (fun h=>by cases h) (by rfl) (by rfl)) rfl rfl rfl rfl rfl rfl rfl,
 trivial⟩
 refine bi (da ⟨[bg 0 (.pptr 0 0 (Bk 0))],[cQ 0 0,cQ 0 0,o1 (.v (.int .u64 (qm0 x))),cQ 0 0,cQ 0 0,o1 (.v (.int .u64 (qm0 x))),o1 (.v (.int .u64 (IntKind.wrap .u64 ((qm0 x) * 2 ^ (min 17 64))))),o1 (.v (.int .u64 (qm1 x))),cQ 0 0,bJ],[⟨.box [.v (.int .u64 (qm0 x))] 148 false,none,none,some (9, .box [.v (.int .u64 (qm1 x))] 148 false)⟩]⟩ hn ?_ ?_)
 exact ⟨.e,
 .e,
 .e,
 .e,
 .e,
 .e,
 .e,
 .e,
 .e,
 .mu ⟨[bg 28 (.v (.int .u64 (qm1 x))),bu 29 0 0],[.box [.v (.int .u64 (qm0 x))] 148 false]⟩ 0 _ _ rfl rfl (by kernel_rfl) (by rfl) (eY ht rfl (by rfl) (by rfl) (by rfl) (by rfl) (fun h=>by cases h) (by rfl) (by rfl)) rfl rfl rfl rfl rfl rfl rfl,
 trivial⟩
 refine bp (cw ht hn 4 ⟨[bg 0 (.pptr 0 0 (Bk 0)),bg 2 (.v (.int .u64 (qm1 x)))],[.box [.v (.int .u64 (qm1 x))] 148 false]⟩ ?_)
 exact cT (fp [0] ht ((qm1 x),(qm1 x)) h (by kernel_rfl) (by rfl) rfl)
theorem MW : ∀ args w,(callFunc 97 args).run Tryz.prog w=.ok (.enter 97 args) w:=enters_of Tryz.func97 (by kernel_rfl) rfl
def LQ (x:Int) (r:Int × Int):Prop:=True
theorem Kj (x:Int):fj 97 [.sv (.one (.ptr 0 0))] [.box [.v (.int .u64 x)] 148 false] [0] (LQ x) (fun (r:Int × Int)=>.sv (.one (.v (.int .u64 r.1)))) (fun (r:Int × Int)=>[.box [.v (.int .u64 r.2)] 148 false]):=Fs x _ (trivial:ze x (LQ x))
def tC (R:List aY) (a:Int) (b:Int) (dom:((aY × aY) -> Prop)) (φ:((aY × aY) -> Int)) (Q:(List aY) -> Prop):Prop:=
 cv (decide ((wr (b - a)) >= 8)) ((0 <= (wr (b - a)) /\ (wr (b - a)) < 1048576) /\
 ∀ r:Int,(Kv (wr (b - a))) r ->
 (∃ (Inv:Int -> (List aY) -> Int -> Prop) (mu:Int -> (List aY) -> Int -> Nat),Inv (wr ((wr (a + (wr ((wr (Int.tdiv (wr (b - a)) 4)) * 2)))) - 1)) R (IntKind.wrap .u64 (wr (b - a))) /\
 ∀ x11 l0 y1,Inv x11 l0 y1 -> (cv (decide (x11 <= (wr ((wr (a + (wr ((wr (Int.tdiv (wr (b - a)) 4)) * 2)))) + 1)))) (∀ r_2:Int × Int,(LQ y1) r_2 ->
 (∃ J:Int -> Prop,(cv (decide ((wr (bR .and .u64 r_2.1 (IntKind.wrap .u64 (r - 1)))) >= (wr (b - a)))) (J (wr ((wr (bR .and .u64 r_2.1 (IntKind.wrap .u64 (r - 1)))) - (wr (b - a))))) (J (wr (bR .and .u64 r_2.1 (IntKind.wrap .u64 (r - 1)))))) /\
 (∀ x12,J x12 -> ∃ e,cq l0 (wr (a + x12))=some e /\
 ∃ e_2,cq l0 x11=some e_2 /\
 ∃ e_3,cq l0 x11=some e_3 /\
 ∃ e_4,cq (l0.set (x11).toNat e) (wr (a + x12))=some e_4 /\
 (Inv (wr (x11 + 1)) ((l0.set (x11).toNat e).set ((wr (a + x12))).toNat e_2) r_2.2 /\ mu (wr (x11 + 1)) ((l0.set (x11).toNat e).set ((wr (a + x12))).toNat e_2) r_2.2 < mu x11 l0 y1)))) (Q l0)))) (Q R)
abbrev qn0 (a:Int) (b:Int) (y0:Nat -> Value):=([bg 0 (.pown 0 (y0 0)),bg 1 (I a),bg 8 (I (wr (b - a))),bg 9 (.ptr 1 0)]:List (Nat × SC))
abbrev qn1 (a:Int) (b:Int) (y0:Int):=(decide (y0 <= (wr ((wr (a + (wr ((wr (Int.tdiv (wr (b - a)) 4)) * 2)))) + 1))))
theorem Et (R:List aY) (a:Int) (b:Int) (dom:((aY × aY) -> Prop)) (φ:((aY × aY) -> Int)) (Q:(List aY) -> Prop) (h:tC R a b dom φ Q):fj 89 [.sv (.one (.own 0)), .sv (.one (I a)), .sv (.one (I b)), .sv (.one (dv dom φ))] [bf 29 aY.ty R] [0] Q (fun (r:List aY)=>.tup []) (fun (r:List aY)=>[bf 29 aY.ty r]):=by
 have ht:=bA
 refine eZ Tryz.func89 rfl rfl rfl (by kernel_rfl) (fun c Vk hn=>?_)
 unfold tC at h
 refine bk hn ?_
 refine bp (cw ht hn 2 ⟨[bg 0 (.pown 0 (Vk 0)),ba 1 a,ba 8 (wr (b - a)),bG 17 (decide ((wr (b - a)) >= 8))],[bf 29 aY.ty R]⟩ ?_)
 refine bv h (fun h=>?_) (fun h=>?_)
 refine bk hn ?_
 refine bp (bC ht hn 1 ⟨ba 20 (wr (b - a)) :: (qn0 a b Vk),[bf 29 aY.ty R, .box [.v (.int .u64 (IntKind.wrap .u64 (wr (b - a))))] 148 false]⟩ ?_)
 obtain ⟨hp,h⟩:=h
 refine fw (Q:=Kv (wr (b - a))) (x:=fun (r:Int)=>.sv (.one (.v (.int .u64 r)))) (p:=fun _=>none) hn (by rfl) (eH (Kl (wr (b - a)) hp) MX (caps:=[]) [] rfl (by rfl) (by kernel_rfl) (by kernel_rfl) (by rfl) (fun _=>rfl) (by rfl)) (fun r hr_2=>⟨by rfl,_,by rfl,?_⟩)
 replace h:=h r hr_2
 refine bM hn ?_
 refine bk hn ?_
 refine bj (ma h (fun zz=>⟨[bg 0 (.pown 0 (Vk 0)),ba 1 a,ba 8 (wr (b - a)),bu 9 1 0,bg 10 (.v (.int .u64 r)),ba 11 zz.1],[bf 29 aY.ty zz.2.1, .box [.v (.int .u64 zz.2.2)] 148 false]⟩) fun Inv mu x11 l0 y1 h=>?_)
 refine bi (bp (cw ht hn 8 ⟨sl 10 (.v (.int .u64 r)) :: ba 11 x11 :: bG 35 (qn1 a b x11) :: (qn0 a b Vk),[bf 29 aY.ty l0, .box [.v (.int .u64 y1)] 148 false]⟩ ?_))
 refine bv h (fun h=>?_) (fun h=>?_)
 refine bn (bi (bj (bp ?_)))
 refine dz [bg 0 (.pown 0 (Vk 0)),ba 1 a,ba 8 (wr (b - a)),bu 9 1 0,bg 10 (.v (.int .u64 r)),ba 11 x11,bG 35 (qn1 a b x11)] (Kj y1) MW (caps:=[]) [1] hn (by rfl) rfl (by rfl) (eR (by kernel_rfl) (by rfl)) (by kernel_rfl) (by decide) (by kernel_rfl) (by rfl) (by rfl) (fun r_2 hr_2_2=>⟨by rfl,_,by rfl,?_⟩)
 replace h:=h r_2 hr_2_2
 refine bM hn ?_
 obtain ⟨J,h,hJ⟩:=h
 refine bS (σ:=Int) (fun zz=>J zz) (fun zz=>⟨[bg 0 (.pown 0 (Vk 0)),ba 1 a,ba 8 (wr (b - a)),bu 9 1 0,bg 10 (.v (.int .u64 r)),ba 11 x11,ba 12 zz],[bf 29 aY.ty l0, .box [.v (.int .u64 r_2.2)] 148 false]⟩) ?_ ?_
 refine bk hn ?_
 refine bv h (fun h=>?_) (fun h=>?_)
 exact cn hn (wr ((wr (bR .and .u64 r_2.1 (IntKind.wrap .u64 (r - 1)))) - (wr (b - a)))) h
 exact bn (bZ (wr (bR .and .u64 r_2.1 (IntKind.wrap .u64 (r - 1)))) h)
 intro x12 h
 replace h:=hJ _ h
 obtain ⟨e,he,h⟩:=h
 obtain ⟨e_2,he_2,h⟩:=h
 obtain ⟨e_3,he_3,h⟩:=h
 refine dt ⟨sl 10 (.v (.int .u64 r)) :: ba 11 x11 :: ba 12 x12 :: (qn0 a b Vk),[cu 0,bq x11,cu 0,bq a,bq x12,bq (wr (a + x12)),cu 0,bq a,bq x12,bq (wr (a + x12)),o1 (.oe 0 (wr (a + x12)).toNat 3), .sv (.agg (aY.cl e)),cu 0,bq x11,o1 (.oe 0 (x11).toNat 3), .sv (.agg (aY.cl e_2)),o1 (.oe 0 (x11).toNat 3),bJ],[⟨bf 29 aY.ty l0,none,none,some (17,bf 29 aY.ty (l0.set (x11).toNat e))⟩,bU (.box [.v (.int .u64 r_2.2)] 148 false)]⟩ 18 ⟨sl 10 (.v (.int .u64 r)) :: ba 11 x11 :: bx 51 0 :: ba 54 (wr (a + x12)) :: (64, .sv (.agg (aY.cl e_2))) :: (qn0 a b Vk),[bf 29 aY.ty (l0.set (x11).toNat e), .box [.v (.int .u64 r_2.2)] 148 false]⟩ (by kernel_rfl) hn (by kernel_rfl) (by kernel_rfl) (by kernel_rfl) (by rfl) (by kernel_rfl) ?_ (by kernel_rfl) ?_
 exact ⟨.e,
 .e,
 .e,
 .e,
 .e,
 .e,
 .e,
 .e,
 .e,
 .e,
 .i (T:=aY.ty) rfl he,
 .l (T:=aY.ty) rfl (bs he).2.2,
 .e,
 .e,
 .i (T:=aY.ty) rfl he_2,
 .l (T:=aY.ty) rfl (bs he_2).2.2,
 .i (T:=aY.ty) rfl he_3,
 .mu ⟨[(60, .sv (.agg (aY.cl e))),bg 65 (.oe 0 (x11).toNat 3)],[bf 29 aY.ty l0]⟩ 0 _ _ rfl rfl (by kernel_rfl) (by rfl) (dY (T:=aY.ty) (l:=l0) (y:=e) ht rfl (by rfl) (by rfl) (fun _ h=>by cases h) (by rfl) (by rfl) (dd he_3) (by rfl) (by rfl) (by rfl)) rfl rfl rfl rfl rfl rfl rfl,
 trivial⟩
 obtain ⟨e_4,he_4,h⟩:=h
 refine bT hn (iO (T:=aY.ty) rfl he_4) ?_
 refine gg (T:=aY.ty) (y:=e_2) hn rfl (dd he_4) ?_
 exact bH (cn hn ((wr (x11 + 1)),((l0.set (x11).toNat e).set (wr (a + x12)).toNat e_2),r_2.2) h)
 exact bD rfl (d4 [0] ht l0 h (by kernel_rfl) (by rfl) rfl)
 exact bn (d4 [0] ht R h (by kernel_rfl) (by rfl) rfl)
theorem M5 : ∀ args w,(callFunc 89 args).run Tryz.prog w=.ok (.enter 89 args) w:=enters_of Tryz.func89 (by kernel_rfl) rfl
theorem Jm (R:List aY) (a:Int) (b:Int) (dom:((aY × aY) -> Prop)) (φ:((aY × aY) -> Int)) (hp:oB dom φ R a b)  : tC R a b dom φ (dW a.toNat b.toNat R):=by
 obtain ⟨hd,ho,ha,hab,hbl,hlen⟩:=hp
 obtain ⟨A,rfl⟩:∃ A:Nat,a=A:=⟨a.toNat,by omega⟩
 obtain ⟨n,rfl⟩:∃ n:Nat,b=((A + n:Nat):Int):=⟨(b - A).toNat,by omega⟩
 unfold tC
 simp only [bE]
 have w1:wr (((A + n:Nat):Int) - (A:Int))=(n:Int):=by rw [bL (by omega) (by omega)]; omega
 have w2:wr (Int.tdiv (n:Int) 4)=((n / 4:Nat):Int):=by
  rw [nN (by omega),bL (by omega) (by omega)]
  omega
 have w3:wr ((A:Int) + wr (((n / 4:Nat):Int) * 2))=((A + n / 4 * 2:Nat):Int):=by
  rw [bL (n:=((n / 4:Nat):Int) * 2) (by omega) (by omega),bL (by omega) (by omega)]
  omega
 rw [w1,w2,w3]
 refine ⟨fun h8=>?_,fun _=>.refl⟩
 have h8:=ca h8
 have h8:8 <= (n:Int):=h8
 have w4:wr (((A + n / 4 * 2:Nat):Int) - 1)=((A + n / 4 * 2 - 1:Nat):Int):=by rw [bL (by omega) (by omega)]; omega
 have w5:wr (((A + n / 4 * 2:Nat):Int) + 1)=((A + n / 4 * 2 + 1:Nat):Int):=by rw [bL (by omega) (by omega)]; omega
 rw [w4,w5]
 refine ⟨⟨by omega,by omega⟩,fun r hr=>?_⟩
 obtain ⟨k,rfl,hk,k1,k2⟩:=hr
 have cast:((2:Int) ^ k)=(((2:Nat) ^ k:Nat):Int):=(Int.natCast_pow 2 k).symm
 rw [cast] at k1 k2 ⊢
 obtain ⟨P,hP⟩:∃ P:Nat,P=2 ^ k:=⟨_,rfl⟩
 rw [<- hP] at k1 k2 ⊢
 have wP:IntKind.wrap .u64 ((P:Int) - 1)=((P - 1:Nat):Int):=by
  rw [ry (by omega)]
  omega
 rw [wP]
 refine ⟨fun x l _=>∃ j:Nat,x=j /\ A + n / 4 * 2 - 1 <= j /\ j <= A + n / 4 * 2 + 2 /\ dW A (A + n) R l,fun x _ _=>A + n / 4 * 2 + 2 - x.toNat,⟨A + n / 4 * 2 - 1,rfl,bP _,by omega, .refl⟩,?_⟩
 rintro x l y ⟨j,rfl,j1,j2,hS⟩
 have hll:=hS.len
 refine ⟨fun hb=>?_,fun _=>hS⟩
 have hb:=ca hb
 refine fun v _=>?_
 obtain ⟨o,ho1,ho2⟩:∃ o:Nat,wr (bR .and .u64 v.1 ((P - 1:Nat):Int))=(o:Int) /\ o <= P - 1:=by
  have hle:(BitVec.ofInt 64 v.1 &&& BitVec.ofInt 64 ((P - 1:Nat):Int)).toNat <= P - 1:=by
   rw [BitVec.toNat_and]
   refine dp Nat.and_le_right ?_
   rw [BitVec.toNat_ofInt]
   omega
  refine ⟨(BitVec.ofInt 64 v.1 &&& BitVec.ofInt 64 ((P - 1:Nat):Int)).toNat,?_,hle⟩
  show wr (IntKind.wrap .u64 (((BitVec.ofInt 64 v.1 &&& BitVec.ofInt 64 ((P - 1:Nat):Int)).toNat:Nat):Int))=_
  have e:IntKind.wrap .u64 (((BitVec.ofInt 64 v.1 &&& BitVec.ofInt 64 ((P - 1:Nat):Int)).toNat:Nat):Int)=(((BitVec.ofInt 64 v.1 &&& BitVec.ofInt 64 ((P - 1:Nat):Int)).toNat:Nat):Int):=by
   generalize (BitVec.ofInt 64 v.1 &&& BitVec.ofInt 64 ((P - 1:Nat):Int)).toNat=q at hle
   exact ry (by omega)
  rw [e,bL (by omega) (by omega)]
 rw [ho1]
 refine ⟨fun z=>∃ q:Nat,z=q /\ q < n,⟨fun hc=>?_,fun hc=>?_⟩,?_⟩
 ·have hc:=ca hc
  exact ⟨o - n,by rw [bL (by omega) (by omega)]; omega,by omega⟩
 ·have hc:=cx hc
  exact ⟨o,rfl,by omega⟩
 rintro _ ⟨q,rfl,hq⟩
 have w6:wr ((A:Int) + (q:Int))=((A + q:Nat):Int):=by rw [bL (by omega) (by omega)]; omega
 have w7:wr ((j:Int) + 1)=((j + 1:Nat):Int):=by rw [bL (by omega) (by omega)]; omega
 rw [w6,w7]
 refine ⟨_,bB (by omega) (by omega),_,bB (by omega) (by omega),_,bB (by omega) (by omega),_,bB (by omega) (by rw [cK]; omega),⟨j + 1,rfl,by omega,by omega,hS.trans (gM (i:=j) (j:=A + q) ⟨by omega,by omega⟩ ⟨by omega,by omega⟩ (by omega))⟩,?_⟩
 show A + n / 4 * 2 + 2 - ((j + 1:Nat):Int).toNat < A + n / 4 * 2 + 2 - (j:Int).toNat
 omega
theorem Jn (R:List aY) (a:Int) (b:Int) (dom:((aY × aY) -> Prop)) (φ:((aY × aY) -> Int)) (hp:oB dom φ R a b)  : fj 89 [.sv (.one (.own 0)), .sv (.one (I a)), .sv (.one (I b)), .sv (.one (dv dom φ))] [bf 29 aY.ty R] [0] (dW a.toNat b.toNat R) (fun (r:List aY)=>.tup []) (fun (r:List aY)=>[bf 29 aY.ty r]):=Et R a b dom φ _ (Jm R a b dom φ hp)
def Ris (R:List Int):Prop:=∀ i j,i < j -> j < R.length -> gx R i < gx R j
structure kE (R:List Int) (a b:Int):Prop where
 ris:Ris R
 rng:0 <= a /\ a <= b /\ b <= R.length
 len:R.length <= 1000000
structure kT (R:List Int) (a b:Int):Prop where
 ris:Ris R
 rng:0 <= a /\ a <= b /\ b < R.length
 len:R.length <= 1000000
theorem Ris.le {R:List Int} (h:Ris R) {a b:Nat} (hab:a <= b) (hb:b < R.length):gx R a <= gx R b:=by
 rcases dA a b with c | c
 ·exact Int.le_of_lt (h a b c hb)
 ·obtain rfl:a=b:=by omega
  exact eN _
def uQ (x:Int) (Q:Bool -> Prop):Prop:=
 Q (x != x)
theorem BM (x:Int) (Q:Bool -> Prop) (h:uQ x Q):Ct 75 [.sv (.one (I x))] [] Q (fun (r:Bool)=>.sv (.one (B r))):=by
 have ht:=bA
 refine Ct.body Tryz.func75 rfl rfl rfl rfl (fun c hn=>?_)
 unfold uQ at h
 refine bk hn ?_
 exact cD hn (x != x) h
theorem J8 : ∀ args w,(callFunc 75 args).run Tryz.prog w=.ok (.enter 75 args) w:=enters_of Tryz.func75 (by kernel_rfl) rfl
theorem pP (x:Int)  : Ct 75 [.sv (.one (I x))] [] (fun (_:Unit)=>True) (fun _=>.sv (.one (B (false)))):=by
 refine (BM x (fun res_=>res_=(false)) ?_).fun
 unfold uQ
 simp
def Dr (x:Int) (y:Int) (Q:Bool -> Prop):Prop:=
 ∃ J:Bool -> Prop,(cv (false) (J ((!(false)) || (decide (x < y)))) (J (decide (x < y)))) /\
 (∀ x4,J x4 -> Q x4)
theorem Fj (x:Int) (y:Int) (Q:Bool -> Prop) (h:Dr x y Q):Ct 82 [.sv (.one (I x)), .sv (.one (I y))] [] Q (fun (r:Bool)=>.sv (.one (B r))):=by
 have ht:=bA
 refine Ct.body Tryz.func82 rfl rfl rfl rfl (fun c hn=>?_)
 unfold Dr at h
 refine bk hn ?_
 obtain ⟨J,h,hJ⟩:=h
 refine bS (σ:=Bool) (fun zz=>J zz) (fun zz=>⟨[bG 4 zz],[]⟩) ?_ ?_
 refine bI (cN hn 1 ?_)
 refine fK hn (cL (pP x) J8 rfl) ?_
 refine cN hn 1 ?_
 refine cz false (fun hb=>?_) (fun hb=>?_)
 replace h:=h.1 hb
 refine cf 7 hb ?_
 refine cN hn 1 ?_
 refine fK hn (cL (pP y) J8 rfl) ?_
 refine bC ht hn 3 ⟨[ba 0 x,ba 1 y,bG 12 (!(false))],[]⟩ ?_
 refine eB ⟨[bG 4 ((!(false)) || (decide (x < y)))],[]⟩ ?_ ?_
 refine cz (!(false)) (fun hb0=>?_) (fun hb0=>?_)
 refine cf 12 hb0 ?_
 refine bC ht hn 5 ⟨[bG 4 true],[]⟩ ?_
 exact bH (sub_ok (by simp only [hb0]; kernel_rfl))
 refine cf 12 hb0 ?_
 refine bC ht hn 5 ⟨[bG 4 (decide (x < y))],[]⟩ ?_
 exact bH (sub_ok (by simp only [hb0]; kernel_rfl))
 exact bZ ((!(false)) || (decide (x < y))) h
 replace h:=h.2 hb
 refine cf 7 hb ?_
 refine bM hn ?_
 exact bZ (decide (x < y)) h
 intro x4 h
 replace h:=hJ _ h
 exact fL ht x4 h
theorem J7 : ∀ args w,(callFunc 82 args).run Tryz.prog w=.ok (.enter 82 args) w:=enters_of Tryz.func82 (by kernel_rfl) rfl
theorem tN (x:Int) (y:Int)  : Ct 82 [.sv (.one (I x)), .sv (.one (I y))] [] (fun (_:Unit)=>True) (fun _=>.sv (.one (B (decide (x < y))))):=by
 refine (Fj x y (fun res_=>res_=(decide (x < y))) ?_).fun
 exact ⟨fun b=>b=decide (x < y),⟨fun h=>(by cases h),fun _=>rfl⟩,fun _ h=>h⟩
def C7 (R:List Int) (a:Int) (b:Int) (Q:Unit -> Prop):Prop:=
 R.length <= 9223372036854775807 ->
 (∃ (Inv:Int -> Prop) (mu:Int -> Nat),Inv (wr (a + 1)) /\
 ∀ x6,Inv x6 -> (cv (decide (x6 < b)) (∃ (Inv_2:Prop) (mu_2:Nat),Inv_2 /\
 ∀ (_:Unit),Inv_2 -> (∃ J:Bool -> Prop,(cv (decide (x6 > a)) (∃ e,cq R x6=some e /\
 ∃ e_2,cq R (wr (x6 - 1))=some e_2 /\
 J (decide (e < e_2))) (J false)) /\
 (∀ x30,J x30 -> cv x30 (False) ((Inv (wr (x6 + 1)) /\ mu (wr (x6 + 1)) < mu x6))))) (Q ())))
theorem ET (R:List Int) (a:Int) (b:Int) (Q:Unit -> Prop) (h:C7 R a b Q):fj 76 [.sv (.one (LS aZ R)), .sv (.one (I a)), .sv (.one (I b))] [] [] Q (fun (r:Unit)=>.tup []) (fun (r:Unit)=>[]):=by
 have ht:=bA
 refine fj.body Tryz.func76 rfl rfl rfl (by kernel_rfl) (by kernel_rfl) (fun c Bk hn=>?_)
 unfold C7 at h
 refine de 0 (by rfl) (fun hl=>?_)
 replace h:=h hl
 clear hl
 refine bk hn ?_
 refine bj (fC h (fun zz=>⟨[bg 0 (LS aZ R),ba 1 a,ba 2 b,ba 6 zz],[]⟩) fun Inv mu x6 h=>?_)
 refine bi (bp (cw ht hn 3 ⟨bG 12 (decide (x6 < b)) :: [bg 0 (LS aZ R),ba 1 a,ba 2 b,ba 6 x6],[]⟩ ?_))
 refine bv h (fun h=>?_) (fun h=>?_)
 refine bn (bi (bj (bk hn ?_)))
 refine bj ?_
 obtain ⟨Inv_2,mu_2,h0,hI⟩:=h
 refine kW (σ:=Unit) (fun _=>Inv_2) (fun _=>mu_2) (fun _=>⟨ba 7 x6 :: [bg 0 (LS aZ R),ba 1 a,ba 2 b,ba 6 x6],[]⟩) () h0 (sub_ok (by kernel_rfl)) ?_
 intro _ h
 replace h:=hI () h
 refine bi ?_
 obtain ⟨J,h,hJ⟩:=h
 refine bS (σ:=Bool) (fun zz=>J zz) (fun zz=>⟨[bg 0 (LS aZ R),ba 1 a,ba 2 b,ba 6 x6,ba 7 x6,bG 30 zz],[]⟩) ?_ ?_
 refine cz (decide (x6 > a)) (fun hb_2=>?_) (fun hb_2=>?_)
 replace h:=h.1 hb_2
 obtain ⟨e,he,h⟩:=h
 obtain ⟨e_2,he_2,h⟩:=h
 refine da ⟨ba 7 x6 :: [bg 0 (LS aZ R),ba 1 a,ba 2 b,ba 6 x6],[bq x6,bq a,cH true,cH true,o1 (LS aZ R),bq x6,o1 (.pe (eu (.one (I e))) 1),bq e,o1 (LS aZ R),bq x6,bq (wr (x6 - 1)),o1 (.pe (eu (.one (I e_2))) 1),bq e_2,cH (decide (e < e_2)),cH (decide (e < e_2))],[]⟩ hn ?_ ?_
 exact ⟨.e,
 .e,
 .b hb_2,
 .e,
 .e,
 .e,
 .v (bX (iX (T:=aZ) rfl he)),
 .v (bX (lD (s:=.one (I e)) rfl)),
 .e,
 .e,
 .e,
 .v (bX (iX (T:=aZ) rfl he_2)),
 .v (bX (lD (s:=.one (I e_2)) rfl)),
 .v (cL (tN e e_2) J7 rfl),
 .e,
 trivial⟩
 exact bZ (decide (e < e_2)) h
 replace h:=h.2 hb_2
 refine da ⟨ba 7 x6 :: [bg 0 (LS aZ R),ba 1 a,ba 2 b,ba 6 x6],[bq x6,bq a,cH false,cH false,bJ,bJ,bJ,bJ,bJ,bJ,bJ,bJ,bJ,bJ,cH false],[]⟩ hn ?_ ?_
 exact ⟨.e,
 .e,
 .b hb_2,
 .e,
 .k,
 .k,
 .k,
 .k,
 .k,
 .k,
 .k,
 .k,
 .k,
 .k,
 .e,
 trivial⟩
 exact bZ false h
 intro x30 h
 replace h:=hJ _ h
 refine bv h (fun h=>?_) (fun h=>?_)
 exact h.elim
 exact bD rfl (cn hn (wr (x6 + 1)) h)
 exact bD rfl (fp [] ht () h (by kernel_rfl) (by rfl) rfl)
theorem Nb : ∀ args w,(callFunc 76 args).run Tryz.prog w=.ok (.enter 76 args) w:=enters_of Tryz.func76 (by kernel_rfl) rfl
theorem JL (R:List Int) (a:Int) (b:Int) (hp:kE R a b)  : fj 76 [.sv (.one (LS aZ R)), .sv (.one (I a)), .sv (.one (I b))] [] [] (fun (_:Unit)=>True) (fun _=>.tup []) (fun _=>[]):=by
 refine ET R a b _ ?_
 obtain ⟨hr,⟨ha,hab,hb⟩,hl⟩:=hp
 intro _
 refine ⟨fun x=>a < x /\ x <= (R.length:Int) + 1,fun x=>(b - x).toNat,⟨by rw [bL (by omega) (by omega)]; omega,by rw [bL (by omega) (by omega)]; omega⟩,?_⟩
 rintro x ⟨h1,h2⟩
 refine ⟨fun hx=>?_,fun _=>trivial⟩
 have hx:=ca hx
 refine ⟨True,0,trivial,fun _ _=>⟨fun b'=>b'=false,⟨fun hc=>?_,fun _=>rfl⟩,?_⟩⟩
 ·have w1:wr (x - 1)=x - 1:=bL (by omega) (by omega)
  rw [w1]
  refine ⟨_,bB (by omega) (by omega),_,bB (by omega) (by omega),?_⟩
  have:=hr (x - 1).toNat x.toNat (by omega) (by omega)
  exact decide_eq_false (by omega)
 ·rintro _ rfl
  refine ⟨fun h=>(by cases h),fun _=>⟨⟨?_,?_⟩,?_⟩⟩
  ·rw [bL (by omega) (by omega)]; omega
  ·rw [bL (by omega) (by omega)]; omega
  ·show (b - wr (x + 1)).toNat < (b - x).toNat
   rw [bL (by omega) (by omega)]
   omega
def C3 (R:List Int) (a:Int) (b:Int) (s:Int) (Q:Int × Int × Int -> Prop):Prop:=
 R.length <= 9223372036854775807 ->
 (∃ e,cq R b=some e /\
 ∃ e_2,cq R a=some e_2 /\
 cv (decide (e < e_2)) (Q (b,a,(wr (s + 1)))) (Q (a,b,s)))
theorem EQ (R:List Int) (a:Int) (b:Int) (s:Int) (Q:Int × Int × Int -> Prop) (h:C3 R a b s Q):fj 103 [.sv (.one (LS aZ R)), .sv (.one (I a)), .sv (.one (I b)), .sv (.one (.ptr 0 0))] [.box [I s] 3 false] [0] Q (fun (r:Int × Int × Int)=>.tup [.one (I r.1), .one (I r.2.1)]) (fun (r:Int × Int × Int)=>[.box [I r.2.2] 3 false]):=by
 have ht:=bA
 refine fj.body Tryz.func103 rfl rfl rfl (by kernel_rfl) (by kernel_rfl) (fun c Bk hn=>?_)
 unfold C3 at h
 refine de 0 (by rfl) (fun hl=>?_)
 replace h:=h hl
 clear hl
 refine bk hn ?_
 refine bi (bi ?_)
 obtain ⟨e,he,h⟩:=h
 obtain ⟨e_2,he_2,h⟩:=h
 refine da ⟨[bg 0 (LS aZ R),ba 1 a,ba 2 b,bg 3 (.pptr 0 0 (Bk 0))],[o1 (LS aZ R),bq b,o1 (.pe (eu (.one (I e))) 1),bq e,o1 (LS aZ R),bq a,o1 (.pe (eu (.one (I e_2))) 1),bq e_2,cH (decide (e < e_2))],[bU (.box [I s] 3 false)]⟩ hn ?_ ?_
 exact ⟨.e,
 .e,
 .v (bX (iX (T:=aZ) rfl he)),
 .v (bX (lD (s:=.one (I e)) rfl)),
 .e,
 .e,
 .v (bX (iX (T:=aZ) rfl he_2)),
 .v (bX (lD (s:=.one (I e_2)) rfl)),
 .v (cL (tN e e_2) J7 rfl),
 trivial⟩
 refine bv h (fun h=>?_) (fun h=>?_)
 refine bk hn ?_
 refine bp (cw ht hn 4 ⟨[bg 3 (.pptr 0 0 (Bk 0)),ba 8 b,ba 9 a],[.box [I (wr (s + 1))] 3 false]⟩ ?_)
 exact cT (fp [3] ht (b,a,(wr (s + 1))) h (by kernel_rfl) (by rfl) rfl)
 refine bn (bp (cw ht hn 4 ⟨[bg 3 (.pptr 0 0 (Bk 0)),ba 8 a,ba 9 b],[.box [I s] 3 false]⟩ ?_))
 exact cT (fp [3] ht (a,b,s) h (by kernel_rfl) (by rfl) rfl)
theorem HH : ∀ args w,(callFunc 103 args).run Tryz.prog w=.ok (.enter 103 args) w:=enters_of Tryz.func103 (by kernel_rfl) rfl
theorem yq (R:List Int) (a:Int) (b:Int) (s:Int) (hp:kT R a b)  : fj 103 [.sv (.one (LS aZ R)), .sv (.one (I a)), .sv (.one (I b)), .sv (.one (.ptr 0 0))] [.box [I s] 3 false] [0] (fun (_:Unit)=>True) (fun _=>.tup [.one (I (a)), .one (I (b))]) (fun _=>[.box [I (s)] 3 false]):=by
 refine (EQ R a b s (fun res_=>res_=(a,b,s)) ?_).imp (fun r hr=>⟨(),trivial,by subst hr; rfl,by subst hr; rfl⟩)
 obtain ⟨hr,⟨ha,hab,hb⟩,hl⟩:=hp
 refine fun _=>⟨_,bB (by omega) (by omega),_,bB (by omega) (by omega),fun h=>?_,fun _=>rfl⟩
 have h:=ca h
 have:=hr.le (a:=a.toNat) (b:=b.toNat) (by omega) (by omega)
 omega
def C4 (R:List Int) (a:Int) (b:Int) (d:Int) (s:Int) (Q:Int × Int -> Prop):Prop:=
 R.length <= 9223372036854775807 ->
 ((kT R a b) /\
 (kT R ((a,b)).2 d) /\
 (kT R ((a,b)).1 ((((a,b)).2,d)).1) /\
 Q (((((a,b)).1,((((a,b)).2,d)).1)).2,(((s)))))
theorem ER (R:List Int) (a:Int) (b:Int) (d:Int) (s:Int) (Q:Int × Int -> Prop) (h:C4 R a b d s Q):fj 99 [.sv (.one (LS aZ R)), .sv (.one (I a)), .sv (.one (I b)), .sv (.one (I d)), .sv (.one (.ptr 0 0))] [.box [I s] 3 false] [0] Q (fun (r:Int × Int)=>.sv (.one (I r.1))) (fun (r:Int × Int)=>[.box [I r.2] 3 false]):=by
 have ht:=bA
 refine fj.body Tryz.func99 rfl rfl rfl (by kernel_rfl) (by kernel_rfl) (fun c Bk hn=>?_)
 unfold C4 at h
 refine de 0 (by rfl) (fun hl=>?_)
 replace h:=h hl
 clear hl
 refine bk hn ?_
 refine bp (bC ht hn 4 ⟨[bg 0 (LS aZ R),ba 3 d,bg 4 (.pptr 0 0 (Bk 0)),bg 12 (LS aZ R),ba 13 a,ba 14 b,bu 15 0 0],[.box [I s] 3 false]⟩ ?_)
 obtain ⟨hp,h⟩:=h
 refine kB (yq R a b s hp) HH [0] hn rfl ?_
 refine bM hn ?_
 refine bp (bC ht hn 4 ⟨[bg 0 (LS aZ R),bg 1 (I (a,b).1),bg 4 (.pptr 0 0 (Bk 0)),bg 20 (LS aZ R),bg 21 (I (a,b).2),ba 22 d,bu 23 0 0],[.box [I s] 3 false]⟩ ?_)
 obtain ⟨hp,h⟩:=h
 refine kB (yq R (a,b).2 d s hp) HH [0] hn rfl ?_
 refine bM hn ?_
 refine bp (bC ht hn 4 ⟨[bg 4 (.pptr 0 0 (Bk 0)),bg 28 (LS aZ R),bg 29 (I (a,b).1),bg 30 (I ((a,b).2,d).1),bu 31 0 0],[.box [I s] 3 false]⟩ ?_)
 obtain ⟨hp,h⟩:=h
 refine kB (yq R (a,b).1 ((a,b).2,d).1 s hp) HH [0] hn rfl ?_
 refine bM hn ?_
 refine bp (cw ht hn 2 ⟨[bg 4 (.pptr 0 0 (Bk 0)),bg 10 (I ((a,b).1,((a,b).2,d).1).2)],[.box [I s] 3 false]⟩ ?_)
 exact cT (fp [4] ht (((a,b).1,((a,b).2,d).1).2,s) h (by kernel_rfl) (by rfl) rfl)
theorem Mm : ∀ args w,(callFunc 99 args).run Tryz.prog w=.ok (.enter 99 args) w:=enters_of Tryz.func99 (by kernel_rfl) rfl
theorem C5 (R:List Int) (a:Int) (b:Int) (d:Int) (s:Int) (hp:kT R a b /\ kT R b d)  : fj 99 [.sv (.one (LS aZ R)), .sv (.one (I a)), .sv (.one (I b)), .sv (.one (I d)), .sv (.one (.ptr 0 0))] [.box [I s] 3 false] [0] (fun (_:Unit)=>True) (fun _=>.sv (.one (I (b)))) (fun _=>[.box [I (s)] 3 false]):=by
 refine (ER R a b d s (fun res_=>res_=(b,s)) ?_).imp (fun r hr=>⟨(),trivial,by subst hr; rfl,by subst hr; rfl⟩)
 obtain ⟨h1,h2⟩:=hp
 exact fun _=>⟨h1,h2,⟨h1.ris,h1.rng,h1.len⟩,rfl⟩
def C6 (R:List Int) (a:Int) (s:Int) (Q:Int × Int -> Prop):Prop:=
 R.length <= 9223372036854775807 ->
 ((kT R (wr (a - 1)) a /\ kT R a (wr (a + 1))) /\
 Q ((a),(s)))
theorem ES (R:List Int) (a:Int) (s:Int) (Q:Int × Int -> Prop) (h:C6 R a s Q):fj 98 [.sv (.one (LS aZ R)), .sv (.one (I a)), .sv (.one (.ptr 0 0))] [.box [I s] 3 false] [0] Q (fun (r:Int × Int)=>.sv (.one (I r.1))) (fun (r:Int × Int)=>[.box [I r.2] 3 false]):=by
 have ht:=bA
 refine fj.body Tryz.func98 rfl rfl rfl (by kernel_rfl) (by kernel_rfl) (fun c Bk hn=>?_)
 unfold C6 at h
 refine de 0 (by rfl) (fun hl=>?_)
 replace h:=h hl
 clear hl
 refine bk hn ?_
 refine bp (bC ht hn 7 ⟨[bg 2 (.pptr 0 0 (Bk 0)),bg 7 (LS aZ R),ba 9 (wr (a - 1)),ba 10 a,ba 12 (wr (a + 1)),bu 13 0 0],[.box [I s] 3 false]⟩ ?_)
 obtain ⟨hp,h⟩:=h
 refine kB (C5 R (wr (a - 1)) a (wr (a + 1)) s hp) Mm [0] hn rfl ?_
 refine cw ht hn 1 ⟨[bg 2 (.pptr 0 0 (Bk 0)),ba 6 a],[.box [I s] 3 false]⟩ ?_
 exact cT (fp [2] ht (a,s) h (by kernel_rfl) (by rfl) rfl)
theorem LD : ∀ args w,(callFunc 98 args).run Tryz.prog w=.ok (.enter 98 args) w:=enters_of Tryz.func98 (by kernel_rfl) rfl
theorem yr (R:List Int) (a:Int) (s:Int) (hp:1 <= a /\ kT R a (a + 1))  : fj 98 [.sv (.one (LS aZ R)), .sv (.one (I a)), .sv (.one (.ptr 0 0))] [.box [I s] 3 false] [0] (fun (_:Unit)=>True) (fun _=>.sv (.one (I (a)))) (fun _=>[.box [I (s)] 3 false]):=by
 refine (ES R a s (fun res_=>res_=(a,s)) ?_).imp (fun r hr=>⟨(),trivial,by subst hr; rfl,by subst hr; rfl⟩)
 obtain ⟨h1,hr,⟨ha,hab,hb⟩,hl⟩:=hp
 intro _
 have w1:wr (a - 1)=a - 1:=bL (by omega) (by omega)
 have w2:wr (a + 1)=a + 1:=bL (by omega) (by omega)
 rw [w1,w2]
 exact ⟨⟨⟨hr,⟨by omega,by omega,by omega⟩,hl⟩,⟨hr,⟨by omega,by omega,by omega⟩,hl⟩⟩,rfl⟩
def ys (R:List Int) (a:Int) (b:Int) (Q:(Int × Int) -> Prop):Prop:=
 R.length <= 9223372036854775807 ->
 (∃ J:Int -> Int -> Prop,(cv (decide ((wr (b - a)) >= 8)) (∃ J_2:Int -> Int -> Int -> Int -> Prop,(cv (decide ((wr (b - a)) >= 50)) ((1 <= (wr (a + (wr ((wr (Int.tdiv (wr (b - a)) 4)) * 1)))) /\ kT R (wr (a + (wr ((wr (Int.tdiv (wr (b - a)) 4)) * 1)))) ((wr (a + (wr ((wr (Int.tdiv (wr (b - a)) 4)) * 1)))) + 1)) /\
 (1 <= (wr (a + (wr ((wr (Int.tdiv (wr (b - a)) 4)) * 2)))) /\ kT R (wr (a + (wr ((wr (Int.tdiv (wr (b - a)) 4)) * 2)))) ((wr (a + (wr ((wr (Int.tdiv (wr (b - a)) 4)) * 2)))) + 1)) /\
 (1 <= (wr (a + (wr ((wr (Int.tdiv (wr (b - a)) 4)) * 3)))) /\ kT R (wr (a + (wr ((wr (Int.tdiv (wr (b - a)) 4)) * 3)))) ((wr (a + (wr ((wr (Int.tdiv (wr (b - a)) 4)) * 3)))) + 1)) /\
 J_2 ((wr (a + (wr ((wr (Int.tdiv (wr (b - a)) 4)) * 1))))) ((wr (a + (wr ((wr (Int.tdiv (wr (b - a)) 4)) * 2))))) ((wr (a + (wr ((wr (Int.tdiv (wr (b - a)) 4)) * 3))))) (((0)))) (J_2 (wr (a + (wr ((wr (Int.tdiv (wr (b - a)) 4)) * 1)))) (wr (a + (wr ((wr (Int.tdiv (wr (b - a)) 4)) * 2)))) (wr (a + (wr ((wr (Int.tdiv (wr (b - a)) 4)) * 3)))) 0)) /\
 (∀ x10 x11_2 x12 y0_2,J_2 x10 x11_2 x12 y0_2 -> (kT R x10 x11_2 /\ kT R x11_2 x12) /\
 J (x11_2) (y0_2))) (J (wr (a + (wr ((wr (Int.tdiv (wr (b - a)) 4)) * 2)))) 0)) /\
 (∀ x11 y0,J x11 y0 -> cv (y0 == 0) (Q (x11,1)) (cv (y0 == 12) (Q (x11,2)) (Q (x11,0)))))
abbrev qt0 (b:Int) (a:Int):=(wr (Int.tdiv (wr (b - a)) 4))
abbrev qt1 (a:Int) (b:Int):=(wr (a + (wr ((qt0 b a) * 2))))
abbrev qt2 (a:Int) (b:Int):=(wr (a + (wr ((qt0 b a) * 3))))
abbrev qt3 (a:Int) (b:Int):=(wr (a + (wr ((qt0 b a) * 1))))
theorem EV (R:List Int) (a:Int) (b:Int) (Q:(Int × Int) -> Prop) (h:ys R a b Q):Ct 79 [.sv (.one (LS aZ R)), .sv (.one (I a)), .sv (.one (I b))] [] Q (fun (r:(Int × Int))=>.tup [.one (I r.1), .one (I r.2)]):=by
 have ht:=bA
 refine Ct.body Tryz.func79 rfl rfl rfl rfl (fun c hn=>?_)
 unfold ys at h
 refine de 0 (by rfl) (fun hl=>?_)
 replace h:=h hl
 clear hl
 refine bk hn ?_
 refine bk hn ?_
 refine bk hn ?_
 refine bk hn ?_
 refine bk hn ?_
 refine bk hn ?_
 obtain ⟨J,h,hJ⟩:=h
 refine bS (σ:=Int × Int) (fun zz=>J zz.1 zz.2) (fun zz=>⟨[bu 9 0 0,ba 11 zz.1],[.box [I zz.2] 3 false]⟩) ?_ ?_
 refine bk hn ?_
 refine bv h (fun h=>?_) (fun h=>?_)
 obtain ⟨J_2,h,hJ_2⟩:=h
 refine bS (σ:=Int × Int × Int × Int) (fun zz=>J_2 zz.1 zz.2.1 zz.2.2.1 zz.2.2.2) (fun zz=>⟨[bg 0 (LS aZ R),bu 9 0 0,ba 10 zz.1,ba 11 zz.2.1,ba 12 zz.2.2.1],[.box [I zz.2.2.2] 3 false]⟩) ?_ ?_
 refine bk hn ?_
 refine bv h (fun h=>?_) (fun h=>?_)
 refine bp (bC ht hn 2 ⟨[bg 0 (LS aZ R),bu 9 0 0,ba 11 (qt1 a b),ba 12 (qt2 a b),bg 35 (LS aZ R),ba 36 (qt3 a b)],[.box [I 0] 3 false]⟩ ?_)
 obtain ⟨hp,h⟩:=h
 refine kB (yr R (qt3 a b) 0 hp) LD [0] hn rfl ?_
 refine bM hn ?_
 refine bp (bC ht hn 2 ⟨ba 12 (qt2 a b) :: bg 38 (LS aZ R) :: ba 39 (qt1 a b) :: [bg 0 (LS aZ R),bu 9 0 0,ba 10 (qt3 a b)],[.box [I (0)] 3 false]⟩ ?_)
 obtain ⟨hp,h⟩:=h
 refine kB (yr R (qt1 a b) (0) hp) LD [0] hn rfl ?_
 refine bM hn ?_
 refine bI (bC ht hn 2 ⟨ba 11 (qt1 a b) :: bg 41 (LS aZ R) :: ba 42 (qt2 a b) :: [bg 0 (LS aZ R),bu 9 0 0,ba 10 (qt3 a b)],[.box [I (0)] 3 false]⟩ ?_)
 obtain ⟨hp,h⟩:=h
 refine kB (yr R (qt2 a b) (0) hp) LD [0] hn rfl ?_
 refine bM hn ?_
 exact bZ ((qt3 a b),(qt1 a b),(qt2 a b),(0)) h
 exact bn (bZ ((qt3 a b),(qt1 a b),(qt2 a b),0) h)
 rintro ⟨x10,x11_2,x12,y0_2⟩ h
 replace h:=hJ_2 _ _ _ _ h
 refine bI (bC ht hn 4 ⟨[bu 9 0 0,bg 44 (LS aZ R),ba 45 x10,ba 46 x11_2,ba 47 x12],[.box [I y0_2] 3 false]⟩ ?_)
 obtain ⟨hp,h⟩:=h
 refine kB (C5 R x10 x11_2 x12 y0_2 hp) Mm [0] hn rfl ?_
 refine bM hn ?_
 exact bZ (x11_2,y0_2) h
 exact bn (bZ ((qt1 a b),0) h)
 rintro ⟨x11,y0⟩ h
 replace h:=hJ _ _ h
 refine bk hn ?_
 refine bj (bk hn ?_)
 refine bv h (fun h=>?_) (fun h=>?_)
 exact cD hn (x11,1) h
 refine bk hn ?_
 refine bv h (fun h=>?_) (fun h=>?_)
 exact cD hn (x11,2) h
 exact cD hn (x11,0) h
theorem Na : ∀ args w,(callFunc 79 args).run Tryz.prog w=.ok (.enter 79 args) w:=enters_of Tryz.func79 (by kernel_rfl) rfl
theorem JM (R:List Int) (a:Int) (b:Int) (hp:kE R a b /\ 8 <= b - a)  : Ct 79 [.sv (.one (LS aZ R)), .sv (.one (I a)), .sv (.one (I b))] [] (fun (_:Unit)=>True) (fun _=>.tup [.one (I ((a + (b - a) / 4 * 2,1)).1), .one (I ((a + (b - a) / 4 * 2,1)).2)]):=by
 refine (EV R a b (fun res_=>res_=((a + (b - a) / 4 * 2,1))) ?_).fun
 obtain ⟨⟨hr,⟨ha,hab,hb⟩,hl⟩,h8⟩:=hp
 unfold ys
 intro _
 have w1:wr (b - a)=b - a:=bL (by omega) (by omega)
 have w2:wr (Int.tdiv (b - a) 4)=(b - a) / 4:=by rw [nN (by omega),bL (by omega) (by omega)]
 rw [w1,w2]
 have wm:∀ j:Int,1 <= j /\ j <= 3 -> wr (a + wr ((b - a) / 4 * j))=a + (b - a) / 4 * j:=fun j hj=>by
  have h3:(b - a) / 4 * j <= (b - a) / 4 * 3:=rt hj.2 (by omega)
  have h0:0 <= (b - a) / 4 * j:=mi (by omega) (by omega)
  rw [bL (n:=(b - a) / 4 * j) (by omega) (by omega),bL (by omega) (by omega)]
 rw [wm 1 (by omega),wm 2 (by omega),wm 3 (by omega)]
 refine ⟨fun x y=>x=a + (b - a) / 4 * 2 /\ y=0,⟨fun _=>?_,fun h=>absurd (cx h) (by omega)⟩,?_⟩
 ·refine ⟨fun x y z s=>x=a + (b - a) / 4 * 1 /\ y=a + (b - a) / 4 * 2 /\ z=a + (b - a) / 4 * 3 /\ s=0,⟨fun h50=>?_,fun _=>⟨rfl,rfl,rfl,rfl⟩⟩,?_⟩
  ·have h50:=ca h50
   exact ⟨⟨by omega,hr,⟨by omega,by omega,by omega⟩,hl⟩,⟨by omega,hr,⟨by omega,by omega,by omega⟩,hl⟩,⟨by omega,hr,⟨by omega,by omega,by omega⟩,hl⟩,rfl,rfl,rfl,rfl⟩
  ·rintro _ _ _ _ ⟨rfl,rfl,rfl,rfl⟩
   exact ⟨⟨⟨hr,⟨by omega,by omega,by omega⟩,hl⟩,⟨hr,⟨by omega,by omega,by omega⟩,hl⟩⟩,rfl,rfl⟩
 ·rintro _ _ ⟨rfl,rfl⟩
  exact ⟨fun _=>rfl,fun h=>absurd h (by decide)⟩
def yp (R:List Int) (a:Int) (b:Int) (Q:Bool -> Prop):Prop:=
 R.length <= 9223372036854775807 ->
 (∃ (Inv:Prop) (mu:Nat),Inv /\
 ∀ (_:Unit),Inv -> (cv (decide (0 < 5)) (∃ (Inv_2:Int -> Prop) (mu_2:Int -> Nat),Inv_2 (wr (a + 1)) /\
 ∀ x7,Inv_2 x7 -> (∃ J:Bool -> Prop,(cv (decide (x7 < b)) (∃ e,cq R x7=some e /\
 ∃ e_2,cq R (wr (x7 - 1))=some e_2 /\
 J (!(decide (e < e_2)))) (J false)) /\
 (∀ x32,J x32 -> cv x32 ((Inv_2 (wr (x7 + 1)) /\ mu_2 (wr (x7 + 1)) < mu_2 x7)) (cv (x7 == b) (Q true) (cv (decide ((wr (b - a)) < 50)) (Q false) (False)))))) (Q false)))
abbrev qu0 (R:List Int) (a:Int) (b:Int):=([bg 0 (LS aZ R),bg 1 (I a),bg 2 (I b),bg 8 (I 0)]:List (Nat × SC))
theorem EO (R:List Int) (a:Int) (b:Int) (Q:Bool -> Prop) (h:yp R a b Q):Ct 81 [.sv (.one (LS aZ R)), .sv (.one (I a)), .sv (.one (I b))] [] Q (fun (r:Bool)=>.sv (.one (B r))):=by
 have ht:=bA
 refine Ct.body Tryz.func81 rfl rfl rfl rfl (fun c hn=>?_)
 unfold yp at h
 refine de 0 (by rfl) (fun hl=>?_)
 replace h:=h hl
 clear hl
 refine bk hn ?_
 refine bk hn ?_
 refine bi (bk hn ?_)
 refine bj ?_
 obtain ⟨Inv,mu,h0_2,hI_2⟩:=h
 refine kW (σ:=Unit) (fun _=>Inv) (fun _=>mu) (fun _=>⟨ba 7 (wr (a + 1)) :: (qu0 R a b),[]⟩) () h0_2 (sub_ok (by kernel_rfl)) ?_
 intro _ h
 replace h:=hI_2 () h
 refine bi (bk hn ?_)
 refine bv h (fun h=>?_) (fun h=>?_)
 refine bn (bi (bj (bi (bj (fC h (fun zz=>⟨[bg 0 (LS aZ R),ba 1 a,ba 2 b,ba 7 zz,ba 8 0],[]⟩) fun Inv_2 mu_2 x7 h=>?_)))))
 refine bi ?_
 obtain ⟨J,h,hJ⟩:=h
 refine bS (σ:=Bool) (fun zz=>J zz) (fun zz=>⟨[bg 0 (LS aZ R),ba 1 a,ba 2 b,ba 7 x7,ba 8 0,bG 32 zz],[]⟩) ?_ ?_
 refine cz (decide (x7 < b)) (fun hb_2=>?_) (fun hb_2=>?_)
 replace h:=h.1 hb_2
 obtain ⟨e,he,h⟩:=h
 obtain ⟨e_2,he_2,h⟩:=h
 refine da ⟨ba 7 x7 :: (qu0 R a b),[bq x7,bq b,cH true,cH true,o1 (LS aZ R),bq x7,o1 (.pe (eu (.one (I e))) 1),bq e,o1 (LS aZ R),bq x7,bq (wr (x7 - 1)),o1 (.pe (eu (.one (I e_2))) 1),bq e_2,cH (decide (e < e_2)),cH (!(decide (e < e_2))),cH (!(decide (e < e_2)))],[]⟩ hn ?_ ?_
 exact ⟨.e,
 .e,
 .b hb_2,
 .e,
 .e,
 .e,
 .v (bX (iX (T:=aZ) rfl he)),
 .v (bX (lD (s:=.one (I e)) rfl)),
 .e,
 .e,
 .e,
 .v (bX (iX (T:=aZ) rfl he_2)),
 .v (bX (lD (s:=.one (I e_2)) rfl)),
 .v (cL (tN e e_2) J7 rfl),
 .e,
 .e,
 trivial⟩
 exact bZ (!(decide (e < e_2))) h
 replace h:=h.2 hb_2
 refine da ⟨ba 7 x7 :: (qu0 R a b),[bq x7,bq b,cH false,cH false,bJ,bJ,bJ,bJ,bJ,bJ,bJ,bJ,bJ,bJ,bJ,cH false],[]⟩ hn ?_ ?_
 exact ⟨.e,
 .e,
 .b hb_2,
 .e,
 .k,
 .k,
 .k,
 .k,
 .k,
 .k,
 .k,
 .k,
 .k,
 .k,
 .k,
 .e,
 trivial⟩
 exact bZ false h
 intro x32 h
 replace h:=hJ _ h
 refine bv h (fun h=>?_) (fun h=>?_)
 exact bn (bj (cn hn (wr (x7 + 1)) h))
 refine bD rfl (bi (bk hn ?_))
 refine bv h (fun h=>?_) (fun h=>?_)
 exact cD hn true h
 refine bn (bi (bp (cw ht hn 4 ⟨ba 7 x7 :: bG 41 (decide ((wr (b - a)) < 50)) :: (qu0 R a b),[]⟩ ?_)))
 refine bv h (fun h=>?_) (fun h=>?_)
 exact cD hn false h
 exact h.elim
 exact bD rfl (cD hn false h)
theorem M9 : ∀ args w,(callFunc 81 args).run Tryz.prog w=.ok (.enter 81 args) w:=enters_of Tryz.func81 (by kernel_rfl) rfl
theorem JJ (R:List Int) (a:Int) (b:Int) (hp:kE R a b /\ a < b)  : Ct 81 [.sv (.one (LS aZ R)), .sv (.one (I a)), .sv (.one (I b))] [] (fun (_:Unit)=>True) (fun _=>.sv (.one (B (true)))):=by
 refine (EO R a b (fun res_=>res_=(true)) ?_).fun
 obtain ⟨⟨hr,⟨ha,hab,hb⟩,hl⟩,hlt⟩:=hp
 unfold yp
 intro _
 refine ⟨True,0,trivial,fun _ _=>⟨fun _=>?_,fun h=>absurd h (by decide)⟩⟩
 refine ⟨fun x=>a < x /\ x <= b,fun x=>(b - x).toNat,⟨by rw [bL (by omega) (by omega)]; omega,by rw [bL (by omega) (by omega)]; omega⟩,?_⟩
 rintro x ⟨h1,h2⟩
 refine ⟨fun b'=>b'=decide (x < b),⟨fun hc=>?_,fun hc=>hc.symm⟩,?_⟩
 ·have hx:=ca hc
  have w1:wr (x - 1)=x - 1:=bL (by omega) (by omega)
  rw [w1]
  refine ⟨_,bB (by omega) (by omega),_,bB (by omega) (by omega),?_⟩
  have:=hr (x - 1).toNat x.toNat (by omega) (by omega)
  rw [hc,decide_eq_false (by omega)]
  rfl
 ·rintro _ rfl
  refine ⟨fun h=>?_,fun h=>⟨fun _=>rfl,fun h3=>?_⟩⟩
  ·have h:=ca h
   refine ⟨⟨?_,?_⟩,?_⟩
   ·rw [bL (by omega) (by omega)]; omega
   ·rw [bL (by omega) (by omega)]; omega
   ·show (b - wr (x + 1)).toNat < (b - x).toNat
    rw [bL (by omega) (by omega)]
    omega
  ·have h:=cx h
   have h3:¬ x=b:=by simpa using h3
   omega
def C2 (R:List Int) (a:Int) (b:Int) (limit:Int) (Q:Unit -> Prop):Prop:=
 R.length <= 9223372036854775807 ->
 (∃ (Inv:Prop) (mu:Nat),Inv /\
 ∀ (_:Unit),Inv -> (cv (decide ((wr (b - a)) <= 12)) ((kE R a b) /\
 Q ()) (cv (limit == 0) (False) ((kE R a b /\ 8 <= b - a) /\
 cv (((a + (b - a) / 4 * 2,(1:Int))).2 == 2) (False) (∃ J:Prop,(cv (((a + (b - a) / 4 * 2,(1:Int))).2 == 1) ((kE R a b /\ a < b) /\
 cv (true) (Q ()) (J)) (J)) /\
 (J -> ∃ J_2:Bool -> Prop,(cv (decide (a > 0)) (∃ e,cq R (wr (a - 1))=some e /\
 ∃ e_2,cq R ((a + (b - a) / 4 * 2,(1:Int))).1=some e_2 /\
 J_2 (!(decide (e < e_2)))) (J_2 false)) /\
 (∀ x87,J_2 x87 -> cv x87 (False) (False))))))))
abbrev qv0 (R:List Int) (a:Int) (b:Int) (limit:Int):=([bg 0 (LS aZ R),bg 1 (I a),bg 2 (I b),bg 3 (I limit),bg 8 (B true),bg 9 (B true),bg 10 (I (wr (b - a)))]:List (Nat × SC))
abbrev qv1 (a:Int) (b:Int):=(I (a + (b - a) / 4 * 2,(1:Int)).1)
theorem EP (R:List Int) (a:Int) (b:Int) (limit:Int) (Q:Unit -> Prop) (h:C2 R a b limit Q):fj 72 [.sv (.one (LS aZ R)), .sv (.one (I a)), .sv (.one (I b)), .sv (.one (I limit))] [] [] Q (fun (r:Unit)=>.tup []) (fun (r:Unit)=>[]):=by
 have ht:=bA
 refine fj.body Tryz.func72 rfl rfl rfl (by kernel_rfl) (by kernel_rfl) (fun c Bk hn=>?_)
 unfold C2 at h
 refine de 0 (by rfl) (fun hl=>?_)
 replace h:=h hl
 clear hl
 refine bk hn ?_
 refine bk hn ?_
 refine bj ?_
 obtain ⟨Inv,mu,h0,hI⟩:=h
 refine kW (σ:=Unit) (fun _=>Inv) (fun _=>mu) (fun _=>⟨[bg 0 (LS aZ R),ba 1 a,ba 2 b,ba 3 limit,bG 8 true,bG 9 true],[]⟩) () h0 (sub_ok (by kernel_rfl)) ?_
 intro _ h
 replace h:=hI () h
 refine bj (bk hn ?_)
 refine bi (bk hn ?_)
 refine bv h (fun h=>?_) (fun h=>?_)
 refine bp (bC ht hn 3 ⟨[bg 24 (LS aZ R),ba 25 a,ba 26 b],[]⟩ ?_)
 obtain ⟨hp,h⟩:=h
 refine kB (JL R a b hp) Nb [] hn rfl ?_
 exact bH (cT (fp [] ht () h (by kernel_rfl) (by rfl) rfl))
 refine bn (bi (bp (cw ht hn 2 ⟨bG 29 (limit == 0) :: (qv0 R a b limit),[]⟩ ?_)))
 refine bv h (fun h=>?_) (fun h=>?_)
 exact h.elim
 refine bn (bi (bp (cw ht hn 2 ⟨bG 35 false :: (qv0 R a b limit),[]⟩ ?_)))
 refine Bd (b:=false) (fun hb=>?_) (fun hb=>?_)
 cases hb
 refine bn (bp (cN hn 3 ?_))
 obtain ⟨hp,h⟩:=h
 refine fK hn (cL (JM R a b hp) Na rfl) ?_
 refine bM hn ?_
 refine bi (bp (cw ht hn 2 ⟨sl 11 (qv1 a b) :: bg 12 (I (a + (b - a) / 4 * 2,(1:Int)).2) :: bG 50 ((a + (b - a) / 4 * 2,(1:Int)).2 == 2) :: (qv0 R a b limit),[]⟩ ?_))
 refine bv h (fun h=>?_) (fun h=>?_)
 exact h.elim
 refine bn ?_
 obtain ⟨J,h,hJ⟩:=h
 refine bS (σ:=Unit) (fun _=>J) (fun _=>⟨sl 11 (qv1 a b) :: (qv0 R a b limit),[]⟩) ?_ ?_
 refine bk hn ?_
 refine bv h (fun h=>?_) (fun h=>?_)
 refine bp (bC ht hn 3 ⟨sl 11 (qv1 a b) :: bg 69 (LS aZ R) :: ba 70 a :: ba 71 b :: (qv0 R a b limit),[]⟩ ?_)
 obtain ⟨hp,h⟩:=h
 refine i9 hn (BH (JJ R a b hp) M9 rfl) ?_
 refine bH (bv h (fun h=>?_) (fun h=>?_))
 exact cT (fp [] ht () h (by kernel_rfl) (by rfl) rfl)
 exact bn (bZ () h)
 exact bn (bZ () h)
 intro _ h
 replace h:=hJ h
 refine bi ?_
 obtain ⟨J_2,h,hJ_2⟩:=h
 refine bS (σ:=Bool) (fun zz=>J_2 zz) (fun zz=>⟨[bg 0 (LS aZ R),ba 1 a,ba 2 b,ba 3 limit,bG 8 true,bG 9 true,ba 10 (wr (b - a)),bg 11 (qv1 a b),bG 87 zz],[]⟩) ?_ ?_
 refine cz (decide (a > 0)) (fun hb_2=>?_) (fun hb_2=>?_)
 replace h:=h.1 hb_2
 obtain ⟨e,he,h⟩:=h
 obtain ⟨e_2,he_2,h⟩:=h
 refine da ⟨sl 11 (qv1 a b) :: (qv0 R a b limit),[bq a,cH true,cH true,o1 (LS aZ R),bq a,bq (wr (a - 1)),o1 (.pe (eu (.one (I e))) 1),bq e,o1 (LS aZ R),o1 (qv1 a b),o1 (.pe (eu (.one (I e_2))) 1),bq e_2,cH (decide (e < e_2)),cH (!(decide (e < e_2))),cH (!(decide (e < e_2)))],[]⟩ hn ?_ ?_
 exact ⟨.e,
 .b hb_2,
 .e,
 .e,
 .e,
 .e,
 .v (bX (iX (T:=aZ) rfl he)),
 .v (bX (lD (s:=.one (I e)) rfl)),
 .e,
 .e,
 .v (bX (iX (T:=aZ) rfl he_2)),
 .v (bX (lD (s:=.one (I e_2)) rfl)),
 .v (cL (tN e e_2) J7 rfl),
 .e,
 .e,
 trivial⟩
 exact bZ (!(decide (e < e_2))) h
 replace h:=h.2 hb_2
 refine da ⟨sl 11 (qv1 a b) :: (qv0 R a b limit),[bq a,cH false,cH false,bJ,bJ,bJ,bJ,bJ,bJ,bJ,bJ,bJ,bJ,bJ,cH false],[]⟩ hn ?_ ?_
 exact ⟨.e,
 .b hb_2,
 .e,
 .k,
 .k,
 .k,
 .k,
 .k,
 .k,
 .k,
 .k,
 .k,
 .k,
 .k,
 .e,
 trivial⟩
 exact bZ false h
 intro x87 h
 replace h:=hJ_2 _ h
 refine bv h (fun h=>?_) (fun h=>?_)
 exact h.elim
 exact h.elim
theorem Nc : ∀ args w,(callFunc 72 args).run Tryz.prog w=.ok (.enter 72 args) w:=enters_of Tryz.func72 (by kernel_rfl) rfl
theorem JK (R:List Int) (a:Int) (b:Int) (limit:Int) (hp:kE R a b /\ (12 < b - a -> 0 < limit))  : fj 72 [.sv (.one (LS aZ R)), .sv (.one (I a)), .sv (.one (I b)), .sv (.one (I limit))] [] [] (fun (_:Unit)=>True) (fun _=>.tup []) (fun _=>[]):=by
 refine EP R a b limit _ ?_
 obtain ⟨⟨hr,⟨ha,hab,hb⟩,hl⟩,hlim⟩:=hp
 intro _
 have w1:wr (b - a)=b - a:=bL (by omega) (by omega)
 refine ⟨True,0,trivial,fun _ _=>?_⟩
 rw [w1]
 refine ⟨fun _=>⟨⟨hr,⟨ha,hab,hb⟩,hl⟩,trivial⟩,fun h=>⟨fun h2=>?_,fun h2=>?_⟩⟩
 ·have h:=cx h
  have h2:limit=0:=by simpa using h2
  have:=hlim (by omega)
  omega
 have h:=cx h
 refine ⟨⟨⟨hr,⟨ha,hab,hb⟩,hl⟩,by omega⟩,fun h=>absurd h (by simp),fun _=>⟨False,⟨fun _=>⟨⟨⟨hr,⟨ha,hab,hb⟩,hl⟩,by omega⟩,fun _=>trivial,fun h=>(by cases h)⟩,fun h=>absurd h (by simp)⟩,fun h=>h.elim⟩⟩
def C0 (R:List Int) (Q:Unit -> Prop):Prop:=
 R.length <= 9223372036854775807 ->
 ((0 <= (IntKind.wrap .u64 (R.length:Int)) /\ (IntKind.wrap .u64 (R.length:Int)) < 1048576) /\
 ∀ r:Int,(sq (IntKind.wrap .u64 (R.length:Int))) r ->
 ((kE R 0 (R.length:Int) /\ (12 < (R.length:Int) - 0 -> 0 < r)) /\
 Q ()))
theorem EN (R:List Int) (Q:Unit -> Prop) (h:C0 R Q):fj 53 [.sv (.one (LS aZ R))] [] [] Q (fun (r:Unit)=>.tup []) (fun (r:Unit)=>[]):=by
 have ht:=bA
 refine fj.body Tryz.func53 rfl rfl rfl (by kernel_rfl) (by kernel_rfl) (fun c Bk hn=>?_)
 unfold C0 at h
 refine de 0 (by rfl) (fun hl=>?_)
 replace h:=h hl
 clear hl
 refine bk hn ?_
 refine bI (bC ht hn 4 ⟨[bg 5 (LS aZ R),ba 6 (R.length:Int),bg 8 (.v (.int .u64 (IntKind.wrap .u64 (R.length:Int))))],[]⟩ ?_)
 obtain ⟨hp,h⟩:=h
 refine fw (Q:=sq (IntKind.wrap .u64 (R.length:Int))) (x:=fun (r:Int)=>.sv (.one (I r))) (p:=fun _=>none) hn (by rfl) (eH (zm (IntKind.wrap .u64 (R.length:Int)) hp) LF (caps:=[]) [] rfl (by rfl) (by kernel_rfl) (by kernel_rfl) (by rfl) (fun _=>rfl) (by rfl)) (fun r hr_2=>⟨by rfl,_,by rfl,?_⟩)
 replace h:=h r hr_2
 obtain ⟨hp,h⟩:=h
 refine kB (JK R 0 (R.length:Int) r hp) Nc [] hn rfl ?_
 exact bH (fp [] ht () h (by kernel_rfl) (by rfl) rfl)
theorem Mo : ∀ args w,(callFunc 53 args).run Tryz.prog w=.ok (.enter 53 args) w:=enters_of Tryz.func53 (by kernel_rfl) rfl
theorem C1 (R:List Int) (hp:kE R 0 (R.length:Int))  : fj 53 [.sv (.one (LS aZ R))] [] [] (fun (_:Unit)=>True) (fun _=>.tup []) (fun _=>[]):=by
 refine EN R _ ?_
 intro _
 have h:=hp.len
 rw [ry (by omega)]
 refine ⟨⟨by omega,by omega⟩,fun r hr=>⟨⟨hp,?_⟩,trivial⟩⟩
 obtain ⟨h1,h2,h3,h4⟩:=hr
 intro h12
 rcases kn r.toNat with c | c
 ·rw [c] at h3
  have h3:(R.length:Int) < 1:=h3
  omega
 ·omega
def FP {X:Type} [Inhabited X] (R:List X):Prop:=∀ k,k + 1 < R.length -> gx R (k + 1) ≠ gx R k
def C8 (R:List Int) (Q:(List Int) -> Prop):Prop:=
 R.length <= 9223372036854775807 ->
 (cv (decide ((R.length:Int) < 2)) (Q R) (∃ (Inv:Int -> Prop) (mu:Int -> Nat),Inv 1 /\
 ∀ x3,Inv x3 -> (cv (decide (x3 < (R.length:Int))) (∃ e,cq R x3=some e /\
 ∃ e_2,cq R (wr (x3 - 1))=some e_2 /\
 cv (e == e_2) (G0 x3 (R.length:Int) R.length /\
 ∃ (Inv_2:Int -> Prop) (mu_2:Int -> Nat),Inv_2 1 /\
 ∀ x5,Inv_2 x5 -> (cv (decide (x5 < (((R.take ((R.length:Int):Int).toNat).drop (x3:Int).toNat).length:Int))) (∃ e_3,cq ((R.take ((R.length:Int):Int).toNat).drop (x3:Int).toNat) x5=some e_3 /\
 ∃ e_4,cq ((R.take ((R.length:Int):Int).toNat).drop (x3:Int).toNat) (wr (x5 - 1))=some e_4 /\
 cv (e_3 != e_4) (False) ((Inv_2 (wr (x5 + 1)) /\ mu_2 (wr (x5 + 1)) < mu_2 x5))) (False))) ((Inv (wr (x3 + 1)) /\ mu (wr (x3 + 1)) < mu x3))) (Q R))))
abbrev qx0 (R:List Int) (y0:Int):=(LS aZ ((R.take ((R.length:Int):Int).toNat).drop (y0:Int).toNat))
abbrev qx1 (R:List Int) (y0) (y1):=([bg 0 (LS aZ R),bg 3 (I y0),bg 4 (qx0 R y0),bg 5 (I y1),bg 35 (qx0 R y0),bg 36 (I y1)]:List (Nat × SC))
abbrev qx2 (R:List Int) (y0:Int) (y1):=([bg 0 (LS aZ R),bg 3 (I y0),bg 16 (LS aZ R),bg 17 (I y0),bg 18 (.pe (eu (.one (I y1))) 1),bg 19 (I y1),bg 20 (LS aZ R),bg 21 (I y0),bg 22 (I (wr (y0 - 1)))]:List (Nat × SC))
theorem EU (R:List Int) (Q:(List Int) -> Prop) (h:C8 R Q):Ct 55 [.sv (.one (LS aZ R))] [] Q (fun (r:List Int)=>.sv (.one (LS aZ r))):=by
 have ht:=bA
 refine Ct.body Tryz.func55 rfl rfl rfl rfl (fun c hn=>?_)
 unfold C8 at h
 refine de 0 (by rfl) (fun hl=>?_)
 replace h:=h hl
 clear hl
 refine bk hn ?_
 refine bi (bk hn ?_)
 refine bv h (fun h=>?_) (fun h=>?_)
 exact cD hn R h
 refine bn (bi (bk hn ?_))
 refine bj (fC h (fun zz=>⟨[bg 0 (LS aZ R),ba 3 zz],[]⟩) fun Inv mu x3 h=>?_)
 refine bi (bp (cw ht hn 4 ⟨[bg 0 (LS aZ R),ba 3 x3,bG 13 (decide (x3 < (R.length:Int)))],[]⟩ ?_))
 refine bv h (fun h=>?_) (fun h=>?_)
 refine bn (bi (bj (bi (fU (by kernel_rfl) (by kernel_rfl) ?_))))
 refine eV ht hn 2 ⟨[bg 0 (LS aZ R),ba 3 x3,bg 16 (LS aZ R),ba 17 x3],[]⟩ (by kernel_rfl) ?_
 obtain ⟨e,he,h⟩:=h
 refine dr hn (by rfl) (gQ (T:=aZ) (l:=R) (i:=x3) ht rfl he) (by rfl) ?_
 refine dr hn (by rfl) (fQ (s:=.one (I e)) ht rfl) (by rfl) ?_
 refine eV ht hn 3 ⟨(qx2 R x3 e),[]⟩ (by kernel_rfl) ?_
 obtain ⟨e_2,he_2,h⟩:=h
 refine dr hn (by rfl) (gQ (T:=aZ) (l:=R) (i:=(wr (x3 - 1))) ht rfl he_2) (by rfl) ?_
 refine dr hn (by rfl) (fQ (s:=.one (I e_2)) ht rfl) (by rfl) ?_
 refine eV ht hn 1 ⟨sl 23 (.pe (eu (.one (I e_2))) 1) :: ba 24 e_2 :: bG 25 (e == e_2) :: (qx2 R x3 e),[]⟩ (by kernel_rfl) ?_
 refine lu ⟨by kernel_rfl,?_⟩
 refine bv h (fun h=>?_) (fun h=>?_)
 refine bp (bC ht hn 2 ⟨[bg 0 (LS aZ R),ba 3 x3,bg 26 (LS aZ R),ba 27 x3],[]⟩ ?_)
 obtain ⟨hp,h⟩:=h
 refine fe hn (vY (T:=aZ) (l:=R) (lv:=x3) (hv:=(R.length:Int)) ht rfl (by rfl) (by rfl) (by rfl) (by rfl) (by rfl) (by rfl) (by rfl) hp) ?_
 refine bM hn ?_
 refine bi (bk hn ?_)
 refine bj (fC h (fun zz=>⟨[bg 0 (LS aZ R),ba 3 x3,bg 4 (qx0 R x3),ba 5 zz],[]⟩) fun Inv_2 mu_2 x5 h=>?_)
 refine bi (bp (cw ht hn 4 ⟨[bg 0 (LS aZ R),ba 3 x3,bg 4 (qx0 R x3),ba 5 x5,bG 32 (decide (x5 < (((R.take ((R.length:Int):Int).toNat).drop (x3:Int).toNat).length:Int)))],[]⟩ ?_))
 refine bv h (fun h=>?_) (fun h=>?_)
 refine bn (bi (bj (bi (fU (by kernel_rfl) (by kernel_rfl) ?_))))
 refine eV ht hn 2 ⟨(qx1 R x3 x5),[]⟩ (by kernel_rfl) ?_
 obtain ⟨e_3,he_3,h⟩:=h
 refine dr hn (by rfl) (gQ (T:=aZ) (l:=((R.take ((R.length:Int):Int).toNat).drop (x3:Int).toNat)) (i:=x5) ht rfl he_3) (by rfl) ?_
 refine dr hn (by rfl) (fQ (s:=.one (I e_3)) ht rfl) (by rfl) ?_
 refine eV ht hn 3 ⟨sl 37 (.pe (eu (.one (I e_3))) 1) :: ba 38 e_3 :: bg 39 (qx0 R x3) :: ba 40 x5 :: ba 41 (wr (x5 - 1)) :: (qx1 R x3 x5),[]⟩ (by kernel_rfl) ?_
 obtain ⟨e_4,he_4,h⟩:=h
 refine dr hn (by rfl) (gQ (T:=aZ) (l:=((R.take ((R.length:Int):Int).toNat).drop (x3:Int).toNat)) (i:=(wr (x5 - 1))) ht rfl he_4) (by rfl) ?_
 refine dr hn (by rfl) (fQ (s:=.one (I e_4)) ht rfl) (by rfl) ?_
 refine eV ht hn 1 ⟨sl 37 (.pe (eu (.one (I e_3))) 1) :: ba 38 e_3 :: bg 39 (qx0 R x3) :: ba 40 x5 :: ba 41 (wr (x5 - 1)) :: bg 42 (.pe (eu (.one (I e_4))) 1) :: ba 43 e_4 :: bG 44 (e_3 != e_4) :: (qx1 R x3 x5),[]⟩ (by kernel_rfl) ?_
 refine lu ⟨by kernel_rfl,?_⟩
 refine bv h (fun h=>?_) (fun h=>?_)
 exact h.elim
 exact bn (cn hn (wr (x5 + 1)) h)
 exact h.elim
 exact bn (cn hn (wr (x3 + 1)) h)
 exact bD rfl (cD hn R h)
theorem Mn : ∀ args w,(callFunc 55 args).run Tryz.prog w=.ok (.enter 55 args) w:=enters_of Tryz.func55 (by kernel_rfl) rfl
theorem C9 (R:List Int) (hp:FP R)  : Ct 55 [.sv (.one (LS aZ R))] [] (fun (_:Unit)=>True) (fun _=>.sv (.one (LS aZ (R)))):=by
 refine (EU R (fun res_=>res_=(R)) ?_).fun
 intro _
 refine ⟨fun _=>rfl,fun _=>⟨fun x=>1 <= x /\ x <= (R.length:Int),fun x=>R.length - x.toNat,⟨eN _,by have:=cx ‹_›; omega⟩,?_⟩⟩
 rintro x ⟨h1,h2⟩
 refine ⟨fun hx=>?_,fun _=>rfl⟩
 have hx:=ca hx
 have w1:wr (x - 1)=x - 1:=bL (by omega) (by omega)
 rw [w1]
 refine ⟨_,bB (by omega) (by omega),_,bB (by omega) (by omega),fun e=>?_,fun _=>?_⟩
 ·exfalso
  have:=hp (x - 1).toNat (by omega)
  rw [show (x - 1).toNat + 1=x.toNat by omega] at this
  exact this (by simpa using e)
 ·refine ⟨⟨?_,?_⟩,?_⟩
  ·rw [bL (by omega) (by omega)]; omega
  ·rw [bL (by omega) (by omega)]; omega
  ·show R.length - (wr (x + 1)).toNat < R.length - x.toNat
   rw [bL (by omega) (by omega)]
   omega
def CK (R:List aY) (Q:(List aY) -> Prop):Prop:=
 R.length <= 9223372036854775807 ->
 (cv (decide ((R.length:Int) < 2)) (Q R) (∃ (Inv:Int -> Prop) (mu:Int -> Nat),Inv 1 /\
 ∀ x3,Inv x3 -> (cv (decide (x3 < (R.length:Int))) (∃ e,cq R x3=some e /\
 ∃ e_2,cq R (wr (x3 - 1))=some e_2 /\
 cv (decide (e=e_2)) (G0 x3 (R.length:Int) R.length /\
 ∃ (Inv_2:Int -> Prop) (mu_2:Int -> Nat),Inv_2 1 /\
 ∀ x5,Inv_2 x5 -> (cv (decide (x5 < (((R.take ((R.length:Int):Int).toNat).drop (x3:Int).toNat).length:Int))) (∃ e_3,cq ((R.take ((R.length:Int):Int).toNat).drop (x3:Int).toNat) x5=some e_3 /\
 ∃ e_4,cq ((R.take ((R.length:Int):Int).toNat).drop (x3:Int).toNat) (wr (x5 - 1))=some e_4 /\
 cv (!(decide (e_3=e_4))) (False) ((Inv_2 (wr (x5 + 1)) /\ mu_2 (wr (x5 + 1)) < mu_2 x5))) (False))) ((Inv (wr (x3 + 1)) /\ mu (wr (x3 + 1)) < mu x3))) (Q R))))
abbrev qy0 (R:List aY) (y0:Int):=(LS aY.ty ((R.take ((R.length:Int):Int).toNat).drop (y0:Int).toNat))
theorem Er (R:List aY) (Q:(List aY) -> Prop) (h:CK R Q):Ct 56 [.sv (.one (LS aY.ty R))] [] Q (fun (r:List aY)=>.sv (.one (LS aY.ty r))):=by
 have ht:=bA
 refine Ct.body Tryz.func56 rfl rfl rfl rfl (fun c hn=>?_)
 unfold CK at h
 refine de 0 (by rfl) (fun hl=>?_)
 replace h:=h hl
 clear hl
 refine bk hn ?_
 refine bi (bk hn ?_)
 refine bv h (fun h=>?_) (fun h=>?_)
 exact cD hn R h
 refine bn (bi (bk hn ?_))
 refine bj (fC h (fun zz=>⟨[bg 0 (LS aY.ty R),ba 3 zz],[]⟩) fun Inv mu x3 h=>?_)
 refine bi (bk hn ?_)
 refine bv h (fun h=>?_) (fun h=>?_)
 refine bn (bi (bj (bi ?_)))
 obtain ⟨e,he,h⟩:=h
 obtain ⟨e_2,he_2,h⟩:=h
 refine da ⟨[bg 0 (LS aY.ty R),ba 3 x3],[o1 (LS aY.ty R),bq x3,o1 (.pe (eu (.agg (aY.cl e))) 3), .sv (.agg (aY.cl e)),o1 (LS aY.ty R),bq x3,bq (wr (x3 - 1)),o1 (.pe (eu (.agg (aY.cl e_2))) 3), .sv (.agg (aY.cl e_2)),cH (decide (e=e_2))],[]⟩ hn ?_ ?_
 exact ⟨.e,
 .e,
 .v (bX (iX (T:=aY.ty) rfl he)),
 .v (bX (lD (s:=.agg (aY.cl e)) rfl)),
 .e,
 .e,
 .e,
 .v (bX (iX (T:=aY.ty) rfl he_2)),
 .v (bX (lD (s:=.agg (aY.cl e_2)) rfl)),
 .vl ⟨[(19, .sv (.agg (aY.cl e))),(24, .sv (.agg (aY.cl e_2)))],[]⟩ (bX (Co aY.keyLaw (u:=e) (v:=e_2) rfl (by rfl) (by rfl) rfl rfl (by kernel_rfl) (.inl ⟨rfl,rfl⟩))),
 trivial⟩
 refine bv h (fun h=>?_) (fun h=>?_)
 refine bp (bC ht hn 2 ⟨[bg 0 (LS aY.ty R),ba 3 x3,bg 26 (LS aY.ty R),ba 27 x3],[]⟩ ?_)
 obtain ⟨hp,h⟩:=h
 refine fe hn (vY (T:=aY.ty) (l:=R) (lv:=x3) (hv:=(R.length:Int)) ht rfl (by rfl) (by rfl) (by rfl) (by rfl) (by rfl) (by rfl) (by rfl) hp) ?_
 refine bM hn ?_
 refine bi (bk hn ?_)
 refine bj (fC h (fun zz=>⟨[bg 0 (LS aY.ty R),ba 3 x3,bg 4 (qy0 R x3),ba 5 zz],[]⟩) fun Inv_2 mu_2 x5 h=>?_)
 refine bi (bp (cw ht hn 4 ⟨bG 32 (decide (x5 < (((R.take ((R.length:Int):Int).toNat).drop (x3:Int).toNat).length:Int))) :: [bg 0 (LS aY.ty R),ba 3 x3,bg 4 (qy0 R x3),ba 5 x5],[]⟩ ?_))
 refine bv h (fun h=>?_) (fun h=>?_)
 refine bn (bi (bj (bi ?_)))
 obtain ⟨e_3,he_3,h⟩:=h
 obtain ⟨e_4,he_4,h⟩:=h
 refine DH ⟨[bg 0 (LS aY.ty R),ba 3 x3,bg 4 (qy0 R x3),ba 5 x5],[o1 (qy0 R x3),bq x5,o1 (.pe (eu (.agg (aY.cl e_3))) 3), .sv (.agg (aY.cl e_3)),o1 (qy0 R x3),bq x5,bq (wr (x5 - 1)),o1 (.pe (eu (.agg (aY.cl e_4))) 3), .sv (.agg (aY.cl e_4)),cH (!(decide (e_3=e_4)))],[]⟩ ⟨bG 44 (!(decide (e_3=e_4))) :: [bg 0 (LS aY.ty R),ba 3 x3,bg 4 (qy0 R x3),ba 5 x5],[]⟩ hn ?_ ?_
 exact ⟨.e,
 .e,
 .v (bX (iX (T:=aY.ty) rfl he_3)),
 .v (bX (lD (s:=.agg (aY.cl e_3)) rfl)),
 .e,
 .e,
 .e,
 .v (bX (iX (T:=aY.ty) rfl he_4)),
 .v (bX (lD (s:=.agg (aY.cl e_4)) rfl)),
 .vl ⟨[(38, .sv (.agg (aY.cl e_3))),(43, .sv (.agg (aY.cl e_4)))],[]⟩ (bX (Co aY.keyLaw (u:=e_3) (v:=e_4) rfl (by rfl) (by rfl) rfl rfl (by kernel_rfl) (.inr ⟨rfl,rfl⟩))),
 trivial⟩
 refine bv h (fun h=>?_) (fun h=>?_)
 exact h.elim
 exact bn (cn hn (wr (x5 + 1)) h)
 exact h.elim
 exact bn (cn hn (wr (x3 + 1)) h)
 exact bD rfl (cD hn R h)
theorem Nt : ∀ args w,(callFunc 56 args).run Tryz.prog w=.ok (.enter 56 args) w:=enters_of Tryz.func56 (by kernel_rfl) rfl
theorem Jk (R:List aY) (hp:FP R)  : Ct 56 [.sv (.one (LS aY.ty R))] [] (fun (_:Unit)=>True) (fun _=>.sv (.one (LS aY.ty (R)))):=by
 refine (Er R (fun res_=>res_=(R)) ?_).fun
 intro _
 refine ⟨fun _=>rfl,fun _=>⟨fun x=>1 <= x /\ x <= (R.length:Int),fun x=>R.length - x.toNat,⟨eN _,by have:=cx ‹_›; omega⟩,?_⟩⟩
 rintro x ⟨h1,h2⟩
 refine ⟨fun hx=>?_,fun _=>rfl⟩
 have hx:=ca hx
 have w1:wr (x - 1)=x - 1:=bL (by omega) (by omega)
 rw [w1]
 refine ⟨_,bB (by omega) (by omega),_,bB (by omega) (by omega),fun e=>?_,fun _=>?_⟩
 ·exfalso
  have:=hp (x - 1).toNat (by omega)
  rw [show (x - 1).toNat + 1=x.toNat by omega] at this
  exact this (by simpa using e)
 ·refine ⟨⟨?_,?_⟩,?_⟩
  ·rw [bL (by omega) (by omega)]; omega
  ·rw [bL (by omega) (by omega)]; omega
  ·show R.length - (wr (x + 1)).toNat < R.length - x.toNat
   rw [bL (by omega) (by omega)]
   omega
section
variable {X:Type} [Inhabited X] {φ:X × X -> Int}
def xj (φ:X × X -> Int) (R:List X) (f lo hi:Nat):Prop:=∀ k c,lo <= k -> (c=2 * k + 1 \/ c=2 * k + 2) -> c < hi -> le φ (gx R (f + c)) (gx R (f + k))
structure zC (dom:X × X -> Prop) (φ:X × X -> Int) (R:List X) (lo hi first:Int):Prop where
 dom:∀ z,dom z
 ord:Ord φ
 lo0:0 <= lo /\ lo <= hi
 f0:0 <= first
 hl:first + hi <= R.length
 len:R.length <= 1000000
 heap:xj φ R first.toNat (lo.toNat + 1) hi.toNat
def Ig (φ:X × X -> Int) (R:List X) (lo hi first:Int) (R':List X):Prop:=dW (first.toNat + lo.toNat) (first.toNat + hi.toNat) R R' /\ xj φ R' first.toNat lo.toNat hi.toNat
theorem xj.top (ho:Ord φ) {R:List X} {f hi:Nat} (h:xj φ R f 0 hi):∀ k,k < hi -> le φ (gx R (f + k)) (gx R (f + 0)):=fun k=>by
 induction k using Nat.strongRecOn with
 | ind k ih =>
  intro hk
  rcases kn k with rfl | hp
  ·exact ho.refl _
  ·exact ho.le_tr (h ((k - 1) / 2) k (cy _) (by omega) hk) (ih ((k - 1) / 2) (by omega) (by omega))
end
def tn (R:List aY) (lo:Int) (hi:Int) (first:Int) (dom:((aY × aY) -> Prop)) (φ:((aY × aY) -> Int)) (Q:(List aY) -> Prop):Prop:=
 ∃ (Inv:Int -> (List aY) -> Prop) (mu:Int -> (List aY) -> Nat),Inv lo R /\
 ∀ x10 l0,Inv x10 l0 -> (cv (decide ((wr ((wr (2 * x10)) + 1)) >= hi)) (Q l0) (∃ J:Int -> Prop,(∃ J_2:Bool -> Prop,(cv (decide ((wr ((wr ((wr (2 * x10)) + 1)) + 1)) < hi)) (∃ e,cq l0 (wr (first + (wr ((wr (2 * x10)) + 1))))=some e /\
 ∃ e_2,cq l0 (wr ((wr (first + (wr ((wr (2 * x10)) + 1)))) + 1))=some e_2 /\
 (dom (e,e_2)) /\
 J_2 (decide ((φ (e,e_2)) < 0))) (J_2 false)) /\
 (∀ x40,J_2 x40 -> cv x40 (J (wr ((wr ((wr (2 * x10)) + 1)) + 1))) (J (wr ((wr (2 * x10)) + 1))))) /\
 (∀ x11,J x11 -> ∃ e_3,cq l0 (wr (first + x10))=some e_3 /\
 ∃ e_4,cq l0 (wr (first + x11))=some e_4 /\
 (dom (e_3,e_4)) /\
 cv (!(decide ((φ (e_3,e_4)) < 0))) (Q l0) (∃ e_5,cq l0 (wr (first + x11))=some e_5 /\
 ∃ e_6,cq l0 (wr (first + x10))=some e_6 /\
 ∃ e_7,cq l0 (wr (first + x10))=some e_7 /\
 ∃ e_8,cq (l0.set ((wr (first + x10))).toNat e_5) (wr (first + x11))=some e_8 /\
 (Inv x11 ((l0.set ((wr (first + x10))).toNat e_5).set ((wr (first + x11))).toNat e_6) /\ mu x11 ((l0.set ((wr (first + x10))).toNat e_5).set ((wr (first + x11))).toNat e_6) < mu x10 l0)))))
abbrev qz0 (y0:Int):=(wr ((wr (2 * y0)) + 1))
abbrev qz1 (hi:Int) (first:Int) (dom:((aY × aY) -> Prop)) (φ:((aY × aY) -> Int)) (y0:Nat -> Value) (y1):=([bg 0 (.pown 0 (y0 0)),bg 2 (I hi),bg 3 (I first),bg 4 (dv dom φ),bg 10 (I y1)]:List (Nat × SC))
theorem Ee (R:List aY) (lo:Int) (hi:Int) (first:Int) (dom:((aY × aY) -> Prop)) (φ:((aY × aY) -> Int)) (Q:(List aY) -> Prop) (h:tn R lo hi first dom φ Q):fj 100 [.sv (.one (.own 0)), .sv (.one (I lo)), .sv (.one (I hi)), .sv (.one (I first)), .sv (.one (dv dom φ))] [bf 29 aY.ty R] [0] Q (fun (r:List aY)=>.tup []) (fun (r:List aY)=>[bf 29 aY.ty r]):=by
  have ht:=bA
  refine eZ Tryz.func100 rfl rfl rfl (by kernel_rfl) (fun c Vk hn=>?_)
  unfold tn at h
  refine bk hn ?_
  refine bj (dV h (fun zz=>⟨[bg 0 (.pown 0 (Vk 0)),ba 2 hi,ba 3 first,bg 4 (dv dom φ),ba 10 zz.1],[bf 29 aY.ty zz.2]⟩) fun Inv mu x10 l0 h=>?_)
  refine bj (bk hn ?_)
  refine bi (bp (cw ht hn 3 ⟨ba 11 (qz0 x10) :: bG 18 (decide ((qz0 x10) >= hi)) :: (qz1 hi first dom φ Vk x10),[bf 29 aY.ty l0]⟩ ?_))
  refine Bd (b:=(decide ((qz0 x10) >= hi))) (fun hb=>?_) (fun hb=>?_)
  · replace h:=h.1 hb
    exact bD rfl (d4 [0] ht l0 h (by kernel_rfl) (by rfl) rfl)
  · replace h:=h.2 hb
    refine bn ?_
    obtain ⟨J,h,hJ⟩:=h
    refine bS (σ:=Int) (fun zz=>J zz) (fun zz=>⟨[bg 0 (.pown 0 (Vk 0)),ba 2 hi,ba 3 first,bg 4 (dv dom φ),ba 10 x10,ba 11 zz],[bf 29 aY.ty l0]⟩) ?_ ?_
    · obtain ⟨J_2,h,hJ_2⟩:=h
      refine bS (σ:=Bool) (fun zz=>J_2 zz) (fun zz=>⟨[bg 0 (.pown 0 (Vk 0)),ba 2 hi,ba 3 first,bg 4 (dv dom φ),ba 10 x10,ba 11 (qz0 x10),bG 40 zz],[bf 29 aY.ty l0]⟩) ?_ ?_
      · refine cz (decide ((wr ((qz0 x10) + 1)) < hi)) (fun hb_2=>?_) (fun hb_2=>?_)
        · replace h:=h.1 hb_2
          obtain ⟨e,he,h⟩:=h
          obtain ⟨e_2,he_2,h⟩:=h
          obtain ⟨hp_2,h⟩:=h
          refine da ⟨ba 11 (qz0 x10) :: (qz1 hi first dom φ Vk x10),[bq (qz0 x10),bq (wr ((qz0 x10) + 1)),bq hi,cH true,cH true,o1 (dv dom φ),cu 0,bq first,bq (qz0 x10),bq (wr (first + (qz0 x10))),o1 (.oe 0 (wr (first + (qz0 x10))).toNat 3), .sv (.agg (aY.cl e)),cu 0,bq first,bq (qz0 x10),bq (wr (first + (qz0 x10))),bq (wr ((wr (first + (qz0 x10))) + 1)),o1 (.oe 0 (wr ((wr (first + (qz0 x10))) + 1)).toNat 3), .sv (.agg (aY.cl e_2)),bq (φ (e,e_2)),cH (decide ((φ (e,e_2)) < 0)),cH (decide ((φ (e,e_2)) < 0))],[bU (bf 29 aY.ty l0)]⟩ hn ?_ ?_
          · exact ⟨.e,
    .e,
    .e,
    .b hb_2,
    .e,
    .e,
    .e,
    .e,
    .e,
    .e,
    .i (T:=aY.ty) rfl he,
    .l (T:=aY.ty) rfl (bs he).2.2,
    .e,
    .e,
    .e,
    .e,
    .e,
    .i (T:=aY.ty) rfl he_2,
    .l (T:=aY.ty) rfl (bs he_2).2.2,
    .v (cV (ins:=(fun (x:(aY × aY))=>[.sv (.agg (aY.cl x.1)), .sv (.agg (aY.cl x.2))])) (out:=(fun (r:Int)=>.sv (.one (I r)))) (dom:=dom) (φ:=φ) (e,e_2) hp_2 rfl),
    .e,
    .e,
    trivial⟩
          · exact bZ (decide ((φ (e,e_2)) < 0)) h
        · replace h:=h.2 hb_2
          refine da ⟨ba 11 (qz0 x10) :: (qz1 hi first dom φ Vk x10),[bq (qz0 x10),bq (wr ((qz0 x10) + 1)),bq hi,cH false,cH false,bJ,bJ,bJ,bJ,bJ,bJ,bJ,bJ,bJ,bJ,bJ,bJ,bJ,bJ,bJ,bJ,cH false],[bU (bf 29 aY.ty l0)]⟩ hn ?_ ?_
          · exact ⟨.e,
    .e,
    .e,
    .b hb_2,
    .e,
    .k,
    .k,
    .k,
    .k,
    .k,
    .k,
    .k,
    .k,
    .k,
    .k,
    .k,
    .k,
    .k,
    .k,
    .k,
    .k,
    .e,
    trivial⟩
          · exact bZ false h
      · intro x40 h
        replace h:=hJ_2 _ h
        refine Bd (b:=x40) (fun hb=>?_) (fun hb=>?_)
        · replace h:=h.1 hb
          exact cn hn (wr ((qz0 x10) + 1)) h
        · replace h:=h.2 hb
          exact bn (bZ (qz0 x10) h)
    · intro x11 h
      replace h:=hJ _ h
      refine bi (bi ?_)
      obtain ⟨e_3,he_3,h⟩:=h
      obtain ⟨e_4,he_4,h⟩:=h
      obtain ⟨hp_3,h⟩:=h
      refine DH ⟨ba 11 x11 :: (qz1 hi first dom φ Vk x10),[o1 (dv dom φ),cu 0,bq first,bq x10,bq (wr (first + x10)),o1 (.oe 0 (wr (first + x10)).toNat 3), .sv (.agg (aY.cl e_3)),cu 0,bq first,bq x11,bq (wr (first + x11)),o1 (.oe 0 (wr (first + x11)).toNat 3), .sv (.agg (aY.cl e_4)),bq (φ (e_3,e_4)),cH (decide ((φ (e_3,e_4)) < 0)),cH (!(decide ((φ (e_3,e_4)) < 0)))],[bU (bf 29 aY.ty l0)]⟩ ⟨ba 11 x11 :: bG 58 (!(decide ((φ (e_3,e_4)) < 0))) :: (qz1 hi first dom φ Vk x10),[bf 29 aY.ty l0]⟩ hn ?_ ?_
      · exact ⟨.e,
    .e,
    .e,
    .e,
    .e,
    .i (T:=aY.ty) rfl he_3,
    .l (T:=aY.ty) rfl (bs he_3).2.2,
    .e,
    .e,
    .e,
    .e,
    .i (T:=aY.ty) rfl he_4,
    .l (T:=aY.ty) rfl (bs he_4).2.2,
    .v (cV (ins:=(fun (x:(aY × aY))=>[.sv (.agg (aY.cl x.1)), .sv (.agg (aY.cl x.2))])) (out:=(fun (r:Int)=>.sv (.one (I r)))) (dom:=dom) (φ:=φ) (e_3,e_4) hp_3 rfl),
    .e,
    .e,
    trivial⟩
      · refine Bd (b:=(!(decide ((φ (e_3,e_4)) < 0)))) (fun hb=>?_) (fun hb=>?_)
        · replace h:=h.1 hb
          exact cT (d4 [0] ht l0 h (by kernel_rfl) (by rfl) rfl)
        · replace h:=h.2 hb
          refine bn (bi ?_)
          obtain ⟨e_5,he_5,h⟩:=h
          obtain ⟨e_6,he_6,h⟩:=h
          obtain ⟨e_7,he_7,h⟩:=h
          refine dt ⟨ba 11 x11 :: (qz1 hi first dom φ Vk x10),[cu 0,bq first,bq x10,bq (wr (first + x10)),cu 0,bq first,bq x11,bq (wr (first + x11)),cu 0,bq first,bq x11,bq (wr (first + x11)),o1 (.oe 0 (wr (first + x11)).toNat 3), .sv (.agg (aY.cl e_5)),cu 0,bq first,bq x10,bq (wr (first + x10)),o1 (.oe 0 (wr (first + x10)).toNat 3), .sv (.agg (aY.cl e_6)),o1 (.oe 0 (wr (first + x10)).toNat 3),bJ],[⟨bf 29 aY.ty l0,none,none,some (21,bf 29 aY.ty (l0.set (wr (first + x10)).toNat e_5))⟩]⟩ 22 ⟨[bg 0 (.pown 0 (Vk 0)),ba 2 hi,ba 3 first,bg 4 (dv dom φ),ba 11 x11,bx 63 0,ba 66 (wr (first + x11)),(78, .sv (.agg (aY.cl e_6)))],[bf 29 aY.ty (l0.set (wr (first + x10)).toNat e_5)]⟩ (by kernel_rfl) hn (by kernel_rfl) (by kernel_rfl) (by kernel_rfl) (by rfl) (by kernel_rfl) ?_ (by kernel_rfl) ?_
          · exact ⟨.e,
    .e,
    .e,
    .e,
    .e,
    .e,
    .e,
    .e,
    .e,
    .e,
    .e,
    .e,
    .i (T:=aY.ty) rfl he_5,
    .l (T:=aY.ty) rfl (bs he_5).2.2,
    .e,
    .e,
    .e,
    .e,
    .i (T:=aY.ty) rfl he_6,
    .l (T:=aY.ty) rfl (bs he_6).2.2,
    .i (T:=aY.ty) rfl he_7,
    .mu ⟨[(72, .sv (.agg (aY.cl e_5))),bg 79 (.oe 0 (wr (first + x10)).toNat 3)],[bf 29 aY.ty l0]⟩ 0 _ _ rfl rfl (by kernel_rfl) (by rfl) (dY (T:=aY.ty) (l:=l0) (y:=e_5) ht rfl (by rfl) (by rfl) (fun _ h=>by cases h) (by rfl) (by rfl) (dd he_7) (by rfl) (by rfl) (by rfl)) rfl rfl rfl rfl rfl rfl rfl,
    trivial⟩
          · obtain ⟨e_8,he_8,h⟩:=h
            refine bT hn (iO (T:=aY.ty) rfl he_8) ?_
            refine gg (T:=aY.ty) (y:=e_6) hn rfl (dd he_8) ?_
            exact bH (cn hn (x11,((l0.set (wr (first + x10)).toNat e_5).set (wr (first + x11)).toNat e_6)) h)
theorem KR : ∀ args w,(callFunc 100 args).run Tryz.prog w=.ok (.enter 100 args) w:=enters_of Tryz.func100 (by kernel_rfl) rfl
theorem I2 (R:List aY) (lo:Int) (hi:Int) (first:Int) (dom:((aY × aY) -> Prop)) (φ:((aY × aY) -> Int)) (hp:zC dom φ R lo hi first)  : tn R lo hi first dom φ (Ig φ R lo hi first):=by
 obtain ⟨hd,ho,⟨hlo,hlh⟩,hf,hl,hlen,hh⟩:=hp
 obtain ⟨L,rfl⟩:∃ L:Nat,lo=L:=⟨lo.toNat,by omega⟩
 obtain ⟨H,rfl⟩:∃ H:Nat,hi=H:=⟨hi.toNat,by omega⟩
 obtain ⟨F,rfl⟩:∃ F:Nat,first=F:=⟨first.toNat,by omega⟩
 unfold tn Ig
 simp only [bE] at hh ⊢
 refine ⟨fun x l=>∃ r:Nat,x=r /\ L <= r /\ r <= H /\ dW (F + L) (F + H) R l /\ (∀ k c,L <= k -> k ≠ r -> (c=2 * k + 1 \/ c=2 * k + 2) -> c < H -> le φ (gx l (F + c)) (gx l (F + k))) /\ ∀ k c,L <= k -> (r=2 * k + 1 \/ r=2 * k + 2) -> (c=2 * r + 1 \/ c=2 * r + 2) -> c < H -> le φ (gx l (F + c)) (gx l (F + k)),fun x _=>H - x.toNat,⟨L,rfl,bP _,by omega, .refl,fun k c h1 h2=>hh k c (by omega),fun k c h1 h2=>by omega⟩,?_⟩
 rintro x l ⟨r,rfl,hr,hrH,hS,hK,hP⟩
 have hll:=hS.len
 have w1:wr (2 * (r:Int))=((2 * r:Nat):Int):=by rw [bL (by omega) (by omega)]; omega
 have w2:wr (((2 * r:Nat):Int) + 1)=((2 * r + 1:Nat):Int):=by rw [bL (by omega) (by omega)]; omega
 rw [w1,w2]
 refine ⟨fun hb=>⟨hS,fun k c h1 h2 h3=>?_⟩,fun hb=>?_⟩
 ·have hb:=ca hb
  by_cases e:k=r
  ·omega
  ·exact hK k c h1 e h2 h3
 have hb:=cx hb
 have w3:wr (((2 * r + 1:Nat):Int) + 1)=((2 * r + 2:Nat):Int):=by rw [bL (by omega) (by omega)]; omega
 have wf:∀ k:Nat,k < H -> wr ((F:Int) + (k:Int))=((F + k:Nat):Int):=fun k hk=>by rw [bL (by omega) (by omega)]; omega
 rw [w3]
 refine ⟨fun y=>∃ c:Nat,y=c /\ (c=2 * r + 1 \/ c=2 * r + 2) /\ c < H /\ ∀ d,(d=2 * r + 1 \/ d=2 * r + 2) -> d < H -> le φ (gx l (F + d)) (gx l (F + c)),⟨fun b=>(b=true -> 2 * r + 2 < H /\ le φ (gx l (F + (2 * r + 1))) (gx l (F + (2 * r + 2)))) /\ (b=false -> 2 * r + 2 < H -> le φ (gx l (F + (2 * r + 2))) (gx l (F + (2 * r + 1)))),⟨fun hc=>?_,fun hc=>?_⟩,?_⟩,?_⟩
 ·have hc:=ca hc
  rw [wf (2 * r + 1) (by omega)]
  have w4:wr (((F + (2 * r + 1):Nat):Int) + 1)=((F + (2 * r + 2):Nat):Int):=by rw [bL (by omega) (by omega)]; omega
  rw [w4]
  refine ⟨_,bB (by omega) (by omega),_,bB (by omega) (by omega),hd _,fun e=>⟨by omega,ho.lt (ca e)⟩,fun e _=>cx e⟩
 ·have hc:=cx hc
  exact ⟨fun e=>(by cases e),fun _ h=>by omega⟩
 ·rintro b ⟨h1,h2⟩
  refine ⟨fun e=>?_,fun e=>?_⟩
  ·obtain ⟨k1,k2⟩:=h1 e
   refine ⟨2 * r + 2,rfl, .inr rfl,k1,fun d hd' _=>?_⟩
   rcases hd' with rfl | rfl
   ·exact k2
   ·exact ho.refl _
  ·refine ⟨2 * r + 1,rfl, .inl rfl,by omega,fun d hd' hdH=>?_⟩
   rcases hd' with rfl | rfl
   ·exact ho.refl _
   ·exact h2 e hdH
 rintro _ ⟨c,rfl,hc,hcH,hmax⟩
 rw [wf r (by omega),wf c hcH]
 refine ⟨_,bB (by omega) (by omega),_,bB (by omega) (by omega),hd _,fun e=>⟨hS,fun k d h1 h2 h3=>?_⟩,fun e=>?_⟩
 ·have e:le φ (gx l (F + c)) (gx l (F + r)):=by
   have:=cx (by simpa using e:decide (φ (gx l ((F + r:Nat):Int).toNat,gx l ((F + c:Nat):Int).toNat) < 0)=false)
   exact this
  by_cases h:k=r
  ·subst h
   exact ho.le_tr (hmax d h2 h3) e
  ·exact hK k d h1 h h2 h3
 have e:φ (gx l (F + r),gx l (F + c)) < 0:=by
  have:=ca (by simpa using e:decide (φ (gx l ((F + r:Nat):Int).toNat,gx l ((F + c:Nat):Int).toNat) < 0)=true)
  exact this
 refine ⟨_,bB (by omega) (by omega),_,bB (by omega) (by omega),_,bB (by omega) (by omega),_,bB (by omega) (by rw [cK]; omega),⟨c,rfl,by omega,by omega,hS.trans (gM (i:=F + r) (j:=F + c) ⟨by omega,by omega⟩ ⟨by omega,by omega⟩ (by omega)),?_,?_⟩,?_⟩
 ·intro k d h1 h2 h3 h4
  show le φ (gx (sw l (F + r) (F + c)) (F + d)) (gx (sw l (F + r) (F + c)) (F + k))
  rw [fB (by omega) (by omega),fB (by omega) (by omega),if_neg (show ¬ F + k=F + c by omega)]
  by_cases hk:k=r
  ·subst hk
   rw [if_pos (rfl:F + k=F + k)]
   by_cases hdc:d=c
   ·rw [if_pos (by omega)]
    exact ho.lt e
   ·rw [if_neg (by omega),if_neg (by omega)]
    exact hmax d h3 h4
  ·rw [if_neg (show ¬ F + k=F + r by omega),if_neg (show ¬ F + d=F + c by omega)]
   by_cases hdr:d=r
   ·rw [if_pos (by omega)]
    subst hdr
    exact hP k c h1 h3 hc hcH
   ·rw [if_neg (by omega)]
    exact hK k d h1 hk h3 h4
 ·intro k d h1 h2 h3 h4
  obtain rfl:k=r:=by omega
  show le φ (gx (sw l (F + k) (F + c)) (F + d)) (gx (sw l (F + k) (F + c)) (F + k))
  rw [fB (by omega) (by omega),fB (by omega) (by omega),if_neg (by omega),if_neg (by omega),if_neg (by omega),if_pos rfl]
  exact hK c d (by omega) (by omega) h3 h4
 ·show H - (c:Int).toNat < H - (r:Int).toNat
  omega
theorem CH (R:List aY) (lo:Int) (hi:Int) (first:Int) (dom:((aY × aY) -> Prop)) (φ:((aY × aY) -> Int)) (hp:zC dom φ R lo hi first)  : fj 100 [.sv (.one (.own 0)), .sv (.one (I lo)), .sv (.one (I hi)), .sv (.one (I first)), .sv (.one (dv dom φ))] [bf 29 aY.ty R] [0] (Ig φ R lo hi first) (fun (r:List aY)=>.tup []) (fun (r:List aY)=>[bf 29 aY.ty r]):=Ee R lo hi first dom φ _ (I2 R lo hi first dom φ hp)
def tB (R:List aY) (a:Int) (b:Int) (dom:((aY × aY) -> Prop)) (φ:((aY × aY) -> Int)) (Q:(List aY) -> Prop):Prop:=
 ∃ (Inv:Int -> (List aY) -> Prop) (mu:Int -> (List aY) -> Nat),Inv (wr (Int.tdiv (wr ((wr (b - a)) - 1)) 2)) R /\
 ∀ x11 l0,Inv x11 l0 -> (cv (decide (x11 >= 0)) ((zC dom φ l0 x11 (wr (b - a)) a) /\
 ∀ r:(List aY),(Ig φ l0 x11 (wr (b - a)) a) r ->
 ((Inv (wr (x11 - 1)) r /\ mu (wr (x11 - 1)) r < mu x11 l0))) (∃ (Inv_2:Int -> (List aY) -> Prop) (mu_2:Int -> (List aY) -> Nat),Inv_2 (wr ((wr (b - a)) - 1)) l0 /\
 ∀ x12 l0_2,Inv_2 x12 l0_2 -> (cv (decide (x12 >= 0)) (∃ e,cq l0_2 (wr (a + x12))=some e /\
 ∃ e_2,cq l0_2 a=some e_2 /\
 ∃ e_3,cq l0_2 a=some e_3 /\
 ∃ e_4,cq (l0_2.set (a).toNat e) (wr (a + x12))=some e_4 /\
 (zC dom φ ((l0_2.set (a).toNat e).set ((wr (a + x12))).toNat e_2) 0 x12 a) /\
 ∀ r_2:(List aY),(Ig φ ((l0_2.set (a).toNat e).set ((wr (a + x12))).toNat e_2) 0 x12 a) r_2 ->
 ((Inv_2 (wr (x12 - 1)) r_2 /\ mu_2 (wr (x12 - 1)) r_2 < mu_2 x12 l0_2))) (Q l0_2))))
abbrev GS (dom:((aY × aY) -> Prop)) (φ:((aY × aY) -> Int)) (a:Int) (y0:Nat -> Value):=([bg 0 (.pown 0 (y0 0)),bg 3 (dv dom φ),bg 8 (I a),bg 9 (I 0)]:List (Nat × SC))
theorem Ep (R:List aY) (a:Int) (b:Int) (dom:((aY × aY) -> Prop)) (φ:((aY × aY) -> Int)) (Q:(List aY) -> Prop) (h:tB R a b dom φ Q):fj 88 [.sv (.one (.own 0)), .sv (.one (I a)), .sv (.one (I b)), .sv (.one (dv dom φ))] [bf 29 aY.ty R] [0] Q (fun (r:List aY)=>.tup []) (fun (r:List aY)=>[bf 29 aY.ty r]):=by
 have ht:=bA
 refine eZ Tryz.func88 rfl rfl rfl (by kernel_rfl) (fun c Vk hn=>?_)
 unfold tB at h
 refine bk hn ?_
 refine bk hn ?_
 refine bk hn ?_
 refine bi (bk hn ?_)
 refine bj (dV h (fun zz=>⟨[bg 0 (.pown 0 (Vk 0)),bg 3 (dv dom φ),ba 8 a,ba 9 0,ba 10 (wr (b - a)),ba 11 zz.1],[bf 29 aY.ty zz.2]⟩) fun Inv mu x11 l0 h=>?_)
 refine bi (bk hn ?_)
 refine bv h (fun h=>?_) (fun h=>?_)
 refine bn (bi (bj (bI (bC ht hn 5 ⟨ba 10 (wr (b - a)) :: ba 11 x11 :: bx 24 0 :: ba 25 x11 :: ba 26 (wr (b - a)) :: ba 27 a :: bg 28 (dv dom φ) :: (GS dom φ a Vk),[bf 29 aY.ty l0]⟩ ?_))))
 obtain ⟨hp,h⟩:=h
 refine dz [bg 0 (.pown 0 (Vk 0)),bg 3 (dv dom φ),ba 8 a,ba 9 0,ba 10 (wr (b - a)),ba 11 x11,ba 25 x11,ba 26 (wr (b - a)),ba 27 a,bg 28 (dv dom φ)] (CH l0 x11 (wr (b - a)) a dom φ hp) KR (caps:=[]) [0] hn (by rfl) rfl (by rfl) (eR (by kernel_rfl) (by rfl)) (by kernel_rfl) (by decide) (by kernel_rfl) (by rfl) (by rfl) (fun r hr_2=>⟨by rfl,_,by rfl,?_⟩)
 replace h:=h r hr_2
 exact bH (cn hn ((wr (x11 - 1)),r) h)
 refine bD rfl (bk hn ?_)
 refine bj (dV h (fun zz=>⟨[bg 0 (.pown 0 (Vk 0)),bg 3 (dv dom φ),ba 8 a,ba 9 0,ba 12 zz.1],[bf 29 aY.ty zz.2]⟩) fun Inv_2 mu_2 x12 l0_2 h=>?_)
 refine bi (bp (cw ht hn 2 ⟨ba 12 x12 :: bG 33 (decide (x12 >= 0)) :: (GS dom φ a Vk),[bf 29 aY.ty l0_2]⟩ ?_))
 refine bv h (fun h=>?_) (fun h=>?_)
 refine bn (bi (bj (bi ?_)))
 obtain ⟨e,he,h⟩:=h
 obtain ⟨e_2,he_2,h⟩:=h
 obtain ⟨e_3,he_3,h⟩:=h
 refine dt ⟨ba 12 x12 :: (GS dom φ a Vk),[cu 0,bq a,cu 0,bq a,bq x12,bq (wr (a + x12)),cu 0,bq a,bq x12,bq (wr (a + x12)),o1 (.oe 0 (wr (a + x12)).toNat 3), .sv (.agg (aY.cl e)),cu 0,bq a,o1 (.oe 0 (a).toNat 3), .sv (.agg (aY.cl e_2)),o1 (.oe 0 (a).toNat 3),bJ],[⟨bf 29 aY.ty l0_2,none,none,some (17,bf 29 aY.ty (l0_2.set (a).toNat e))⟩]⟩ 18 ⟨ba 12 x12 :: bx 38 0 :: ba 41 (wr (a + x12)) :: (51, .sv (.agg (aY.cl e_2))) :: (GS dom φ a Vk),[bf 29 aY.ty (l0_2.set (a).toNat e)]⟩ (by kernel_rfl) hn (by kernel_rfl) (by kernel_rfl) (by kernel_rfl) (by rfl) (by kernel_rfl) ?_ (by kernel_rfl) ?_
 exact ⟨.e,
 .e,
 .e,
 .e,
 .e,
 .e,
 .e,
 .e,
 .e,
 .e,
 .i (T:=aY.ty) rfl he,
 .l (T:=aY.ty) rfl (bs he).2.2,
 .e,
 .e,
 .i (T:=aY.ty) rfl he_2,
 .l (T:=aY.ty) rfl (bs he_2).2.2,
 .i (T:=aY.ty) rfl he_3,
 .mu ⟨[(47, .sv (.agg (aY.cl e))),bg 52 (.oe 0 (a).toNat 3)],[bf 29 aY.ty l0_2]⟩ 0 _ _ rfl rfl (by kernel_rfl) (by rfl) (dY (T:=aY.ty) (l:=l0_2) (y:=e) ht rfl (by rfl) (by rfl) (fun _ h=>by cases h) (by rfl) (by rfl) (dd he_3) (by rfl) (by rfl) (by rfl)) rfl rfl rfl rfl rfl rfl rfl,
 trivial⟩
 obtain ⟨e_4,he_4,h⟩:=h
 refine bT hn (iO (T:=aY.ty) rfl he_4) ?_
 refine gg (T:=aY.ty) (y:=e_2) hn rfl (dd he_4) ?_
 refine bH (bI (bC ht hn 5 ⟨ba 12 x12 :: bx 54 0 :: ba 55 0 :: ba 56 x12 :: ba 57 a :: bg 58 (dv dom φ) :: (GS dom φ a Vk),[bf 29 aY.ty ((l0_2.set (a).toNat e).set (wr (a + x12)).toNat e_2)]⟩ ?_))
 obtain ⟨hp,h⟩:=h
 refine dz [bg 0 (.pown 0 (Vk 0)),bg 3 (dv dom φ),ba 8 a,ba 9 0,ba 12 x12,ba 55 0,ba 56 x12,ba 57 a,bg 58 (dv dom φ)] (CH ((l0_2.set (a).toNat e).set (wr (a + x12)).toNat e_2) 0 x12 a dom φ hp) KR (caps:=[]) [0] hn (by rfl) rfl (by rfl) (eR (by kernel_rfl) (by rfl)) (by kernel_rfl) (by decide) (by kernel_rfl) (by rfl) (by rfl) (fun r_2 hr_2_2=>⟨by rfl,_,by rfl,?_⟩)
 replace h:=h r_2 hr_2_2
 exact bH (cn hn ((wr (x12 - 1)),r_2) h)
 exact bD rfl (d4 [0] ht l0_2 h (by kernel_rfl) (by rfl) rfl)
theorem M6 : ∀ args w,(callFunc 88 args).run Tryz.prog w=.ok (.enter 88 args) w:=enters_of Tryz.func88 (by kernel_rfl) rfl
theorem Ji (R:List aY) (a:Int) (b:Int) (dom:((aY × aY) -> Prop)) (φ:((aY × aY) -> Int)) (hp:oB dom φ R a b)  : tB R a b dom φ (SQ φ R a b):=by
 obtain ⟨hd,ho,ha,hab,hbl,hlen⟩:=hp
 obtain ⟨A,rfl⟩:∃ A:Nat,a=A:=⟨a.toNat,by omega⟩
 obtain ⟨H,rfl⟩:∃ H:Nat,b=((A + H:Nat):Int):=⟨(b - A).toNat,by omega⟩
 unfold tB SQ
 simp only [bE]
 have w1:wr (((A + H:Nat):Int) - (A:Int))=(H:Int):=by rw [bL (by omega) (by omega)]; omega
 have w2:wr ((H:Int) - 1)=(H:Int) - 1:=bL (by omega) (by omega)
 rw [w1,w2]
 have h0:(0:Int).toNat=0:=rfl
 refine ⟨fun x l=>-1 <= x /\ x <= H /\ dW A (A + H) R l /\ xj φ l A (x + 1).toNat H,fun x _=>(x + 1).toNat,?_,?_⟩
 ·have hdv:-1 <= Int.tdiv ((H:Int) - 1) 2 /\ Int.tdiv ((H:Int) - 1) 2 <= H /\ (H:Int) <= 2 * Int.tdiv ((H:Int) - 1) 2 + 2:=by
   rcases kn H with rfl | hp
   ·decide
   ·rw [nN (by omega)]
    omega
  rw [bL (by omega) (by omega)]
  exact ⟨hdv.1,hdv.2.1, .refl,fun k c h1 h2 h3=>by omega⟩
 rintro x l ⟨hx,hxH,hS,hh⟩
 have hll:=hS.len
 refine ⟨fun hb=>?_,fun hb=>?_⟩
 ·have hb:=ca hb
  have hb:0 <= x:=hb
  have w3:wr (x - 1)=x - 1:=bL (by omega) (by omega)
  rw [w3]
  refine ⟨⟨hd,ho,⟨hb,hxH⟩,by omega,by omega,by omega,?_⟩,?_⟩
  ·simp only [bE]
   rw [show x.toNat + 1=(x + 1).toNat by omega]
   exact hh
  ·rintro r ⟨q1,q2⟩
   simp only [bE] at q1 q2
   refine ⟨⟨by omega,by omega,hS.trans (q1.widen (by omega) (bP _)),?_⟩,?_⟩
   ·rw [show (x - 1 + 1).toNat=x.toNat by omega]
    exact q2
   ·show (x - 1 + 1).toNat < (x + 1).toNat
    omega
 have hb:=cx hb
 have hb:¬ 0 <= x:=hb
 obtain rfl:x = -1:=by omega
 refine ⟨fun x l=>-1 <= x /\ x < H /\ dW A (A + H) R l /\ xj φ l A 0 (x + 1).toNat /\ (∀ p q,p < q -> (x + 1).toNat <= q -> q < H -> le φ (gx l (A + p)) (gx l (A + q))),fun x _=>(x + 1).toNat,⟨by omega,by omega,hS,?_,fun p q h1 h2 h3=>by omega⟩,?_⟩
 ·rw [show ((H:Int) - 1 + 1).toNat=H by omega]
  exact hh
 rintro x m ⟨h1,h2,hSm,hhm,hT⟩
 have hml:=hSm.len
 refine ⟨fun hb2=>?_,fun hb2=>?_⟩
 rotate_left
 ·have hb2:=cx hb2
  have hb2:¬ 0 <= x:=hb2
  refine ⟨hSm,fun p q g1 g2 g3=>?_⟩
  have:=hT (p - A) (q - A) (by omega) (by omega) (by omega)
  rwa [show A + (p - A)=p by omega,show A + (q - A)=q by omega] at this
 have hb2:=ca hb2
 have hb2:0 <= x:=hb2
 obtain ⟨I',rfl⟩:∃ I':Nat,x=I':=⟨x.toNat,by omega⟩
 have w3:wr ((I':Int) - 1)=(I':Int) - 1:=bL (by omega) (by omega)
 have w4:wr ((A:Int) + (I':Int))=((A + I':Nat):Int):=by rw [bL (by omega) (by omega)]; omega
 rw [w3,w4]
 rw [show ((I':Int) + 1).toNat=I' + 1 by omega] at hhm hT
 refine ⟨_,bB (by omega) (by omega),_,bB (by omega) (by omega),_,bB (by omega) (by omega),_,bB (by omega) (by rw [cK]; omega),⟨hd,ho,⟨eN _,by omega⟩,by omega,by rw [cK,cK]; omega,by rw [cK,cK]; omega,?_⟩,?_⟩
 ·intro k c g1 g2 g3
  simp only [bE] at g1 g3 ⊢
  show le φ (gx (sw m A (A + I')) (A + c)) (gx (sw m A (A + I')) (A + k))
  rw [fB (by omega) (by omega),fB (by omega) (by omega),if_neg (by omega),if_neg (by omega),if_neg (by omega),if_neg (by omega)]
  exact hhm k c (by omega) g2 (by omega)
 ·rintro r ⟨q1,q2⟩
  simp only [bE,h0,eG] at q1 q2
  have q1:dW A (A + I') (sw m A (A + I')) r:=q1
  have hsw:dW A (A + H) m (sw m A (A + I')):=gM ⟨bP _,by omega⟩ ⟨by omega,by omega⟩ (by omega)
  have hlr:=q1.len
  rw [Gv] at hlr
  refine ⟨⟨by omega,by omega,hSm.trans (hsw.trans (q1.widen (bP _) (by omega))),?_,?_⟩,?_⟩
  ·rw [show ((I':Int) - 1 + 1).toNat=I' by omega]
   exact q2
  ·intro p q g1 g2 g3
   rw [show ((I':Int) - 1 + 1).toNat=I' by omega] at g2
   rw [q1.out (A + q) (.inr (by omega)),fB (by omega) (by omega)]
   have hmax:∀ k,k < I' + 1 -> le φ (gx m (A + k)) (gx m A):=fun k hk=>hhm.top ho k hk
   by_cases hp:p < I'
   ·refine q1.all (fun z=>le φ z _) (fun k g4 g5=>?_) (A + p) (by omega) (by omega)
    rw [fB (by omega) (by omega),if_neg (show ¬ k=A + I' by omega)]
    by_cases hq:q=I'
    ·rw [if_pos (show A + q=A + I' by omega)]
     split
     ·exact hmax I' (by omega)
     ·have:=hmax (k - A) (by omega)
      rwa [show A + (k - A)=k by omega] at this
    ·rw [if_neg (show ¬ A + q=A + I' by omega),if_neg (show ¬ A + q=A by omega)]
     split
     ·exact hT I' q (by omega) (by omega) g3
     ·have:=hT (k - A) q (by omega) (by omega) g3
      rwa [show A + (k - A)=k by omega] at this
   ·rw [q1.out (A + p) (.inr (by omega)),fB (by omega) (by omega),if_neg (show ¬ A + q=A + I' by omega),if_neg (show ¬ A + q=A by omega)]
    by_cases hpi:p=I'
    ·rw [if_pos (show A + p=A + I' by omega)]
     have:=hT 0 q (by omega) (by omega) g3
     exact this
    ·rw [if_neg (show ¬ A + p=A + I' by omega),if_neg (show ¬ A + p=A by omega)]
     exact hT p q g1 (by omega) g3
  ·show ((I':Int) - 1 + 1).toNat < ((I':Int) + 1).toNat
   omega
theorem Jj (R:List aY) (a:Int) (b:Int) (dom:((aY × aY) -> Prop)) (φ:((aY × aY) -> Int)) (hp:oB dom φ R a b)  : fj 88 [.sv (.one (.own 0)), .sv (.one (I a)), .sv (.one (I b)), .sv (.one (dv dom φ))] [bf 29 aY.ty R] [0] (SQ φ R a b) (fun (r:List aY)=>.tup []) (fun (r:List aY)=>[bf 29 aY.ty r]):=Ep R a b dom φ _ (Ji R a b dom φ hp)
end
end Go.Proofs.YtmdbjpljlniloaaGreat
