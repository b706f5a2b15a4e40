/- Lemmas towards the statement: mirrors of functions, and plain laws. No condition. -/
import Derived.Test.YtmdbjpljlniloaaGreatPackSafraTwice4
set_option linter.unusedSectionVars false
set_option linter.unusedSimpArgs false
set_option linter.unusedVariables false
namespace Go.Proofs.YtmdbjpljlniloaaGreat
open Go.RowKit Go.MapKept
set_option maxRecDepth 100000
noncomputable section
section
variable {X:Type} [Inhabited X] {φ:X × X -> Int}
structure pt (dom:X × X -> Prop) (φ:X × X -> Int) (R:List X) (a b pivot:Int):Prop where
 pre:oB dom φ R a b
 pv:a <= pivot /\ pivot < b
structure Ii (φ:X × X -> Int) (R:List X) (a b:Int) (r:Int × Bool × List X):Prop where
 mid:a <= r.1 /\ r.1 < b
 seg:dW a.toNat b.toNat R r.2.2
 low:∀ k,a.toNat <= k -> k < r.1.toNat -> le φ (gx r.2.2 k) (gx r.2.2 r.1.toNat)
 high:∀ k,r.1.toNat < k -> k < b.toNat -> le φ (gx r.2.2 r.1.toNat) (gx r.2.2 k)
structure PI (φ:X × X -> Int) (R:List X) (A B:Nat) (pv:X) (l:List X) (i j:Nat):Prop where
 seg:dW A B R l
 top:gx l A=pv
 lo:A + 1 <= i
 ij:i <= j
 hi:j <= B
 low:∀ k,A + 1 <= k -> k < i -> φ (gx l k,pv) < 0
 high:∀ k,j <= k -> k < B -> le φ pv (gx l k)
theorem PI.fin (ho:Ord φ) {R l:List X} {A B i j:Nat} {pv:X} (hB:B <= R.length) (h:PI φ R A B pv l i j) (e:i=j) {al:Bool}:Ii φ R (A:Int) (B:Int) (((j:Int) - 1),al,sw l (j - 1) A):=by
 obtain ⟨hs,ht,h1,h2,h3,h4,h5⟩:=h
 have hl:=hs.len
 have e1:((j:Int) - 1).toNat=j - 1:=by omega
 have top:gx (sw l (j - 1) A) (j - 1)=pv:=by
  rw [fB (by omega) (by omega)]
  split
  ·rename_i c
   rw [c]
   exact ht
  ·rw [if_pos rfl]
   exact ht
 refine ⟨⟨by omega,by omega⟩,?_,fun k k1 k2=>?_,fun k k1 k2=>?_⟩
 ·simp only [bE]
  exact hs.trans (gM ⟨by omega,by omega⟩ ⟨by omega,by omega⟩ (by omega))
 ·simp only [bE] at k1
  have k2:k < ((j:Int) - 1).toNat:=k2
  show le φ (gx (sw l (j - 1) A) k) (gx (sw l (j - 1) A) ((j:Int) - 1).toNat)
  rw [e1] at k2 ⊢
  rw [top,fB (by omega) (by omega)]
  split
  ·exact ho.lt (h4 (j - 1) (by omega) (by omega))
  ·rw [if_neg (by omega)]
   exact ho.lt (h4 k (by omega) (by omega))
 ·simp only [bE] at k2
  have k1:((j:Int) - 1).toNat < k:=k1
  show le φ (gx (sw l (j - 1) A) ((j:Int) - 1).toNat) (gx (sw l (j - 1) A) k)
  rw [e1] at k1 ⊢
  rw [top,fB (by omega) (by omega),if_neg (by omega),if_neg (by omega)]
  exact h5 k (by omega) k2
theorem PI.step {R l:List X} {A B i j:Nat} {pv:X} (hB:B <= R.length) (h:PI φ R A B pv l i j) (hij:i < j) (g1:le φ pv (gx l i)) (g2:φ (gx l (j - 1),pv) < 0):PI φ R A B pv (sw l i (j - 1)) (i + 1) (j - 1):=by
 obtain ⟨hs,ht,h1,h2,h3,h4,h5⟩:=h
 have hl:=hs.len
 have hne:i ≠ j - 1:=fun e=>by rw [<- e] at g2; exact g1 g2
 refine ⟨hs.trans (gM ⟨by omega,by omega⟩ ⟨by omega,by omega⟩ (by omega)),?_,by omega,by omega,by omega,fun k k1 k2=>?_,fun k k1 k2=>?_⟩
 ·rw [fB (by omega) (by omega),if_neg (by omega),if_neg (by omega)]
  exact ht
 ·rw [fB (by omega) (by omega),if_neg (by omega)]
  split
  ·exact g2
  ·exact h4 k k1 (by omega)
 ·rw [fB (by omega) (by omega)]
  split
  ·exact g1
  ·rw [if_neg (by omega)]
   exact h5 k (by omega) k2
theorem PI.up {R l:List X} {A B i j:Nat} {pv:X} (h:PI φ R A B pv l i j) (hij:i < j) (g:φ (gx l i,pv) < 0):PI φ R A B pv l (i + 1) j:=
 ⟨h.seg,h.top,by have:=h.lo; omega,hij,h.hi,fun k k1 k2=>by
  rcases cU.1 k2 with c | rfl
  ·exact h.low k k1 c
  ·exact g,h.high⟩
theorem PI.down {R l:List X} {A B i j:Nat} {pv:X} (h:PI φ R A B pv l i j) (hij:i < j) (g:le φ pv (gx l (j - 1))):PI φ R A B pv l i (j - 1):=
 ⟨h.seg,h.top,h.lo,by omega,by have:=h.hi; omega,h.low,fun k k1 k2=>by
  rcases dA k j with c | c
  ·obtain rfl:k=j - 1:=by omega
   exact g
  ·exact h.high k c k2⟩
structure Ku (φ:X × X -> Int) (R:List X) (a b pivot:Int) (r:Int × List X):Prop where
 mid:a < r.1 /\ r.1 <= b
 seg:dW a.toNat b.toNat R r.2
 low:∀ k,a.toNat <= k -> k < r.1.toNat -> le φ (gx r.2 k) (gx R pivot.toNat)
 high:∀ k,r.1.toNat <= k -> k < b.toNat -> φ (gx R pivot.toNat,gx r.2 k) < 0
structure PE (φ:X × X -> Int) (R:List X) (A B:Nat) (pv:X) (l:List X) (i j:Nat):Prop where
 seg:dW A B R l
 top:gx l A=pv
 lo:A + 1 <= i
 ij:i <= j
 hi:j <= B
 low:∀ k,A <= k -> k < i -> le φ (gx l k) pv
 high:∀ k,j <= k -> k < B -> φ (pv,gx l k) < 0
theorem PE.step (ho:Ord φ) {R l:List X} {A B i j:Nat} {pv:X} (hB:B <= R.length) (h:PE φ R A B pv l i j) (hij:i < j) (g1:φ (pv,gx l i) < 0) (g2:le φ (gx l (j - 1)) pv):PE φ R A B pv (sw l i (j - 1)) (i + 1) (j - 1):=by
 obtain ⟨hs,ht,h1,h2,h3,h4,h5⟩:=h
 have hl:=hs.len
 have hne:i ≠ j - 1:=fun e=>by rw [<- e] at g2; exact g2 g1
 refine ⟨hs.trans (gM ⟨by omega,by omega⟩ ⟨by omega,by omega⟩ (by omega)),?_,by omega,by omega,by omega,fun k k1 k2=>?_,fun k k1 k2=>?_⟩
 ·rw [fB (by omega) (by omega),if_neg (by omega),if_neg (by omega)]
  exact ht
 ·rw [fB (by omega) (by omega),if_neg (by omega)]
  split
  ·exact g2
  ·exact h4 k k1 (by omega)
 ·rw [fB (by omega) (by omega)]
  split
  ·exact g1
  ·rw [if_neg (by omega)]
   exact h5 k (by omega) k2
theorem PE.up {R l:List X} {A B i j:Nat} {pv:X} (h:PE φ R A B pv l i j) (hij:i < j) (g:le φ (gx l i) pv):PE φ R A B pv l (i + 1) j:=
 ⟨h.seg,h.top,by have:=h.lo; omega,hij,h.hi,fun k k1 k2=>by
  rcases cU.1 k2 with c | rfl
  ·exact h.low k k1 c
  ·exact g,h.high⟩
theorem PE.down {R l:List X} {A B i j:Nat} {pv:X} (h:PE φ R A B pv l i j) (hij:i < j) (g:φ (pv,gx l (j - 1)) < 0):PE φ R A B pv l i (j - 1):=
 ⟨h.seg,h.top,h.lo,by omega,by have:=h.hi; omega,h.low,fun k k1 k2=>by
  rcases dA k j with c | c
  ·obtain rfl:k=j - 1:=by omega
   exact g
  ·exact h.high k c k2⟩
end
def tx (R:List aY) (a:Int) (b:Int) (pivot:Int) (dom:((aY × aY) -> Prop)) (φ:((aY × aY) -> Int)) (Q:Int × Bool × (List aY) -> Prop):Prop:=
 ∃ e,cq R pivot=some e /\
 ∃ e_2,cq R a=some e_2 /\
 ∃ e_3,cq R a=some e_3 /\
 ∃ e_4,cq (R.set (a).toNat e) pivot=some e_4 /\
 ∃ (Inv:Int -> Prop) (mu:Int -> Nat),Inv (wr (a + 1)) /\
 ∀ x12,Inv x12 -> (∃ J:Bool -> Prop,(cv (decide (x12 <= (wr (b - 1)))) (∃ e_5,cq ((R.set (a).toNat e).set (pivot).toNat e_2) x12=some e_5 /\
 ∃ e_6,cq ((R.set (a).toNat e).set (pivot).toNat e_2) a=some e_6 /\
 (dom (e_5,e_6)) /\
 J (decide ((φ (e_5,e_6)) < 0))) (J false)) /\
 (∀ x47,J x47 -> cv x47 ((Inv (wr (x12 + 1)) /\ mu (wr (x12 + 1)) < mu x12)) (∃ (Inv_2:Int -> Prop) (mu_2:Int -> Nat),Inv_2 (wr (b - 1)) /\
 ∀ x13,Inv_2 x13 -> (∃ J_2:Bool -> Prop,(cv (decide (x12 <= x13)) (∃ e_7,cq ((R.set (a).toNat e).set (pivot).toNat e_2) x13=some e_7 /\
 ∃ e_8,cq ((R.set (a).toNat e).set (pivot).toNat e_2) a=some e_8 /\
 (dom (e_7,e_8)) /\
 J_2 (!(decide ((φ (e_7,e_8)) < 0)))) (J_2 false)) /\
 (∀ x66,J_2 x66 -> cv x66 ((Inv_2 (wr (x13 - 1)) /\ mu_2 (wr (x13 - 1)) < mu_2 x13)) (cv (decide (x12 > x13)) (∃ e_9,cq ((R.set (a).toNat e).set (pivot).toNat e_2) a=some e_9 /\
 ∃ e_10,cq ((R.set (a).toNat e).set (pivot).toNat e_2) x13=some e_10 /\
 ∃ e_11,cq ((R.set (a).toNat e).set (pivot).toNat e_2) x13=some e_11 /\
 ∃ e_12,cq (((R.set (a).toNat e).set (pivot).toNat e_2).set (x13).toNat e_9) a=some e_12 /\
 Q (x13,true,((((R.set (a).toNat e).set (pivot).toNat e_2).set (x13).toNat e_9).set (a).toNat e_10))) (∃ e_13,cq ((R.set (a).toNat e).set (pivot).toNat e_2) x13=some e_13 /\
 ∃ e_14,cq ((R.set (a).toNat e).set (pivot).toNat e_2) x12=some e_14 /\
 ∃ e_15,cq ((R.set (a).toNat e).set (pivot).toNat e_2) x12=some e_15 /\
 ∃ e_16,cq (((R.set (a).toNat e).set (pivot).toNat e_2).set (x12).toNat e_13) x13=some e_16 /\
 ∃ (Inv_3:Int -> Int -> (List aY) -> Prop) (mu_3:Int -> Int -> (List aY) -> Nat),Inv_3 (wr (x12 + 1)) (wr (x13 - 1)) ((((R.set (a).toNat e).set (pivot).toNat e_2).set (x12).toNat e_13).set (x13).toNat e_14) /\
 ∀ x12_2 x13_2 l0,Inv_3 x12_2 x13_2 l0 -> (∃ (Inv_4:Int -> Prop) (mu_4:Int -> Nat),Inv_4 x12_2 /\
 ∀ x12_3,Inv_4 x12_3 -> (∃ J_3:Bool -> Prop,(cv (decide (x12_3 <= x13_2)) (∃ e_17,cq l0 x12_3=some e_17 /\
 ∃ e_18,cq l0 a=some e_18 /\
 (dom (e_17,e_18)) /\
 J_3 (decide ((φ (e_17,e_18)) < 0))) (J_3 false)) /\
 (∀ x120,J_3 x120 -> cv x120 ((Inv_4 (wr (x12_3 + 1)) /\ mu_4 (wr (x12_3 + 1)) < mu_4 x12_3)) (∃ (Inv_5:Int -> Prop) (mu_5:Int -> Nat),Inv_5 x13_2 /\
 ∀ x13_3,Inv_5 x13_3 -> (∃ J_4:Bool -> Prop,(cv (decide (x12_3 <= x13_3)) (∃ e_19,cq l0 x13_3=some e_19 /\
 ∃ e_20,cq l0 a=some e_20 /\
 (dom (e_19,e_20)) /\
 J_4 (!(decide ((φ (e_19,e_20)) < 0)))) (J_4 false)) /\
 (∀ x139,J_4 x139 -> cv x139 ((Inv_5 (wr (x13_3 - 1)) /\ mu_5 (wr (x13_3 - 1)) < mu_5 x13_3)) (cv (decide (x12_3 > x13_3)) (∃ e_21,cq l0 a=some e_21 /\
 ∃ e_22,cq l0 x13_3=some e_22 /\
 ∃ e_23,cq l0 x13_3=some e_23 /\
 ∃ e_24,cq (l0.set (x13_3).toNat e_21) a=some e_24 /\
 Q (x13_3,false,((l0.set (x13_3).toNat e_21).set (a).toNat e_22))) (∃ e_25,cq l0 x13_3=some e_25 /\
 ∃ e_26,cq l0 x12_3=some e_26 /\
 ∃ e_27,cq l0 x12_3=some e_27 /\
 ∃ e_28,cq (l0.set (x12_3).toNat e_25) x13_3=some e_28 /\
 (Inv_3 (wr (x12_3 + 1)) (wr (x13_3 - 1)) ((l0.set (x12_3).toNat e_25).set (x13_3).toNat e_26) /\ mu_3 (wr (x12_3 + 1)) (wr (x13_3 - 1)) ((l0.set (x12_3).toNat e_25).set (x13_3).toNat e_26) < mu_3 x12_2 x13_2 l0))))))))))))))))
abbrev pH (a:Int) (dom:((aY × aY) -> Prop)) (φ:((aY × aY) -> Int)) (y0:Nat -> Value):=([bg 0 (.pown 0 (y0 0)),bg 1 (I a),bg 4 (dv dom φ)]:List (Nat × SC))
abbrev o5 (y0:Nat -> Value):=sl 0 (.pown 0 (y0 0))
abbrev EG (R:List aY) (a:Int) (pivot:Int) (y0) (y1):=([bf 29 aY.ty ((R.set (a).toNat y0).set (pivot).toNat y1)]:List br)
set_option maxHeartbeats 2000000 in
theorem Ej (R:List aY) (a:Int) (b:Int) (pivot:Int) (dom:((aY × aY) -> Prop)) (φ:((aY × aY) -> Int)) (Q:Int × Bool × (List aY) -> Prop) (h:tx R a b pivot dom φ Q):fj 94 [.sv (.one (.own 0)), .sv (.one (I a)), .sv (.one (I b)), .sv (.one (I pivot)), .sv (.one (dv dom φ))] [bf 29 aY.ty R] [0] Q (fun (r:Int × Bool × (List aY))=>.tup [.one (I r.1), .one (B r.2.1)]) (fun (r:Int × Bool × (List aY))=>[bf 29 aY.ty r.2.2]):=by
 have ht:=bA
 refine eZ Tryz.func94 rfl rfl rfl (by kernel_rfl) (fun c Vk hn=>?_)
 unfold tx at h
 refine bk hn ?_
 refine bi ?_
 obtain ⟨e,he,h⟩:=h
 obtain ⟨e_2,he_2,h⟩:=h
 obtain ⟨e_3,he_3,h⟩:=h
 refine dt ⟨ba 2 b :: ba 3 pivot :: (pH a dom φ Vk),[cu 0,bq a,cu 0,bq pivot,cu 0,bq pivot,o1 (.oe 0 (pivot).toNat 3), .sv (.agg (aY.cl e)),cu 0,bq a,o1 (.oe 0 (a).toNat 3), .sv (.agg (aY.cl e_2)),o1 (.oe 0 (a).toNat 3),bJ],[⟨bf 29 aY.ty R,none,none,some (13,bf 29 aY.ty (R.set (a).toNat e))⟩]⟩ 14 ⟨ba 2 b :: bx 16 0 :: ba 17 pivot :: (25, .sv (.agg (aY.cl e_2))) :: (pH a dom φ Vk),[bf 29 aY.ty (R.set (a).toNat e)]⟩ (by kernel_rfl) hn (by kernel_rfl) (by kernel_rfl) (by kernel_rfl) (by rfl) (by kernel_rfl) ?_ (by kernel_rfl) ?_
 exact ⟨.e,
 .e,
 .e,
 .e,
 .e,
 .e,
 .i (T:=aY.ty) rfl he,
 .l (T:=aY.ty) rfl (bs he).2.2,
 .e,
 .e,
 .i (T:=aY.ty) rfl he_2,
 .l (T:=aY.ty) rfl (bs he_2).2.2,
 .i (T:=aY.ty) rfl he_3,
 .mu ⟨[(21, .sv (.agg (aY.cl e))),bg 26 (.oe 0 (a).toNat 3)],[bf 29 aY.ty R]⟩ 0 _ _ rfl rfl (by kernel_rfl) (by rfl) (dY (T:=aY.ty) (l:=R) (y:=e) ht rfl (by rfl) (by rfl) (fun _ h=>by cases h) (by rfl) (by rfl) (dd he_3) (by rfl) (by rfl) (by rfl)) rfl rfl rfl rfl rfl rfl rfl,
 trivial⟩
 obtain ⟨e_4,he_4,h⟩:=h
 refine bT hn (iO (T:=aY.ty) rfl he_4) ?_
 refine gg (T:=aY.ty) (y:=e_2) hn rfl (dd he_4) ?_
 refine bH (bk hn ?_)
 refine bi (bj (fC h (fun zz=>⟨[o5 Vk,ba 1 a,bg 4 (dv dom φ),ba 12 zz,ba 13 (wr (b - 1))],(EG R a pivot e e_2)⟩) fun Inv mu x12 h=>?_))
 refine bi ?_
 obtain ⟨J,h,hJ⟩:=h
 refine bS (σ:=Bool) (fun zz=>J zz) (fun zz=>⟨[o5 Vk,ba 1 a,bg 4 (dv dom φ),ba 12 x12,ba 13 (wr (b - 1)),bG 47 zz],(EG R a pivot e e_2)⟩) ?_ ?_
 refine cz (decide (x12 <= (wr (b - 1)))) (fun hb_2=>?_) (fun hb_2=>?_)
 replace h:=h.1 hb_2
 obtain ⟨e_5,he_5,h⟩:=h
 obtain ⟨e_6,he_6,h⟩:=h
 obtain ⟨hp_2,h⟩:=h
 refine da ⟨ba 12 x12 :: ba 13 (wr (b - 1)) :: (pH a dom φ Vk),[bq x12,bq (wr (b - 1)),cH true,cH true,o1 (dv dom φ),cu 0,bq x12,o1 (.oe 0 (x12).toNat 3), .sv (.agg (aY.cl e_5)),cu 0,bq a,o1 (.oe 0 (a).toNat 3), .sv (.agg (aY.cl e_6)),bq (φ (e_5,e_6)),cH (decide ((φ (e_5,e_6)) < 0)),cH (decide ((φ (e_5,e_6)) < 0))],[bU (bf 29 aY.ty ((R.set (a).toNat e).set (pivot).toNat e_2))]⟩ hn ?_ ?_
 exact ⟨.e,
 .e,
 .b hb_2,
 .e,
 .e,
 .e,
 .e,
 .i (T:=aY.ty) rfl he_5,
 .l (T:=aY.ty) rfl (bs he_5).2.2,
 .e,
 .e,
 .i (T:=aY.ty) rfl he_6,
 .l (T:=aY.ty) rfl (bs he_6).2.2,
 .v (cV (ins:=(fun (x:(aY × aY))=>[.sv (.agg (aY.cl x.1)), .sv (.agg (aY.cl x.2))])) (out:=(fun (r:Int)=>.sv (.one (I r)))) (dom:=dom) (φ:=φ) (e_5,e_6) hp_2 rfl),
 .e,
 .e,
 trivial⟩
 exact bZ (decide ((φ (e_5,e_6)) < 0)) h
 replace h:=h.2 hb_2
 refine da ⟨ba 12 x12 :: ba 13 (wr (b - 1)) :: (pH a dom φ Vk),[bq x12,bq (wr (b - 1)),cH false,cH false,bJ,bJ,bJ,bJ,bJ,bJ,bJ,bJ,bJ,bJ,bJ,cH false],[bU (bf 29 aY.ty ((R.set (a).toNat e).set (pivot).toNat e_2))]⟩ hn ?_ ?_
 exact ⟨.e,
 .e,
 .b hb_2,
 .e,
 .k,
 .k,
 .k,
 .k,
 .k,
 .k,
 .k,
 .k,
 .k,
 .k,
 .k,
 .e,
 trivial⟩
 exact bZ false h
 intro x47 h
 replace h:=hJ _ h
 refine bv h (fun h=>?_) (fun h=>?_)
 exact bn (bj (cn hn (wr (x12 + 1)) h))
 refine bD rfl (bi (bj (fC h (fun zz=>⟨[o5 Vk,ba 1 a,bg 4 (dv dom φ),ba 12 x12,ba 13 zz],(EG R a pivot e e_2)⟩) fun Inv_2 mu_2 x13 h=>?_)))
 refine bi ?_
 obtain ⟨J_2,h,hJ_2⟩:=h
 refine bS (σ:=Bool) (fun zz=>J_2 zz) (fun zz=>⟨[o5 Vk,ba 1 a,bg 4 (dv dom φ),ba 12 x12,ba 13 x13,bG 66 zz],(EG R a pivot e e_2)⟩) ?_ ?_
 refine cz (decide (x12 <= x13)) (fun hb_3=>?_) (fun hb_3=>?_)
 replace h:=h.1 hb_3
 obtain ⟨e_7,he_7,h⟩:=h
 obtain ⟨e_8,he_8,h⟩:=h
 obtain ⟨hp_3,h⟩:=h
 refine da ⟨ba 12 x12 :: ba 13 x13 :: (pH a dom φ Vk),[bq x12,bq x13,cH true,cH true,o1 (dv dom φ),cu 0,bq x13,o1 (.oe 0 (x13).toNat 3), .sv (.agg (aY.cl e_7)),cu 0,bq a,o1 (.oe 0 (a).toNat 3), .sv (.agg (aY.cl e_8)),bq (φ (e_7,e_8)),cH (decide ((φ (e_7,e_8)) < 0)),cH (!(decide ((φ (e_7,e_8)) < 0))),cH (!(decide ((φ (e_7,e_8)) < 0)))],[bU (bf 29 aY.ty ((R.set (a).toNat e).set (pivot).toNat e_2))]⟩ hn ?_ ?_
 exact ⟨.e,
 .e,
 .b hb_3,
 .e,
 .e,
 .e,
 .e,
 .i (T:=aY.ty) rfl he_7,
 .l (T:=aY.ty) rfl (bs he_7).2.2,
 .e,
 .e,
 .i (T:=aY.ty) rfl he_8,
 .l (T:=aY.ty) rfl (bs he_8).2.2,
 .v (cV (ins:=(fun (x:(aY × aY))=>[.sv (.agg (aY.cl x.1)), .sv (.agg (aY.cl x.2))])) (out:=(fun (r:Int)=>.sv (.one (I r)))) (dom:=dom) (φ:=φ) (e_7,e_8) hp_3 rfl),
 .e,
 .e,
 .e,
 trivial⟩
 exact bZ (!(decide ((φ (e_7,e_8)) < 0))) h
 replace h:=h.2 hb_3
 refine da ⟨ba 12 x12 :: ba 13 x13 :: (pH a dom φ Vk),[bq x12,bq x13,cH false,cH false,bJ,bJ,bJ,bJ,bJ,bJ,bJ,bJ,bJ,bJ,bJ,bJ,cH false],[bU (bf 29 aY.ty ((R.set (a).toNat e).set (pivot).toNat e_2))]⟩ hn ?_ ?_
 exact ⟨.e,
 .e,
 .b hb_3,
 .e,
 .k,
 .k,
 .k,
 .k,
 .k,
 .k,
 .k,
 .k,
 .k,
 .k,
 .k,
 .k,
 .e,
 trivial⟩
 exact bZ false h
 intro x66 h
 replace h:=hJ_2 _ h
 refine bv h (fun h=>?_) (fun h=>?_)
 exact bn (bj (cn hn (wr (x13 - 1)) h))
 refine bD rfl (bi (bk hn ?_))
 refine bv h (fun h=>?_) (fun h=>?_)
 refine bi ?_
 obtain ⟨e_9,he_9,h⟩:=h
 obtain ⟨e_10,he_10,h⟩:=h
 obtain ⟨e_11,he_11,h⟩:=h
 refine dt ⟨[o5 Vk,ba 1 a,ba 13 x13],[cu 0,bq x13,cu 0,bq a,cu 0,bq a,o1 (.oe 0 (a).toNat 3), .sv (.agg (aY.cl e_9)),cu 0,bq x13,o1 (.oe 0 (x13).toNat 3), .sv (.agg (aY.cl e_10)),o1 (.oe 0 (x13).toNat 3),bJ],[⟨bf 29 aY.ty ((R.set (a).toNat e).set (pivot).toNat e_2),none,none,some (13,bf 29 aY.ty (((R.set (a).toNat e).set (pivot).toNat e_2).set (x13).toNat e_9))⟩]⟩ 14 ⟨[o5 Vk,ba 13 x13,bx 74 0,ba 75 a,(83, .sv (.agg (aY.cl e_10)))],[bf 29 aY.ty (((R.set (a).toNat e).set (pivot).toNat e_2).set (x13).toNat e_9)]⟩ (by kernel_rfl) hn (by kernel_rfl) (by kernel_rfl) (by kernel_rfl) (by rfl) (by kernel_rfl) ?_ (by kernel_rfl) ?_
 exact ⟨.e,
 .e,
 .e,
 .e,
 .e,
 .e,
 .i (T:=aY.ty) rfl he_9,
 .l (T:=aY.ty) rfl (bs he_9).2.2,
 .e,
 .e,
 .i (T:=aY.ty) rfl he_10,
 .l (T:=aY.ty) rfl (bs he_10).2.2,
 .i (T:=aY.ty) rfl he_11,
 .mu ⟨[(79, .sv (.agg (aY.cl e_9))),bg 84 (.oe 0 (x13).toNat 3)],(EG R a pivot e e_2)⟩ 0 _ _ rfl rfl (by kernel_rfl) (by rfl) (dY (T:=aY.ty) (l:=((R.set (a).toNat e).set (pivot).toNat e_2)) (y:=e_9) ht rfl (by rfl) (by rfl) (fun _ h=>by cases h) (by rfl) (by rfl) (dd he_11) (by rfl) (by rfl) (by rfl)) rfl rfl rfl rfl rfl rfl rfl,
 trivial⟩
 obtain ⟨e_12,he_12,h⟩:=h
 refine bT hn (iO (T:=aY.ty) rfl he_12) ?_
 refine gg (T:=aY.ty) (y:=e_10) hn rfl (dd he_12) ?_
 refine bH (bp (cw ht hn 3 ⟨[o5 Vk,ba 10 x13,bG 11 true],[bf 29 aY.ty ((((R.set (a).toNat e).set (pivot).toNat e_2).set (x13).toNat e_9).set (a).toNat e_10)]⟩ ?_))
 exact cT (d4 [0] ht (x13,true,((((R.set (a).toNat e).set (pivot).toNat e_2).set (x13).toNat e_9).set (a).toNat e_10)) h (by kernel_rfl) (by rfl) rfl)
 refine bn (bi ?_)
 obtain ⟨e_13,he_13,h⟩:=h
 obtain ⟨e_14,he_14,h⟩:=h
 obtain ⟨e_15,he_15,h⟩:=h
 refine dt ⟨ba 12 x12 :: ba 13 x13 :: (pH a dom φ Vk),[cu 0,bq x12,cu 0,bq x13,cu 0,bq x13,o1 (.oe 0 (x13).toNat 3), .sv (.agg (aY.cl e_13)),cu 0,bq x12,o1 (.oe 0 (x12).toNat 3), .sv (.agg (aY.cl e_14)),o1 (.oe 0 (x12).toNat 3),bJ],[⟨bf 29 aY.ty ((R.set (a).toNat e).set (pivot).toNat e_2),none,none,some (13,bf 29 aY.ty (((R.set (a).toNat e).set (pivot).toNat e_2).set (x12).toNat e_13))⟩]⟩ 14 ⟨ba 12 x12 :: ba 13 x13 :: bx 89 0 :: ba 90 x13 :: (98, .sv (.agg (aY.cl e_14))) :: (pH a dom φ Vk),[bf 29 aY.ty (((R.set (a).toNat e).set (pivot).toNat e_2).set (x12).toNat e_13)]⟩ (by kernel_rfl) hn (by kernel_rfl) (by kernel_rfl) (by kernel_rfl) (by rfl) (by kernel_rfl) ?_ (by kernel_rfl) ?_
 exact ⟨.e,
 .e,
 .e,
 .e,
 .e,
 .e,
 .i (T:=aY.ty) rfl he_13,
 .l (T:=aY.ty) rfl (bs he_13).2.2,
 .e,
 .e,
 .i (T:=aY.ty) rfl he_14,
 .l (T:=aY.ty) rfl (bs he_14).2.2,
 .i (T:=aY.ty) rfl he_15,
 .mu ⟨[(94, .sv (.agg (aY.cl e_13))),bg 99 (.oe 0 (x12).toNat 3)],(EG R a pivot e e_2)⟩ 0 _ _ rfl rfl (by kernel_rfl) (by rfl) (dY (T:=aY.ty) (l:=((R.set (a).toNat e).set (pivot).toNat e_2)) (y:=e_13) ht rfl (by rfl) (by rfl) (fun _ h=>by cases h) (by rfl) (by rfl) (dd he_15) (by rfl) (by rfl) (by rfl)) rfl rfl rfl rfl rfl rfl rfl,
 trivial⟩
 obtain ⟨e_16,he_16,h⟩:=h
 refine bT hn (iO (T:=aY.ty) rfl he_16) ?_
 refine gg (T:=aY.ty) (y:=e_14) hn rfl (dd he_16) ?_
 refine bH (bk hn ?_)
 refine bk hn ?_
 refine bi (bj (ma h (fun zz=>⟨[o5 Vk,ba 1 a,bg 4 (dv dom φ),ba 12 zz.1,ba 13 zz.2.1],[bf 29 aY.ty zz.2.2]⟩) fun Inv_3 mu_3 x12_2 x13_2 l0 h=>?_))
 refine bj (bi (bj (fC h (fun zz=>⟨[o5 Vk,ba 1 a,bg 4 (dv dom φ),ba 12 zz,ba 13 x13_2],[bf 29 aY.ty l0]⟩) fun Inv_4 mu_4 x12_3 h=>?_)))
 refine bi ?_
 obtain ⟨J_3,h,hJ_3⟩:=h
 refine bS (σ:=Bool) (fun zz=>J_3 zz) (fun zz=>⟨[o5 Vk,ba 1 a,bg 4 (dv dom φ),ba 12 x12_3,ba 13 x13_2,bG 120 zz],[bf 29 aY.ty l0]⟩) ?_ ?_
 refine cz (decide (x12_3 <= x13_2)) (fun hb_4=>?_) (fun hb_4=>?_)
 replace h:=h.1 hb_4
 obtain ⟨e_17,he_17,h⟩:=h
 obtain ⟨e_18,he_18,h⟩:=h
 obtain ⟨hp_4,h⟩:=h
 refine da ⟨ba 12 x12_3 :: ba 13 x13_2 :: (pH a dom φ Vk),[bq x12_3,bq x13_2,cH true,cH true,o1 (dv dom φ),cu 0,bq x12_3,o1 (.oe 0 (x12_3).toNat 3), .sv (.agg (aY.cl e_17)),cu 0,bq a,o1 (.oe 0 (a).toNat 3), .sv (.agg (aY.cl e_18)),bq (φ (e_17,e_18)),cH (decide ((φ (e_17,e_18)) < 0)),cH (decide ((φ (e_17,e_18)) < 0))],[bU (bf 29 aY.ty l0)]⟩ hn ?_ ?_
 exact ⟨.e,
 .e,
 .b hb_4,
 .e,
 .e,
 .e,
 .e,
 .i (T:=aY.ty) rfl he_17,
 .l (T:=aY.ty) rfl (bs he_17).2.2,
 .e,
 .e,
 .i (T:=aY.ty) rfl he_18,
 .l (T:=aY.ty) rfl (bs he_18).2.2,
 .v (cV (ins:=(fun (x:(aY × aY))=>[.sv (.agg (aY.cl x.1)), .sv (.agg (aY.cl x.2))])) (out:=(fun (r:Int)=>.sv (.one (I r)))) (dom:=dom) (φ:=φ) (e_17,e_18) hp_4 rfl),
 .e,
 .e,
 trivial⟩
 exact bZ (decide ((φ (e_17,e_18)) < 0)) h
 replace h:=h.2 hb_4
 refine da ⟨ba 12 x12_3 :: ba 13 x13_2 :: (pH a dom φ Vk),[bq x12_3,bq x13_2,cH false,cH false,bJ,bJ,bJ,bJ,bJ,bJ,bJ,bJ,bJ,bJ,bJ,cH false],[bU (bf 29 aY.ty l0)]⟩ hn ?_ ?_
 exact ⟨.e,
 .e,
 .b hb_4,
 .e,
 .k,
 .k,
 .k,
 .k,
 .k,
 .k,
 .k,
 .k,
 .k,
 .k,
 .k,
 .e,
 trivial⟩
 exact bZ false h
 intro x120 h
 replace h:=hJ_3 _ h
 refine bv h (fun h=>?_) (fun h=>?_)
 exact bn (bj (cn hn (wr (x12_3 + 1)) h))
 refine bD rfl (bi (bj (fC h (fun zz=>⟨[o5 Vk,ba 1 a,bg 4 (dv dom φ),ba 12 x12_3,ba 13 zz],[bf 29 aY.ty l0]⟩) fun Inv_5 mu_5 x13_3 h=>?_)))
 refine bi ?_
 obtain ⟨J_4,h,hJ_4⟩:=h
 refine bS (σ:=Bool) (fun zz=>J_4 zz) (fun zz=>⟨[o5 Vk,ba 1 a,bg 4 (dv dom φ),ba 12 x12_3,ba 13 x13_3,bG 139 zz],[bf 29 aY.ty l0]⟩) ?_ ?_
 refine cz (decide (x12_3 <= x13_3)) (fun hb_5=>?_) (fun hb_5=>?_)
 replace h:=h.1 hb_5
 obtain ⟨e_19,he_19,h⟩:=h
 obtain ⟨e_20,he_20,h⟩:=h
 obtain ⟨hp_5,h⟩:=h
 refine da ⟨ba 12 x12_3 :: ba 13 x13_3 :: (pH a dom φ Vk),[bq x12_3,bq x13_3,cH true,cH true,o1 (dv dom φ),cu 0,bq x13_3,o1 (.oe 0 (x13_3).toNat 3), .sv (.agg (aY.cl e_19)),cu 0,bq a,o1 (.oe 0 (a).toNat 3), .sv (.agg (aY.cl e_20)),bq (φ (e_19,e_20)),cH (decide ((φ (e_19,e_20)) < 0)),cH (!(decide ((φ (e_19,e_20)) < 0))),cH (!(decide ((φ (e_19,e_20)) < 0)))],[bU (bf 29 aY.ty l0)]⟩ hn ?_ ?_
 exact ⟨.e,
 .e,
 .b hb_5,
 .e,
 .e,
 .e,
 .e,
 .i (T:=aY.ty) rfl he_19,
 .l (T:=aY.ty) rfl (bs he_19).2.2,
 .e,
 .e,
 .i (T:=aY.ty) rfl he_20,
 .l (T:=aY.ty) rfl (bs he_20).2.2,
 .v (cV (ins:=(fun (x:(aY × aY))=>[.sv (.agg (aY.cl x.1)), .sv (.agg (aY.cl x.2))])) (out:=(fun (r:Int)=>.sv (.one (I r)))) (dom:=dom) (φ:=φ) (e_19,e_20) hp_5 rfl),
 .e,
 .e,
 .e,
 trivial⟩
 exact bZ (!(decide ((φ (e_19,e_20)) < 0))) h
 replace h:=h.2 hb_5
 refine da ⟨ba 12 x12_3 :: ba 13 x13_3 :: (pH a dom φ Vk),[bq x12_3,bq x13_3,cH false,cH false,bJ,bJ,bJ,bJ,bJ,bJ,bJ,bJ,bJ,bJ,bJ,bJ,cH false],[bU (bf 29 aY.ty l0)]⟩ hn ?_ ?_
 exact ⟨.e,
 .e,
 .b hb_5,
 .e,
 .k,
 .k,
 .k,
 .k,
 .k,
 .k,
 .k,
 .k,
 .k,
 .k,
 .k,
 .k,
 .e,
 trivial⟩
 exact bZ false h
 intro x139 h
 replace h:=hJ_4 _ h
 refine bv h (fun h=>?_) (fun h=>?_)
 exact bn (bj (cn hn (wr (x13_3 - 1)) h))
 refine bD rfl (bi (bk hn ?_))
 refine bv h (fun h=>?_) (fun h=>?_)
 refine bD rfl (bi ?_)
 obtain ⟨e_21,he_21,h⟩:=h
 obtain ⟨e_22,he_22,h⟩:=h
 obtain ⟨e_23,he_23,h⟩:=h
 refine dt ⟨[o5 Vk,ba 1 a,ba 13 x13_3],[cu 0,bq x13_3,cu 0,bq a,cu 0,bq a,o1 (.oe 0 (a).toNat 3), .sv (.agg (aY.cl e_21)),cu 0,bq x13_3,o1 (.oe 0 (x13_3).toNat 3), .sv (.agg (aY.cl e_22)),o1 (.oe 0 (x13_3).toNat 3),bJ],[⟨bf 29 aY.ty l0,none,none,some (13,bf 29 aY.ty (l0.set (x13_3).toNat e_21))⟩]⟩ 14 ⟨[o5 Vk,ba 13 x13_3,bx 165 0,ba 166 a,(174, .sv (.agg (aY.cl e_22)))],[bf 29 aY.ty (l0.set (x13_3).toNat e_21)]⟩ (by kernel_rfl) hn (by kernel_rfl) (by kernel_rfl) (by kernel_rfl) (by rfl) (by kernel_rfl) ?_ (by kernel_rfl) ?_
 exact ⟨.e,
 .e,
 .e,
 .e,
 .e,
 .e,
 .i (T:=aY.ty) rfl he_21,
 .l (T:=aY.ty) rfl (bs he_21).2.2,
 .e,
 .e,
 .i (T:=aY.ty) rfl he_22,
 .l (T:=aY.ty) rfl (bs he_22).2.2,
 .i (T:=aY.ty) rfl he_23,
 .mu ⟨[(170, .sv (.agg (aY.cl e_21))),bg 175 (.oe 0 (x13_3).toNat 3)],[bf 29 aY.ty l0]⟩ 0 _ _ rfl rfl (by kernel_rfl) (by rfl) (dY (T:=aY.ty) (l:=l0) (y:=e_21) ht rfl (by rfl) (by rfl) (fun _ h=>by cases h) (by rfl) (by rfl) (dd he_23) (by rfl) (by rfl) (by rfl)) rfl rfl rfl rfl rfl rfl rfl,
 trivial⟩
 obtain ⟨e_24,he_24,h⟩:=h
 refine bT hn (iO (T:=aY.ty) rfl he_24) ?_
 refine gg (T:=aY.ty) (y:=e_22) hn rfl (dd he_24) ?_
 refine bH (bp (cw ht hn 3 ⟨[o5 Vk,ba 10 x13_3,bG 11 false],[bf 29 aY.ty ((l0.set (x13_3).toNat e_21).set (a).toNat e_22)]⟩ ?_))
 exact cT (d4 [0] ht (x13_3,false,((l0.set (x13_3).toNat e_21).set (a).toNat e_22)) h (by kernel_rfl) (by rfl) rfl)
 refine bn (bi ?_)
 obtain ⟨e_25,he_25,h⟩:=h
 obtain ⟨e_26,he_26,h⟩:=h
 obtain ⟨e_27,he_27,h⟩:=h
 refine dt ⟨ba 12 x12_3 :: ba 13 x13_3 :: (pH a dom φ Vk),[cu 0,bq x12_3,cu 0,bq x13_3,cu 0,bq x13_3,o1 (.oe 0 (x13_3).toNat 3), .sv (.agg (aY.cl e_25)),cu 0,bq x12_3,o1 (.oe 0 (x12_3).toNat 3), .sv (.agg (aY.cl e_26)),o1 (.oe 0 (x12_3).toNat 3),bJ],[⟨bf 29 aY.ty l0,none,none,some (13,bf 29 aY.ty (l0.set (x12_3).toNat e_25))⟩]⟩ 14 ⟨ba 12 x12_3 :: ba 13 x13_3 :: bx 147 0 :: ba 148 x13_3 :: (156, .sv (.agg (aY.cl e_26))) :: (pH a dom φ Vk),[bf 29 aY.ty (l0.set (x12_3).toNat e_25)]⟩ (by kernel_rfl) hn (by kernel_rfl) (by kernel_rfl) (by kernel_rfl) (by rfl) (by kernel_rfl) ?_ (by kernel_rfl) ?_
 exact ⟨.e,
 .e,
 .e,
 .e,
 .e,
 .e,
 .i (T:=aY.ty) rfl he_25,
 .l (T:=aY.ty) rfl (bs he_25).2.2,
 .e,
 .e,
 .i (T:=aY.ty) rfl he_26,
 .l (T:=aY.ty) rfl (bs he_26).2.2,
 .i (T:=aY.ty) rfl he_27,
 .mu ⟨[(152, .sv (.agg (aY.cl e_25))),bg 157 (.oe 0 (x12_3).toNat 3)],[bf 29 aY.ty l0]⟩ 0 _ _ rfl rfl (by kernel_rfl) (by rfl) (dY (T:=aY.ty) (l:=l0) (y:=e_25) ht rfl (by rfl) (by rfl) (fun _ h=>by cases h) (by rfl) (by rfl) (dd he_27) (by rfl) (by rfl) (by rfl)) rfl rfl rfl rfl rfl rfl rfl,
 trivial⟩
 obtain ⟨e_28,he_28,h⟩:=h
 refine bT hn (iO (T:=aY.ty) rfl he_28) ?_
 refine gg (T:=aY.ty) (y:=e_26) hn rfl (dd he_28) ?_
 refine bH (bk hn ?_)
 exact cn hn ((wr (x12_3 + 1)),(wr (x13_3 - 1)),((l0.set (x12_3).toNat e_25).set (x13_3).toNat e_26)) h
theorem MY : ∀ args w,(callFunc 94 args).run Tryz.prog w=.ok (.enter 94 args) w:=enters_of Tryz.func94 (by kernel_rfl) rfl
theorem Jb (R:List aY) (a:Int) (b:Int) (pivot:Int) (dom:((aY × aY) -> Prop)) (φ:((aY × aY) -> Int)) (hp:pt dom φ R a b pivot)  : tx R a b pivot dom φ (Ii φ R a b):=by
 obtain ⟨⟨hd,ho,ha,hab,hbl,hlen⟩,hpv1,hpv2⟩:=hp
 obtain ⟨A,rfl⟩:∃ A:Nat,a=A:=⟨a.toNat,by omega⟩
 obtain ⟨B,rfl⟩:∃ B:Nat,b=B:=⟨b.toNat,by omega⟩
 obtain ⟨P,rfl⟩:∃ P:Nat,pivot=P:=⟨pivot.toNat,by omega⟩
 unfold tx
 have wb:wr ((B:Int) - 1)=(B:Int) - 1:=bL (by omega) (by omega)
 have wa:wr ((A:Int) + 1)=((A + 1:Nat):Int):=by rw [bL (by omega) (by omega)]; omega
 rw [wb,wa]
 refine ⟨_,bB (by omega) (by omega),_,bB (by omega) (by omega),_,bB (by omega) (by omega),_,bB (by omega) (by rw [cK]; omega),?_⟩
 simp only [bE]
 obtain ⟨l1,hl1⟩:∃ l1,l1=sw R A P:=⟨_,rfl⟩
 rw [show (R.set A (gx R P)).set P (gx R A)=l1 by rw [hl1]; rfl]
 have hs1:dW A B R l1:=by rw [hl1]; exact gM ⟨bP _,by omega⟩ ⟨by omega,by omega⟩ (by omega)
 have hln:l1.length=R.length:=hs1.len
 clear hl1
 have h0:PI φ R A B (gx l1 A) l1 (A + 1) B:=⟨hs1,rfl,bP _,by omega,bP _,fun k k1 k2=>by omega,fun k k1 k2=>by omega⟩
 have wi:∀ i:Nat,i <= B -> wr ((i:Int) + 1)=((i + 1:Nat):Int):=fun i hi=>by rw [bL (by omega) (by omega)]; omega
 have wj:∀ j:Nat,1 <= j -> j <= B -> wr ((j:Int) - 1 - 1)=((j - 1:Nat):Int) - 1:=fun j h1 h2=>by rw [bL (by omega) (by omega)]; omega
 have ej:∀ j:Nat,1 <= j -> ((j:Int) - 1).toNat=j - 1:=fun j h1=>by omega
 refine ⟨fun x=>∃ i:Nat,x=i /\ PI φ R A B (gx l1 A) l1 i B,fun x=>B - x.toNat,⟨A + 1,rfl,h0⟩,?_⟩
 rintro x ⟨i,rfl,hI⟩
 have q1:=hI.lo
 have q2:=hI.ij
 refine ⟨fun b'=>(b'=true -> i < B /\ φ (gx l1 i,gx l1 A) < 0) /\ (b'=false -> i < B -> le φ (gx l1 A) (gx l1 i)),⟨fun hc=>?_,fun hc=>?_⟩,?_⟩
 ·have hc:=ca hc
  refine ⟨_,bB (by omega) (by omega),_,bB (by omega) (by omega),hd _,fun e=>⟨by omega,ca e⟩,fun e _=>cx e⟩
 ·have hc:=cx hc
  exact ⟨fun e=>(by cases e),fun _ h=>by omega⟩
 rintro b' ⟨g1,g2⟩
 refine ⟨fun e=>?_,fun e=>?_⟩
 ·obtain ⟨k1,k2⟩:=g1 e
  rw [wi i (by omega)]
  exact ⟨⟨i + 1,rfl,hI.up k1 k2⟩,by show B - ((i + 1:Nat):Int).toNat < B - (i:Int).toNat; omega⟩
 have gi:=g2 e
 clear g1 g2
 refine ⟨fun y=>∃ j:Nat,y=(j:Int) - 1 /\ PI φ R A B (gx l1 A) l1 i j,fun y=>(y + 1).toNat,⟨B,rfl,hI⟩,?_⟩
 rintro y ⟨j,rfl,hJ⟩
 have r1:=hJ.ij
 have r2:=hJ.hi
 refine ⟨fun b'=>(b'=true -> i < j /\ le φ (gx l1 A) (gx l1 (j - 1))) /\ (b'=false -> i < j -> φ (gx l1 (j - 1),gx l1 A) < 0),⟨fun hc=>?_,fun hc=>?_⟩,?_⟩
 ·have hc:=ca hc
  refine ⟨_,bB (by omega) (by omega),_,bB (by omega) (by omega),hd _,?_⟩
  rw [ej j (by omega),bE]
  refine ⟨fun e=>⟨by omega,?_⟩,fun e _=>?_⟩
  ·exact cx (by simpa using e:decide (φ (gx l1 (j - 1),gx l1 A) < 0)=false)
  ·exact ca (by simpa using e:decide (φ (gx l1 (j - 1),gx l1 A) < 0)=true)
 ·have hc:=cx hc
  exact ⟨fun e=>(by cases e),fun _ h=>by omega⟩
 rintro b' ⟨g1,g2⟩
 refine ⟨fun e=>?_,fun e=>?_⟩
 ·obtain ⟨k1,k2⟩:=g1 e
  rw [wj j (by omega) (by omega)]
  exact ⟨⟨j - 1,rfl,hJ.down k1 k2⟩,by show (((j - 1:Nat):Int) - 1 + 1).toNat < ((j:Int) - 1 + 1).toNat; omega⟩
 have gj:=g2 e
 clear g1 g2
 refine ⟨fun e2=>?_,fun e2=>?_⟩
 ·have e2:=ca e2
  refine ⟨_,bB (by omega) (by omega),_,bB (by omega) (by omega),_,bB (by omega) (by omega),_,bB (by omega) (by rw [cK]; omega),?_⟩
  rw [ej j (by omega),bE]
  exact hJ.fin ho (by omega) (by omega)
 have e2:=cx e2
 refine ⟨_,bB (by omega) (by omega),_,bB (by omega) (by omega),_,bB (by omega) (by omega),_,bB (by omega) (by rw [cK]; omega),?_⟩
 rw [ej j (by omega),bE,wi i (by omega),wj j (by omega) (by omega)]
 obtain ⟨pv,hpv⟩:∃ pv,pv=gx l1 A:=⟨_,rfl⟩
 have hN:=hJ.step (by omega) (by omega) (gi (by omega)) (gj (by omega))
 rw [<- hpv] at hN
 refine ⟨fun x y l=>∃ i j:Nat,x=i /\ y=(j:Int) - 1 /\ PI φ R A B pv l i j,fun x y _=>(y + 1).toNat - x.toNat,⟨i + 1,j - 1,rfl,rfl,hN⟩,?_⟩
 clear hN gi gj e2 hJ hI r1 r2 q1 q2 h0 e hpv
 rintro x y l ⟨i0,j0,rfl,rfl,h0⟩
 have hll:l.length=R.length:=h0.seg.len
 have s1:=h0.lo
 have s2:=h0.ij
 have s3:=h0.hi
 have htop:=h0.top
 refine ⟨fun x=>∃ i:Nat,x=i /\ i0 <= i /\ PI φ R A B pv l i j0,fun x=>B - x.toNat,⟨i0,rfl,bP _,h0⟩,?_⟩
 rintro x ⟨i,rfl,hi0,hI⟩
 have q1:=hI.lo
 have q2:=hI.ij
 refine ⟨fun b'=>(b'=true -> i < j0 /\ φ (gx l i,pv) < 0) /\ (b'=false -> i < j0 -> le φ pv (gx l i)),⟨fun hc=>?_,fun hc=>?_⟩,?_⟩
 ·have hc:=ca hc
  refine ⟨_,bB (by omega) (by omega),_,bB (by omega) (by omega),hd _,?_⟩
  rw [bE,bE,htop]
  exact ⟨fun e=>⟨by omega,ca e⟩,fun e _=>cx e⟩
 ·have hc:=cx hc
  exact ⟨fun e=>(by cases e),fun _ h=>by omega⟩
 rintro b' ⟨g1,g2⟩
 refine ⟨fun e=>?_,fun e=>?_⟩
 ·obtain ⟨k1,k2⟩:=g1 e
  rw [wi i (by omega)]
  exact ⟨⟨i + 1,rfl,by omega,hI.up k1 k2⟩,by show B - ((i + 1:Nat):Int).toNat < B - (i:Int).toNat; omega⟩
 have gi:=g2 e
 clear g1 g2
 refine ⟨fun y=>∃ j:Nat,y=(j:Int) - 1 /\ j <= j0 /\ PI φ R A B pv l i j,fun y=>(y + 1).toNat,⟨j0,rfl,bP _,hI⟩,?_⟩
 rintro y ⟨j,rfl,hj0,hJ⟩
 have r1:=hJ.ij
 have r2:=hJ.hi
 refine ⟨fun b'=>(b'=true -> i < j /\ le φ pv (gx l (j - 1))) /\ (b'=false -> i < j -> φ (gx l (j - 1),pv) < 0),⟨fun hc=>?_,fun hc=>?_⟩,?_⟩
 ·have hc:=ca hc
  refine ⟨_,bB (by omega) (by omega),_,bB (by omega) (by omega),hd _,?_⟩
  rw [ej j (by omega),bE,htop]
  refine ⟨fun e=>⟨by omega,?_⟩,fun e _=>?_⟩
  ·exact cx (by simpa using e:decide (φ (gx l (j - 1),pv) < 0)=false)
  ·exact ca (by simpa using e:decide (φ (gx l (j - 1),pv) < 0)=true)
 ·have hc:=cx hc
  exact ⟨fun e=>(by cases e),fun _ h=>by omega⟩
 rintro b' ⟨g1,g2⟩
 refine ⟨fun e=>?_,fun e=>?_⟩
 ·obtain ⟨k1,k2⟩:=g1 e
  rw [wj j (by omega) (by omega)]
  exact ⟨⟨j - 1,rfl,by omega,hJ.down k1 k2⟩,by show (((j - 1:Nat):Int) - 1 + 1).toNat < ((j:Int) - 1 + 1).toNat; omega⟩
 have gj:=g2 e
 clear g1 g2
 refine ⟨fun e2=>?_,fun e2=>?_⟩
 ·have e2:=ca e2
  refine ⟨_,bB (by omega) (by omega),_,bB (by omega) (by omega),_,bB (by omega) (by omega),_,bB (by omega) (by rw [cK]; omega),?_⟩
  rw [ej j (by omega),bE]
  exact hJ.fin ho (by omega) (by omega)
 have e2:=cx e2
 refine ⟨_,bB (by omega) (by omega),_,bB (by omega) (by omega),_,bB (by omega) (by omega),_,bB (by omega) (by rw [cK]; omega),?_⟩
 rw [ej j (by omega),bE,wi i (by omega),wj j (by omega) (by omega)]
 refine ⟨⟨i + 1,j - 1,rfl,rfl,hJ.step (by omega) (by omega) (gi (by omega)) (gj (by omega))⟩,?_⟩
 show (((j - 1:Nat):Int) - 1 + 1).toNat - ((i + 1:Nat):Int).toNat < ((j0:Int) - 1 + 1).toNat - (i0:Int).toNat
 omega
theorem Jc (R:List aY) (a:Int) (b:Int) (pivot:Int) (dom:((aY × aY) -> Prop)) (φ:((aY × aY) -> Int)) (hp:pt dom φ R a b pivot)  : fj 94 [.sv (.one (.own 0)), .sv (.one (I a)), .sv (.one (I b)), .sv (.one (I pivot)), .sv (.one (dv dom φ))] [bf 29 aY.ty R] [0] (Ii φ R a b) (fun (r:Int × Bool × (List aY))=>.tup [.one (I r.1), .one (B r.2.1)]) (fun (r:Int × Bool × (List aY))=>[bf 29 aY.ty r.2.2]):=Ej R a b pivot dom φ _ (Jb R a b pivot dom φ hp)
def tv (R:List aY) (a:Int) (b:Int) (pivot:Int) (dom:((aY × aY) -> Prop)) (φ:((aY × aY) -> Int)) (Q:Int × (List aY) -> Prop):Prop:=
 ∃ e,cq R pivot=some e /\
 ∃ e_2,cq R a=some e_2 /\
 ∃ e_3,cq R a=some e_3 /\
 ∃ e_4,cq (R.set (a).toNat e) pivot=some e_4 /\
 ∃ (Inv:Int -> Int -> (List aY) -> Prop) (mu:Int -> Int -> (List aY) -> Nat),Inv (wr (a + 1)) (wr (b - 1)) ((R.set (a).toNat e).set (pivot).toNat e_2) /\
 ∀ x11 x12 l0,Inv x11 x12 l0 -> (∃ (Inv_2:Int -> Prop) (mu_2:Int -> Nat),Inv_2 x11 /\
 ∀ x11_2,Inv_2 x11_2 -> (∃ J:Bool -> Prop,(cv (decide (x11_2 <= x12)) (∃ e_5,cq l0 a=some e_5 /\
 ∃ e_6,cq l0 x11_2=some e_6 /\
 (dom (e_5,e_6)) /\
 J (!(decide ((φ (e_5,e_6)) < 0)))) (J false)) /\
 (∀ x47,J x47 -> cv x47 ((Inv_2 (wr (x11_2 + 1)) /\ mu_2 (wr (x11_2 + 1)) < mu_2 x11_2)) (∃ (Inv_3:Int -> Prop) (mu_3:Int -> Nat),Inv_3 x12 /\
 ∀ x12_2,Inv_3 x12_2 -> (∃ J_2:Bool -> Prop,(cv (decide (x11_2 <= x12_2)) (∃ e_7,cq l0 a=some e_7 /\
 ∃ e_8,cq l0 x12_2=some e_8 /\
 (dom (e_7,e_8)) /\
 J_2 (decide ((φ (e_7,e_8)) < 0))) (J_2 false)) /\
 (∀ x65,J_2 x65 -> cv x65 ((Inv_3 (wr (x12_2 - 1)) /\ mu_3 (wr (x12_2 - 1)) < mu_3 x12_2)) (cv (decide (x11_2 > x12_2)) (Q (x11_2,l0)) (∃ e_9,cq l0 x12_2=some e_9 /\
 ∃ e_10,cq l0 x11_2=some e_10 /\
 ∃ e_11,cq l0 x11_2=some e_11 /\
 ∃ e_12,cq (l0.set (x11_2).toNat e_9) x12_2=some e_12 /\
 (Inv (wr (x11_2 + 1)) (wr (x12_2 - 1)) ((l0.set (x11_2).toNat e_9).set (x12_2).toNat e_10) /\ mu (wr (x11_2 + 1)) (wr (x12_2 - 1)) ((l0.set (x11_2).toNat e_9).set (x12_2).toNat e_10) < mu x11 x12 l0)))))))))
abbrev Am (a:Int) (dom:((aY × aY) -> Prop)) (φ:((aY × aY) -> Int)) (y0:Nat -> Value):=([bg 0 (.pown 0 (y0 0)),bg 1 (I a),bg 4 (dv dom φ)]:List (Nat × SC))
theorem Eh (R:List aY) (a:Int) (b:Int) (pivot:Int) (dom:((aY × aY) -> Prop)) (φ:((aY × aY) -> Int)) (Q:Int × (List aY) -> Prop) (h:tv R a b pivot dom φ Q):fj 93 [.sv (.one (.own 0)), .sv (.one (I a)), .sv (.one (I b)), .sv (.one (I pivot)), .sv (.one (dv dom φ))] [bf 29 aY.ty R] [0] Q (fun (r:Int × (List aY))=>.sv (.one (I r.1))) (fun (r:Int × (List aY))=>[bf 29 aY.ty r.2]):=by
 have ht:=bA
 refine eZ Tryz.func93 rfl rfl rfl (by kernel_rfl) (fun c Vk hn=>?_)
 unfold tv at h
 refine bk hn ?_
 refine bi ?_
 obtain ⟨e,he,h⟩:=h
 obtain ⟨e_2,he_2,h⟩:=h
 obtain ⟨e_3,he_3,h⟩:=h
 refine dt ⟨ba 2 b :: ba 3 pivot :: (Am a dom φ Vk),[cu 0,bq a,cu 0,bq pivot,cu 0,bq pivot,o1 (.oe 0 (pivot).toNat 3), .sv (.agg (aY.cl e)),cu 0,bq a,o1 (.oe 0 (a).toNat 3), .sv (.agg (aY.cl e_2)),o1 (.oe 0 (a).toNat 3),bJ],[⟨bf 29 aY.ty R,none,none,some (13,bf 29 aY.ty (R.set (a).toNat e))⟩]⟩ 14 ⟨ba 2 b :: bx 15 0 :: ba 16 pivot :: (24, .sv (.agg (aY.cl e_2))) :: (Am a dom φ Vk),[bf 29 aY.ty (R.set (a).toNat e)]⟩ (by kernel_rfl) hn (by kernel_rfl) (by kernel_rfl) (by kernel_rfl) (by rfl) (by kernel_rfl) ?_ (by kernel_rfl) ?_
 exact ⟨.e,
 .e,
 .e,
 .e,
 .e,
 .e,
 .i (T:=aY.ty) rfl he,
 .l (T:=aY.ty) rfl (bs he).2.2,
 .e,
 .e,
 .i (T:=aY.ty) rfl he_2,
 .l (T:=aY.ty) rfl (bs he_2).2.2,
 .i (T:=aY.ty) rfl he_3,
 .mu ⟨[(20, .sv (.agg (aY.cl e))),bg 25 (.oe 0 (a).toNat 3)],[bf 29 aY.ty R]⟩ 0 _ _ rfl rfl (by kernel_rfl) (by rfl) (dY (T:=aY.ty) (l:=R) (y:=e) ht rfl (by rfl) (by rfl) (fun _ h=>by cases h) (by rfl) (by rfl) (dd he_3) (by rfl) (by rfl) (by rfl)) rfl rfl rfl rfl rfl rfl rfl,
 trivial⟩
 obtain ⟨e_4,he_4,h⟩:=h
 refine bT hn (iO (T:=aY.ty) rfl he_4) ?_
 refine gg (T:=aY.ty) (y:=e_2) hn rfl (dd he_4) ?_
 refine bH (bk hn ?_)
 refine bi (bj (ma h (fun zz=>⟨[bg 0 (.pown 0 (Vk 0)),ba 1 a,bg 4 (dv dom φ),ba 11 zz.1,ba 12 zz.2.1],[bf 29 aY.ty zz.2.2]⟩) fun Inv mu x11 x12 l0 h=>?_))
 refine bj (bi (bj (fC h (fun zz=>⟨[bg 0 (.pown 0 (Vk 0)),ba 1 a,bg 4 (dv dom φ),ba 11 zz,ba 12 x12],[bf 29 aY.ty l0]⟩) fun Inv_2 mu_2 x11_2 h=>?_)))
 refine bi ?_
 obtain ⟨J,h,hJ⟩:=h
 refine bS (σ:=Bool) (fun zz=>J zz) (fun zz=>⟨[bg 0 (.pown 0 (Vk 0)),ba 1 a,bg 4 (dv dom φ),ba 11 x11_2,ba 12 x12,bG 47 zz],[bf 29 aY.ty l0]⟩) ?_ ?_
 refine cz (decide (x11_2 <= x12)) (fun hb_2=>?_) (fun hb_2=>?_)
 replace h:=h.1 hb_2
 obtain ⟨e_5,he_5,h⟩:=h
 obtain ⟨e_6,he_6,h⟩:=h
 obtain ⟨hp_2,h⟩:=h
 refine da ⟨ba 11 x11_2 :: ba 12 x12 :: (Am a dom φ Vk),[bq x11_2,bq x12,cH true,cH true,o1 (dv dom φ),cu 0,bq a,o1 (.oe 0 (a).toNat 3), .sv (.agg (aY.cl e_5)),cu 0,bq x11_2,o1 (.oe 0 (x11_2).toNat 3), .sv (.agg (aY.cl e_6)),bq (φ (e_5,e_6)),cH (decide ((φ (e_5,e_6)) < 0)),cH (!(decide ((φ (e_5,e_6)) < 0))),cH (!(decide ((φ (e_5,e_6)) < 0)))],[bU (bf 29 aY.ty l0)]⟩ hn ?_ ?_
 exact ⟨.e,
 .e,
 .b hb_2,
 .e,
 .e,
 .e,
 .e,
 .i (T:=aY.ty) rfl he_5,
 .l (T:=aY.ty) rfl (bs he_5).2.2,
 .e,
 .e,
 .i (T:=aY.ty) rfl he_6,
 .l (T:=aY.ty) rfl (bs he_6).2.2,
 .v (cV (ins:=(fun (x:(aY × aY))=>[.sv (.agg (aY.cl x.1)), .sv (.agg (aY.cl x.2))])) (out:=(fun (r:Int)=>.sv (.one (I r)))) (dom:=dom) (φ:=φ) (e_5,e_6) hp_2 rfl),
 .e,
 .e,
 .e,
 trivial⟩
 exact bZ (!(decide ((φ (e_5,e_6)) < 0))) h
 replace h:=h.2 hb_2
 refine da ⟨ba 11 x11_2 :: ba 12 x12 :: (Am a dom φ Vk),[bq x11_2,bq x12,cH false,cH false,bJ,bJ,bJ,bJ,bJ,bJ,bJ,bJ,bJ,bJ,bJ,bJ,cH false],[bU (bf 29 aY.ty l0)]⟩ hn ?_ ?_
 exact ⟨.e,
 .e,
 .b hb_2,
 .e,
 .k,
 .k,
 .k,
 .k,
 .k,
 .k,
 .k,
 .k,
 .k,
 .k,
 .k,
 .k,
 .e,
 trivial⟩
 exact bZ false h
 intro x47 h
 replace h:=hJ _ h
 refine bv h (fun h=>?_) (fun h=>?_)
 exact bn (bj (cn hn (wr (x11_2 + 1)) h))
 refine bD rfl (bi (bj (fC h (fun zz=>⟨[bg 0 (.pown 0 (Vk 0)),ba 1 a,bg 4 (dv dom φ),ba 11 x11_2,ba 12 zz],[bf 29 aY.ty l0]⟩) fun Inv_3 mu_3 x12_2 h=>?_)))
 refine bi ?_
 obtain ⟨J_2,h,hJ_2⟩:=h
 refine bS (σ:=Bool) (fun zz=>J_2 zz) (fun zz=>⟨[bg 0 (.pown 0 (Vk 0)),ba 1 a,bg 4 (dv dom φ),ba 11 x11_2,ba 12 x12_2,bG 65 zz],[bf 29 aY.ty l0]⟩) ?_ ?_
 refine cz (decide (x11_2 <= x12_2)) (fun hb_3=>?_) (fun hb_3=>?_)
 replace h:=h.1 hb_3
 obtain ⟨e_7,he_7,h⟩:=h
 obtain ⟨e_8,he_8,h⟩:=h
 obtain ⟨hp_3,h⟩:=h
 refine da ⟨ba 11 x11_2 :: ba 12 x12_2 :: (Am a dom φ Vk),[bq x11_2,bq x12_2,cH true,cH true,o1 (dv dom φ),cu 0,bq a,o1 (.oe 0 (a).toNat 3), .sv (.agg (aY.cl e_7)),cu 0,bq x12_2,o1 (.oe 0 (x12_2).toNat 3), .sv (.agg (aY.cl e_8)),bq (φ (e_7,e_8)),cH (decide ((φ (e_7,e_8)) < 0)),cH (decide ((φ (e_7,e_8)) < 0))],[bU (bf 29 aY.ty l0)]⟩ hn ?_ ?_
 exact ⟨.e,
 .e,
 .b hb_3,
 .e,
 .e,
 .e,
 .e,
 .i (T:=aY.ty) rfl he_7,
 .l (T:=aY.ty) rfl (bs he_7).2.2,
 .e,
 .e,
 .i (T:=aY.ty) rfl he_8,
 .l (T:=aY.ty) rfl (bs he_8).2.2,
 .v (cV (ins:=(fun (x:(aY × aY))=>[.sv (.agg (aY.cl x.1)), .sv (.agg (aY.cl x.2))])) (out:=(fun (r:Int)=>.sv (.one (I r)))) (dom:=dom) (φ:=φ) (e_7,e_8) hp_3 rfl),
 .e,
 .e,
 trivial⟩
 exact bZ (decide ((φ (e_7,e_8)) < 0)) h
 replace h:=h.2 hb_3
 refine da ⟨ba 11 x11_2 :: ba 12 x12_2 :: (Am a dom φ Vk),[bq x11_2,bq x12_2,cH false,cH false,bJ,bJ,bJ,bJ,bJ,bJ,bJ,bJ,bJ,bJ,bJ,cH false],[bU (bf 29 aY.ty l0)]⟩ hn ?_ ?_
 exact ⟨.e,
 .e,
 .b hb_3,
 .e,
 .k,
 .k,
 .k,
 .k,
 .k,
 .k,
 .k,
 .k,
 .k,
 .k,
 .k,
 .e,
 trivial⟩
 exact bZ false h
 intro x65 h
 replace h:=hJ_2 _ h
 refine bv h (fun h=>?_) (fun h=>?_)
 exact bn (bj (cn hn (wr (x12_2 - 1)) h))
 refine bD rfl (bi (bk hn ?_))
 refine bv h (fun h=>?_) (fun h=>?_)
 refine bD rfl (bp (cw ht hn 2 ⟨[bg 0 (.pown 0 (Vk 0)),ba 10 x11_2],[bf 29 aY.ty l0]⟩ ?_))
 exact cT (d4 [0] ht (x11_2,l0) h (by kernel_rfl) (by rfl) rfl)
 refine bn (bi ?_)
 obtain ⟨e_9,he_9,h⟩:=h
 obtain ⟨e_10,he_10,h⟩:=h
 obtain ⟨e_11,he_11,h⟩:=h
 refine dt ⟨ba 11 x11_2 :: ba 12 x12_2 :: (Am a dom φ Vk),[cu 0,bq x11_2,cu 0,bq x12_2,cu 0,bq x12_2,o1 (.oe 0 (x12_2).toNat 3), .sv (.agg (aY.cl e_9)),cu 0,bq x11_2,o1 (.oe 0 (x11_2).toNat 3), .sv (.agg (aY.cl e_10)),o1 (.oe 0 (x11_2).toNat 3),bJ],[⟨bf 29 aY.ty l0,none,none,some (13,bf 29 aY.ty (l0.set (x11_2).toNat e_9))⟩]⟩ 14 ⟨ba 11 x11_2 :: ba 12 x12_2 :: bx 73 0 :: ba 74 x12_2 :: (82, .sv (.agg (aY.cl e_10))) :: (Am a dom φ Vk),[bf 29 aY.ty (l0.set (x11_2).toNat e_9)]⟩ (by kernel_rfl) hn (by kernel_rfl) (by kernel_rfl) (by kernel_rfl) (by rfl) (by kernel_rfl) ?_ (by kernel_rfl) ?_
 exact ⟨.e,
 .e,
 .e,
 .e,
 .e,
 .e,
 .i (T:=aY.ty) rfl he_9,
 .l (T:=aY.ty) rfl (bs he_9).2.2,
 .e,
 .e,
 .i (T:=aY.ty) rfl he_10,
 .l (T:=aY.ty) rfl (bs he_10).2.2,
 .i (T:=aY.ty) rfl he_11,
 .mu ⟨[(78, .sv (.agg (aY.cl e_9))),bg 83 (.oe 0 (x11_2).toNat 3)],[bf 29 aY.ty l0]⟩ 0 _ _ rfl rfl (by kernel_rfl) (by rfl) (dY (T:=aY.ty) (l:=l0) (y:=e_9) ht rfl (by rfl) (by rfl) (fun _ h=>by cases h) (by rfl) (by rfl) (dd he_11) (by rfl) (by rfl) (by rfl)) rfl rfl rfl rfl rfl rfl rfl,
 trivial⟩
 obtain ⟨e_12,he_12,h⟩:=h
 refine bT hn (iO (T:=aY.ty) rfl he_12) ?_
 refine gg (T:=aY.ty) (y:=e_10) hn rfl (dd he_12) ?_
 refine bH (bk hn ?_)
 exact cn hn ((wr (x11_2 + 1)),(wr (x12_2 - 1)),((l0.set (x11_2).toNat e_9).set (x12_2).toNat e_10)) h
theorem MZ : ∀ args w,(callFunc 93 args).run Tryz.prog w=.ok (.enter 93 args) w:=enters_of Tryz.func93 (by kernel_rfl) rfl
theorem I7 (R:List aY) (a:Int) (b:Int) (pivot:Int) (dom:((aY × aY) -> Prop)) (φ:((aY × aY) -> Int)) (hp:pt dom φ R a b pivot)  : tv R a b pivot dom φ (Ku φ R a b pivot):=by
 obtain ⟨⟨hd,ho,ha,hab,hbl,hlen⟩,hpv1,hpv2⟩:=hp
 obtain ⟨A,rfl⟩:∃ A:Nat,a=A:=⟨a.toNat,by omega⟩
 obtain ⟨B,rfl⟩:∃ B:Nat,b=B:=⟨b.toNat,by omega⟩
 obtain ⟨P,rfl⟩:∃ P:Nat,pivot=P:=⟨pivot.toNat,by omega⟩
 unfold tv
 have wb:wr ((B:Int) - 1)=(B:Int) - 1:=bL (by omega) (by omega)
 have wa:wr ((A:Int) + 1)=((A + 1:Nat):Int):=by rw [bL (by omega) (by omega)]; omega
 rw [wb,wa]
 refine ⟨_,bB (by omega) (by omega),_,bB (by omega) (by omega),_,bB (by omega) (by omega),_,bB (by omega) (by rw [cK]; omega),?_⟩
 simp only [bE]
 obtain ⟨pv,hpv⟩:∃ pv,pv=gx R P:=⟨_,rfl⟩
 have hs1:dW A B R (sw R A P):=gM ⟨bP _,by omega⟩ ⟨by omega,by omega⟩ (by omega)
 have htp:gx (sw R A P) A=pv:=by
  rw [fB (by omega) (by omega),hpv]
  split
  ·rename_i c
   rw [c]
  ·rw [if_pos rfl]
 have h0:PE φ R A B pv (sw R A P) (A + 1) B:=⟨hs1,htp,bP _,by omega,bP _,fun k k1 k2=>by
  obtain rfl:k=A:=by omega
  rw [htp]
  exact ho.refl _,fun k k1 k2=>by omega⟩
 have wi:∀ i:Nat,i <= B -> wr ((i:Int) + 1)=((i + 1:Nat):Int):=fun i hi=>by rw [bL (by omega) (by omega)]; omega
 have wj:∀ j:Nat,1 <= j -> j <= B -> wr ((j:Int) - 1 - 1)=((j - 1:Nat):Int) - 1:=fun j h1 h2=>by rw [bL (by omega) (by omega)]; omega
 have ej:∀ j:Nat,1 <= j -> ((j:Int) - 1).toNat=j - 1:=fun j h1=>by omega
 refine ⟨fun x y l=>∃ i j:Nat,x=i /\ y=(j:Int) - 1 /\ PE φ R A B pv l i j,fun x y _=>(y + 1).toNat - x.toNat,⟨A + 1,B,rfl,rfl,h0⟩,?_⟩
 clear h0 hs1 htp
 rintro x y l ⟨i0,j0,rfl,rfl,h0⟩
 have hll:l.length=R.length:=h0.seg.len
 have s1:=h0.lo
 have s2:=h0.ij
 have s3:=h0.hi
 have htop:=h0.top
 refine ⟨fun x=>∃ i:Nat,x=i /\ i0 <= i /\ PE φ R A B pv l i j0,fun x=>B - x.toNat,⟨i0,rfl,bP _,h0⟩,?_⟩
 rintro x ⟨i,rfl,hi0,hI⟩
 have q1:=hI.lo
 have q2:=hI.ij
 refine ⟨fun b'=>(b'=true -> i < j0 /\ le φ (gx l i) pv) /\ (b'=false -> i < j0 -> φ (pv,gx l i) < 0),⟨fun hc=>?_,fun hc=>?_⟩,?_⟩
 ·have hc:=ca hc
  refine ⟨_,bB (by omega) (by omega),_,bB (by omega) (by omega),hd _,?_⟩
  rw [bE,bE,htop]
  refine ⟨fun e=>⟨by omega,?_⟩,fun e _=>?_⟩
  ·exact cx (by simpa using e:decide (φ (pv,gx l i) < 0)=false)
  ·exact ca (by simpa using e:decide (φ (pv,gx l i) < 0)=true)
 ·have hc:=cx hc
  exact ⟨fun e=>(by cases e),fun _ h=>by omega⟩
 rintro b' ⟨g1,g2⟩
 refine ⟨fun e=>?_,fun e=>?_⟩
 ·obtain ⟨k1,k2⟩:=g1 e
  rw [wi i (by omega)]
  exact ⟨⟨i + 1,rfl,by omega,hI.up k1 k2⟩,by show B - ((i + 1:Nat):Int).toNat < B - (i:Int).toNat; omega⟩
 have gi:=g2 e
 clear g1 g2
 refine ⟨fun y=>∃ j:Nat,y=(j:Int) - 1 /\ j <= j0 /\ PE φ R A B pv l i j,fun y=>(y + 1).toNat,⟨j0,rfl,bP _,hI⟩,?_⟩
 rintro y ⟨j,rfl,hj0,hJ⟩
 have r1:=hJ.ij
 have r2:=hJ.hi
 refine ⟨fun b'=>(b'=true -> i < j /\ φ (pv,gx l (j - 1)) < 0) /\ (b'=false -> i < j -> le φ (gx l (j - 1)) pv),⟨fun hc=>?_,fun hc=>?_⟩,?_⟩
 ·have hc:=ca hc
  refine ⟨_,bB (by omega) (by omega),_,bB (by omega) (by omega),hd _,?_⟩
  rw [ej j (by omega),bE,htop]
  exact ⟨fun e=>⟨by omega,ca e⟩,fun e _=>cx e⟩
 ·have hc:=cx hc
  exact ⟨fun e=>(by cases e),fun _ h=>by omega⟩
 rintro b' ⟨g1,g2⟩
 refine ⟨fun e=>?_,fun e=>?_⟩
 ·obtain ⟨k1,k2⟩:=g1 e
  rw [wj j (by omega) (by omega)]
  exact ⟨⟨j - 1,rfl,by omega,hJ.down k1 k2⟩,by show (((j - 1:Nat):Int) - 1 + 1).toNat < ((j:Int) - 1 + 1).toNat; omega⟩
 have gj:=g2 e
 clear g1 g2
 refine ⟨fun e2=>?_,fun e2=>?_⟩
 ·have e2:=ca e2
  have e3:i=j:=by omega
  refine ⟨⟨by show (A:Int) < (i:Int); omega,by show (i:Int) <= (B:Int); omega⟩,?_,fun k k1 k2=>?_,fun k k1 k2=>?_⟩
  ·simp only [bE]
   exact hJ.seg
  ·simp only [bE] at k1 k2 ⊢
   rw [<- hpv]
   exact hJ.low k k1 k2
  ·simp only [bE] at k1 k2 ⊢
   rw [<- hpv]
   exact hJ.high k (by omega) k2
 have e2:=cx e2
 refine ⟨_,bB (by omega) (by omega),_,bB (by omega) (by omega),_,bB (by omega) (by omega),_,bB (by omega) (by rw [cK]; omega),?_⟩
 rw [ej j (by omega),bE,wi i (by omega),wj j (by omega) (by omega)]
 refine ⟨⟨i + 1,j - 1,rfl,rfl,hJ.step ho (by omega) (by omega) (gi (by omega)) (gj (by omega))⟩,?_⟩
 show (((j - 1:Nat):Int) - 1 + 1).toNat - ((i + 1:Nat):Int).toNat < ((j0:Int) - 1 + 1).toNat - (i0:Int).toNat
 omega
theorem I8 (R:List aY) (a:Int) (b:Int) (pivot:Int) (dom:((aY × aY) -> Prop)) (φ:((aY × aY) -> Int)) (hp:pt dom φ R a b pivot)  : fj 93 [.sv (.one (.own 0)), .sv (.one (I a)), .sv (.one (I b)), .sv (.one (I pivot)), .sv (.one (dv dom φ))] [bf 29 aY.ty R] [0] (Ku φ R a b pivot) (fun (r:Int × (List aY))=>.sv (.one (I r.1))) (fun (r:Int × (List aY))=>[bf 29 aY.ty r.2]):=Eh R a b pivot dom φ _ (I7 R a b pivot dom φ hp)
def Kx {X:Type} [Inhabited X] (φ:X × X -> Int) (R:List X) (a b:Nat):Prop:=0 < a -> ∀ k,a <= k -> k < b -> le φ (gx R (a - 1)) (gx R k)
structure Cb {X:Type} [Inhabited X] (dom:X × X -> Prop) (φ:X × X -> Int) (R:List X) (a b:Int):Prop where
 pre:oB dom φ R a b
 low:Kx φ R a.toNat b.toNat
def Ij {X:Type} [Inhabited X] (φ:X × X -> Int) (R:List X) (a b:Int) (r:Bool × List X):Prop:=dW a.toNat b.toNat R r.2 /\ (r.1=true -> Srt φ a.toNat b.toNat r.2)
def tu (R:List aY) (a:Int) (b:Int) (dom:((aY × aY) -> Prop)) (φ:((aY × aY) -> Int)) (Q:Bool × (List aY) -> Prop):Prop:=
 ∃ (Inv:Int -> Int -> (List aY) -> Prop) (mu:Int -> Int -> (List aY) -> Nat),Inv (wr (a + 1)) 0 R /\
 ∀ x9 x10 l0,Inv x9 x10 l0 -> (cv (decide (x10 < 5)) (∃ J:Int -> (List aY) -> Prop,(∃ (Inv_2:Int -> Prop) (mu_2:Int -> Nat),Inv_2 x9 /\
 ∀ x9_3,Inv_2 x9_3 -> (∃ J_2:Bool -> Prop,(cv (decide (x9_3 < b)) (∃ e,cq l0 x9_3=some e /\
 ∃ e_2,cq l0 (wr (x9_3 - 1))=some e_2 /\
 (dom (e,e_2)) /\
 J_2 (!(decide ((φ (e,e_2)) < 0)))) (J_2 false)) /\
 (∀ x36,J_2 x36 -> cv x36 ((Inv_2 (wr (x9_3 + 1)) /\ mu_2 (wr (x9_3 + 1)) < mu_2 x9_3)) (cv (x9_3 == b) (Q (true,l0)) (cv (decide ((wr (b - a)) < 50)) (Q (false,l0)) (∃ e_3,cq l0 (wr (x9_3 - 1))=some e_3 /\
 ∃ e_4,cq l0 x9_3=some e_4 /\
 ∃ e_5,cq l0 x9_3=some e_5 /\
 ∃ e_6,cq (l0.set (x9_3).toNat e_3) (wr (x9_3 - 1))=some e_6 /\
 ∃ J_3:(List aY) -> Prop,(cv (decide ((wr (x9_3 - a)) >= 2)) (∃ (Inv_3:Int -> (List aY) -> Prop) (mu_3:Int -> (List aY) -> Nat),Inv_3 (wr (x9_3 - 1)) ((l0.set (x9_3).toNat e_3).set ((wr (x9_3 - 1))).toNat e_4) /\
 ∀ x11 l0_4,Inv_3 x11 l0_4 -> (cv (decide (x11 >= 1)) (∃ e_7,cq l0_4 x11=some e_7 /\
 ∃ e_8,cq l0_4 (wr (x11 - 1))=some e_8 /\
 (dom (e_7,e_8)) /\
 cv (!(decide ((φ (e_7,e_8)) < 0))) (J_3 l0_4) (∃ e_9,cq l0_4 (wr (x11 - 1))=some e_9 /\
 ∃ e_10,cq l0_4 x11=some e_10 /\
 ∃ e_11,cq l0_4 x11=some e_11 /\
 ∃ e_12,cq (l0_4.set (x11).toNat e_9) (wr (x11 - 1))=some e_12 /\
 (Inv_3 (wr (x11 - 1)) ((l0_4.set (x11).toNat e_9).set ((wr (x11 - 1))).toNat e_10) /\ mu_3 (wr (x11 - 1)) ((l0_4.set (x11).toNat e_9).set ((wr (x11 - 1))).toNat e_10) < mu_3 x11 l0_4))) (J_3 l0_4))) (J_3 ((l0.set (x9_3).toNat e_3).set ((wr (x9_3 - 1))).toNat e_4))) /\
 (∀ l0_3,J_3 l0_3 -> cv (decide ((wr (b - x9_3)) >= 2)) (∃ (Inv_4:Int -> (List aY) -> Prop) (mu_4:Int -> (List aY) -> Nat),Inv_4 (wr (x9_3 + 1)) l0_3 /\
 ∀ x12 l0_5,Inv_4 x12 l0_5 -> (cv (decide (x12 < b)) (∃ e_13,cq l0_5 x12=some e_13 /\
 ∃ e_14,cq l0_5 (wr (x12 - 1))=some e_14 /\
 (dom (e_13,e_14)) /\
 cv (!(decide ((φ (e_13,e_14)) < 0))) (J x9_3 l0_5) (∃ e_15,cq l0_5 (wr (x12 - 1))=some e_15 /\
 ∃ e_16,cq l0_5 x12=some e_16 /\
 ∃ e_17,cq l0_5 x12=some e_17 /\
 ∃ e_18,cq (l0_5.set (x12).toNat e_15) (wr (x12 - 1))=some e_18 /\
 (Inv_4 (wr (x12 + 1)) ((l0_5.set (x12).toNat e_15).set ((wr (x12 - 1))).toNat e_16) /\ mu_4 (wr (x12 + 1)) ((l0_5.set (x12).toNat e_15).set ((wr (x12 - 1))).toNat e_16) < mu_4 x12 l0_5))) (J x9_3 l0_5))) (J x9_3 l0_3)))))))) /\
 (∀ x9_2 l0_2,J x9_2 l0_2 -> (Inv x9_2 (wr (x10 + 1)) l0_2 /\ mu x9_2 (wr (x10 + 1)) l0_2 < mu x9 x10 l0))) (Q (false,l0)))
abbrev uw (a:Int) (b:Int) (dom:((aY × aY) -> Prop)) (φ:((aY × aY) -> Int)) (y0:Nat -> Value) (y1) (y2):=([bg 0 (.pown 0 (y0 0)),bg 1 (I a),bg 2 (I b),bg 3 (dv dom φ),bg 9 (I y1),bg 10 (I y2)]:List (Nat × SC))
abbrev yh (y0:Nat -> Value):=sl 0 (.pown 0 (y0 0))
set_option maxHeartbeats 2000000 in
theorem Eg (R:List aY) (a:Int) (b:Int) (dom:((aY × aY) -> Prop)) (φ:((aY × aY) -> Int)) (Q:Bool × (List aY) -> Prop) (h:tu R a b dom φ Q):fj 92 [.sv (.one (.own 0)), .sv (.one (I a)), .sv (.one (I b)), .sv (.one (dv dom φ))] [bf 29 aY.ty R] [0] Q (fun (r:Bool × (List aY))=>.sv (.one (B r.1))) (fun (r:Bool × (List aY))=>[bf 29 aY.ty r.2]):=by
 have ht:=bA
 refine eZ Tryz.func92 rfl rfl rfl (by kernel_rfl) (fun c Vk hn=>?_)
 unfold tu at h
 refine bk hn ?_
 refine bk hn ?_
 refine bi (bk hn ?_)
 refine bj (ma h (fun zz=>⟨[yh Vk,ba 1 a,ba 2 b,bg 3 (dv dom φ),ba 9 zz.1,ba 10 zz.2.1],[bf 29 aY.ty zz.2.2]⟩) fun Inv mu x9 x10 l0 h=>?_)
 refine bi (bk hn ?_)
 refine bv h (fun h=>?_) (fun h=>?_)
 refine bn ?_
 obtain ⟨J,h,hJ⟩:=h
 refine bS (σ:=Int × (List aY)) (fun zz=>J zz.1 zz.2) (fun zz=>⟨[yh Vk,ba 1 a,ba 2 b,bg 3 (dv dom φ),ba 9 zz.1,ba 10 x10],[bf 29 aY.ty zz.2]⟩) ?_ ?_
 refine bj (bi (bj (fC h (fun zz=>⟨[yh Vk,ba 1 a,ba 2 b,bg 3 (dv dom φ),ba 9 zz,ba 10 x10],[bf 29 aY.ty l0]⟩) fun Inv_2 mu_2 x9_3 h=>?_)))
 refine bi ?_
 obtain ⟨J_2,h,hJ_2⟩:=h
 refine bS (σ:=Bool) (fun zz=>J_2 zz) (fun zz=>⟨[yh Vk,ba 1 a,ba 2 b,bg 3 (dv dom φ),ba 9 x9_3,ba 10 x10,bG 36 zz],[bf 29 aY.ty l0]⟩) ?_ ?_
 refine cz (decide (x9_3 < b)) (fun hb_2=>?_) (fun hb_2=>?_)
 replace h:=h.1 hb_2
 obtain ⟨e,he,h⟩:=h
 obtain ⟨e_2,he_2,h⟩:=h
 obtain ⟨hp_2,h⟩:=h
 refine da ⟨(uw a b dom φ Vk x9_3 x10),[bq x9_3,bq b,cH true,cH true,o1 (dv dom φ),cu 0,bq x9_3,o1 (.oe 0 (x9_3).toNat 3), .sv (.agg (aY.cl e)),cu 0,bq x9_3,bq (wr (x9_3 - 1)),o1 (.oe 0 (wr (x9_3 - 1)).toNat 3), .sv (.agg (aY.cl e_2)),bq (φ (e,e_2)),cH (decide ((φ (e,e_2)) < 0)),cH (!(decide ((φ (e,e_2)) < 0))),cH (!(decide ((φ (e,e_2)) < 0)))],[bU (bf 29 aY.ty l0)]⟩ hn ?_ ?_
 exact ⟨.e,
 .e,
 .b hb_2,
 .e,
 .e,
 .e,
 .e,
 .i (T:=aY.ty) rfl he,
 .l (T:=aY.ty) rfl (bs he).2.2,
 .e,
 .e,
 .e,
 .i (T:=aY.ty) rfl he_2,
 .l (T:=aY.ty) rfl (bs he_2).2.2,
 .v (cV (ins:=(fun (x:(aY × aY))=>[.sv (.agg (aY.cl x.1)), .sv (.agg (aY.cl x.2))])) (out:=(fun (r:Int)=>.sv (.one (I r)))) (dom:=dom) (φ:=φ) (e,e_2) hp_2 rfl),
 .e,
 .e,
 .e,
 trivial⟩
 exact bZ (!(decide ((φ (e,e_2)) < 0))) h
 replace h:=h.2 hb_2
 refine da ⟨(uw a b dom φ Vk x9_3 x10),[bq x9_3,bq b,cH false,cH false,bJ,bJ,bJ,bJ,bJ,bJ,bJ,bJ,bJ,bJ,bJ,bJ,bJ,cH false],[bU (bf 29 aY.ty l0)]⟩ hn ?_ ?_
 exact ⟨.e,
 .e,
 .b hb_2,
 .e,
 .k,
 .k,
 .k,
 .k,
 .k,
 .k,
 .k,
 .k,
 .k,
 .k,
 .k,
 .k,
 .k,
 .e,
 trivial⟩
 exact bZ false h
 intro x36 h
 replace h:=hJ_2 _ h
 refine bv h (fun h=>?_) (fun h=>?_)
 exact bn (bj (cn hn (wr (x9_3 + 1)) h))
 refine bD rfl (bi (bk hn ?_))
 refine bv h (fun h=>?_) (fun h=>?_)
 refine bp (cw ht hn 1 ⟨[yh Vk,bG 8 true],[bf 29 aY.ty l0]⟩ ?_)
 exact cT (d4 [0] ht (true,l0) h (by kernel_rfl) (by rfl) rfl)
 refine bn (bi (bk hn ?_))
 refine bv h (fun h=>?_) (fun h=>?_)
 refine bp (cw ht hn 1 ⟨[yh Vk,bG 8 false],[bf 29 aY.ty l0]⟩ ?_)
 exact cT (d4 [0] ht (false,l0) h (by kernel_rfl) (by rfl) rfl)
 refine bn (bi ?_)
 obtain ⟨e_3,he_3,h⟩:=h
 obtain ⟨e_4,he_4,h⟩:=h
 obtain ⟨e_5,he_5,h⟩:=h
 refine dt ⟨(uw a b dom φ Vk x9_3 x10),[cu 0,bq x9_3,cu 0,bq x9_3,bq (wr (x9_3 - 1)),cu 0,bq x9_3,bq (wr (x9_3 - 1)),o1 (.oe 0 (wr (x9_3 - 1)).toNat 3), .sv (.agg (aY.cl e_3)),cu 0,bq x9_3,o1 (.oe 0 (x9_3).toNat 3), .sv (.agg (aY.cl e_4)),o1 (.oe 0 (x9_3).toNat 3),bJ],[⟨bf 29 aY.ty l0,none,none,some (15,bf 29 aY.ty (l0.set (x9_3).toNat e_3))⟩]⟩ 16 ⟨bx 48 0 :: ba 50 (wr (x9_3 - 1)) :: (59, .sv (.agg (aY.cl e_4))) :: (uw a b dom φ Vk x9_3 x10),[bf 29 aY.ty (l0.set (x9_3).toNat e_3)]⟩ (by kernel_rfl) hn (by kernel_rfl) (by kernel_rfl) (by kernel_rfl) (by rfl) (by kernel_rfl) ?_ (by kernel_rfl) ?_
 exact ⟨.e,
 .e,
 .e,
 .e,
 .e,
 .e,
 .e,
 .e,
 .i (T:=aY.ty) rfl he_3,
 .l (T:=aY.ty) rfl (bs he_3).2.2,
 .e,
 .e,
 .i (T:=aY.ty) rfl he_4,
 .l (T:=aY.ty) rfl (bs he_4).2.2,
 .i (T:=aY.ty) rfl he_5,
 .mu ⟨[(55, .sv (.agg (aY.cl e_3))),bg 60 (.oe 0 (x9_3).toNat 3)],[bf 29 aY.ty l0]⟩ 0 _ _ rfl rfl (by kernel_rfl) (by rfl) (dY (T:=aY.ty) (l:=l0) (y:=e_3) ht rfl (by rfl) (by rfl) (fun _ h=>by cases h) (by rfl) (by rfl) (dd he_5) (by rfl) (by rfl) (by rfl)) rfl rfl rfl rfl rfl rfl rfl,
 trivial⟩
 obtain ⟨e_6,he_6,h⟩:=h
 refine bT hn (iO (T:=aY.ty) rfl he_6) ?_
 refine gg (T:=aY.ty) (y:=e_4) hn rfl (dd he_6) ?_
 refine bH ?_
 obtain ⟨J_3,h,hJ_3⟩:=h
 refine bS (σ:=(List aY)) (fun zz=>J_3 zz) (fun zz=>⟨(uw a b dom φ Vk x9_3 x10),[bf 29 aY.ty zz]⟩) ?_ ?_
 refine bk hn ?_
 refine bv h (fun h=>?_) (fun h=>?_)
 refine bk hn ?_
 refine bj (dV h (fun zz=>⟨[yh Vk,ba 1 a,ba 2 b,bg 3 (dv dom φ),ba 9 x9_3,ba 10 x10,ba 11 zz.1],[bf 29 aY.ty zz.2]⟩) fun Inv_3 mu_3 x11 l0_4 h=>?_)
 refine bi (bk hn ?_)
 refine bv h (fun h=>?_) (fun h=>?_)
 refine bn (bi (bj (bi (bi ?_))))
 obtain ⟨e_7,he_7,h⟩:=h
 obtain ⟨e_8,he_8,h⟩:=h
 obtain ⟨hp_3,h⟩:=h
 refine da ⟨ba 11 x11 :: (uw a b dom φ Vk x9_3 x10),[o1 (dv dom φ),cu 0,bq x11,o1 (.oe 0 (x11).toNat 3), .sv (.agg (aY.cl e_7)),cu 0,bq x11,bq (wr (x11 - 1)),o1 (.oe 0 (wr (x11 - 1)).toNat 3), .sv (.agg (aY.cl e_8)),bq (φ (e_7,e_8)),cH (decide ((φ (e_7,e_8)) < 0)),cH (!(decide ((φ (e_7,e_8)) < 0)))],[bU (bf 29 aY.ty l0_4)]⟩ hn ?_ ?_
 exact ⟨.e,
 .e,
 .e,
 .i (T:=aY.ty) rfl he_7,
 .l (T:=aY.ty) rfl (bs he_7).2.2,
 .e,
 .e,
 .e,
 .i (T:=aY.ty) rfl he_8,
 .l (T:=aY.ty) rfl (bs he_8).2.2,
 .v (cV (ins:=(fun (x:(aY × aY))=>[.sv (.agg (aY.cl x.1)), .sv (.agg (aY.cl x.2))])) (out:=(fun (r:Int)=>.sv (.one (I r)))) (dom:=dom) (φ:=φ) (e_7,e_8) hp_3 rfl),
 .e,
 .e,
 trivial⟩
 refine bv h (fun h=>?_) (fun h=>?_)
 exact bD rfl (bZ l0_4 h)
 refine bn ?_
 obtain ⟨e_9,he_9,h⟩:=h
 obtain ⟨e_10,he_10,h⟩:=h
 obtain ⟨e_11,he_11,h⟩:=h
 refine dt ⟨ba 11 x11 :: (uw a b dom φ Vk x9_3 x10),[cu 0,bq x11,cu 0,bq x11,bq (wr (x11 - 1)),cu 0,bq x11,bq (wr (x11 - 1)),o1 (.oe 0 (wr (x11 - 1)).toNat 3), .sv (.agg (aY.cl e_9)),cu 0,bq x11,o1 (.oe 0 (x11).toNat 3), .sv (.agg (aY.cl e_10)),o1 (.oe 0 (x11).toNat 3),bJ],[⟨bf 29 aY.ty l0_4,none,none,some (15,bf 29 aY.ty (l0_4.set (x11).toNat e_9))⟩]⟩ 16 ⟨ba 11 x11 :: bx 87 0 :: ba 89 (wr (x11 - 1)) :: (98, .sv (.agg (aY.cl e_10))) :: (uw a b dom φ Vk x9_3 x10),[bf 29 aY.ty (l0_4.set (x11).toNat e_9)]⟩ (by kernel_rfl) hn (by kernel_rfl) (by kernel_rfl) (by kernel_rfl) (by rfl) (by kernel_rfl) ?_ (by kernel_rfl) ?_
 exact ⟨.e,
 .e,
 .e,
 .e,
 .e,
 .e,
 .e,
 .e,
 .i (T:=aY.ty) rfl he_9,
 .l (T:=aY.ty) rfl (bs he_9).2.2,
 .e,
 .e,
 .i (T:=aY.ty) rfl he_10,
 .l (T:=aY.ty) rfl (bs he_10).2.2,
 .i (T:=aY.ty) rfl he_11,
 .mu ⟨[(94, .sv (.agg (aY.cl e_9))),bg 99 (.oe 0 (x11).toNat 3)],[bf 29 aY.ty l0_4]⟩ 0 _ _ rfl rfl (by kernel_rfl) (by rfl) (dY (T:=aY.ty) (l:=l0_4) (y:=e_9) ht rfl (by rfl) (by rfl) (fun _ h=>by cases h) (by rfl) (by rfl) (dd he_11) (by rfl) (by rfl) (by rfl)) rfl rfl rfl rfl rfl rfl rfl,
 trivial⟩
 obtain ⟨e_12,he_12,h⟩:=h
 refine bT hn (iO (T:=aY.ty) rfl he_12) ?_
 refine gg (T:=aY.ty) (y:=e_10) hn rfl (dd he_12) ?_
 exact bH (cn hn ((wr (x11 - 1)),((l0_4.set (x11).toNat e_9).set (wr (x11 - 1)).toNat e_10)) h)
 exact bD rfl (bZ l0_4 h)
 exact bn (bZ ((l0.set (x9_3).toNat e_3).set (wr (x9_3 - 1)).toNat e_4) h)
 intro l0_3 h
 replace h:=hJ_3 _ h
 refine bk hn ?_
 refine bv h (fun h=>?_) (fun h=>?_)
 refine bk hn ?_
 refine bj (dV h (fun zz=>⟨[yh Vk,ba 1 a,ba 2 b,bg 3 (dv dom φ),ba 9 x9_3,ba 10 x10,ba 12 zz.1],[bf 29 aY.ty zz.2]⟩) fun Inv_4 mu_4 x12 l0_5 h=>?_)
 refine bi (bk hn ?_)
 refine bv h (fun h=>?_) (fun h=>?_)
 refine bn (bi (bj (bi (bi ?_))))
 obtain ⟨e_13,he_13,h⟩:=h
 obtain ⟨e_14,he_14,h⟩:=h
 obtain ⟨hp_4,h⟩:=h
 refine da ⟨ba 12 x12 :: (uw a b dom φ Vk x9_3 x10),[o1 (dv dom φ),cu 0,bq x12,o1 (.oe 0 (x12).toNat 3), .sv (.agg (aY.cl e_13)),cu 0,bq x12,bq (wr (x12 - 1)),o1 (.oe 0 (wr (x12 - 1)).toNat 3), .sv (.agg (aY.cl e_14)),bq (φ (e_13,e_14)),cH (decide ((φ (e_13,e_14)) < 0)),cH (!(decide ((φ (e_13,e_14)) < 0)))],[bU (bf 29 aY.ty l0_5)]⟩ hn ?_ ?_
 exact ⟨.e,
 .e,
 .e,
 .i (T:=aY.ty) rfl he_13,
 .l (T:=aY.ty) rfl (bs he_13).2.2,
 .e,
 .e,
 .e,
 .i (T:=aY.ty) rfl he_14,
 .l (T:=aY.ty) rfl (bs he_14).2.2,
 .v (cV (ins:=(fun (x:(aY × aY))=>[.sv (.agg (aY.cl x.1)), .sv (.agg (aY.cl x.2))])) (out:=(fun (r:Int)=>.sv (.one (I r)))) (dom:=dom) (φ:=φ) (e_13,e_14) hp_4 rfl),
 .e,
 .e,
 trivial⟩
 refine bv h (fun h=>?_) (fun h=>?_)
 exact bD rfl (bZ (x9_3,l0_5) h)
 refine bn ?_
 obtain ⟨e_15,he_15,h⟩:=h
 obtain ⟨e_16,he_16,h⟩:=h
 obtain ⟨e_17,he_17,h⟩:=h
 refine dt ⟨ba 12 x12 :: (uw a b dom φ Vk x9_3 x10),[cu 0,bq x12,cu 0,bq x12,bq (wr (x12 - 1)),cu 0,bq x12,bq (wr (x12 - 1)),o1 (.oe 0 (wr (x12 - 1)).toNat 3), .sv (.agg (aY.cl e_15)),cu 0,bq x12,o1 (.oe 0 (x12).toNat 3), .sv (.agg (aY.cl e_16)),o1 (.oe 0 (x12).toNat 3),bJ],[⟨bf 29 aY.ty l0_5,none,none,some (15,bf 29 aY.ty (l0_5.set (x12).toNat e_15))⟩]⟩ 16 ⟨ba 12 x12 :: bx 127 0 :: ba 129 (wr (x12 - 1)) :: (138, .sv (.agg (aY.cl e_16))) :: (uw a b dom φ Vk x9_3 x10),[bf 29 aY.ty (l0_5.set (x12).toNat e_15)]⟩ (by kernel_rfl) hn (by kernel_rfl) (by kernel_rfl) (by kernel_rfl) (by rfl) (by kernel_rfl) ?_ (by kernel_rfl) ?_
 exact ⟨.e,
 .e,
 .e,
 .e,
 .e,
 .e,
 .e,
 .e,
 .i (T:=aY.ty) rfl he_15,
 .l (T:=aY.ty) rfl (bs he_15).2.2,
 .e,
 .e,
 .i (T:=aY.ty) rfl he_16,
 .l (T:=aY.ty) rfl (bs he_16).2.2,
 .i (T:=aY.ty) rfl he_17,
 .mu ⟨[(134, .sv (.agg (aY.cl e_15))),bg 139 (.oe 0 (x12).toNat 3)],[bf 29 aY.ty l0_5]⟩ 0 _ _ rfl rfl (by kernel_rfl) (by rfl) (dY (T:=aY.ty) (l:=l0_5) (y:=e_15) ht rfl (by rfl) (by rfl) (fun _ h=>by cases h) (by rfl) (by rfl) (dd he_17) (by rfl) (by rfl) (by rfl)) rfl rfl rfl rfl rfl rfl rfl,
 trivial⟩
 obtain ⟨e_18,he_18,h⟩:=h
 refine bT hn (iO (T:=aY.ty) rfl he_18) ?_
 refine gg (T:=aY.ty) (y:=e_16) hn rfl (dd he_18) ?_
 exact bH (cn hn ((wr (x12 + 1)),((l0_5.set (x12).toNat e_15).set (wr (x12 - 1)).toNat e_16)) h)
 exact bD rfl (bZ (x9_3,l0_5) h)
 exact bn (bZ (x9_3,l0_3) h)
 rintro ⟨x9_2,l0_2⟩ h
 replace h:=hJ _ _ h
 exact cn hn (x9_2,(wr (x10 + 1)),l0_2) h
 refine bD rfl (bp (cw ht hn 1 ⟨[yh Vk,bG 8 false],[bf 29 aY.ty l0]⟩ ?_))
 exact cT (d4 [0] ht (false,l0) h (by kernel_rfl) (by rfl) rfl)
theorem M0 : ∀ args w,(callFunc 92 args).run Tryz.prog w=.ok (.enter 92 args) w:=enters_of Tryz.func92 (by kernel_rfl) rfl
theorem I5 (R:List aY) (a:Int) (b:Int) (dom:((aY × aY) -> Prop)) (φ:((aY × aY) -> Int)) (hp:Cb dom φ R a b)  : tu R a b dom φ (Ij φ R a b):=by
 obtain ⟨⟨hd,ho,ha,hab,hbl,hlen⟩,hLow⟩:=hp
 obtain ⟨A,rfl⟩:∃ A:Nat,a=A:=⟨a.toNat,by omega⟩
 obtain ⟨B,rfl⟩:∃ B:Nat,b=B:=⟨b.toNat,by omega⟩
 unfold tu Ij
 simp only [bE] at hLow ⊢
 have wi:∀ i:Nat,i <= B + 1 -> wr ((i:Int) + 1)=((i + 1:Nat):Int):=fun i hi=>by rw [bL (by omega) (by omega)]; omega
 have wj:∀ j:Nat,1 <= j -> j <= B + 1 -> wr ((j:Int) - 1)=((j - 1:Nat):Int):=fun j h1 h2=>by rw [bL (by omega) (by omega)]; omega
 refine ⟨fun x y l=>∃ i n:Nat,x=i /\ y=n /\ A < i /\ (i <= B \/ i=A + 1) /\ dW A B R l /\ Srt φ A i l /\ n <= 5,fun _ y _=>5 - y.toNat,⟨A + 1,0,by rw [bL (by omega) (by omega)]; omega,rfl,by omega, .inr rfl, .refl,fun p q h1 h2 h3=>by omega,by omega⟩,?_⟩
 rintro x y l ⟨i0,n,rfl,rfl,h1,h2,hS,hT,hn⟩
 have hll:=hS.len
 refine ⟨fun hb=>?_,fun _=>⟨hS,fun e=>(by cases e)⟩⟩
 have hb:=ca hb
 have wn:wr ((n:Int) + 1)=((n + 1:Nat):Int):=by rw [bL (by omega) (by omega)]; omega
 rw [wn]
 refine ⟨fun x l'=>∃ i:Nat,x=i /\ A < i /\ (i <= B \/ i=A + 1) /\ dW A B R l' /\ Srt φ A i l',⟨fun x=>∃ i:Nat,x=i /\ i0 <= i /\ (i <= B \/ i=A + 1) /\ Srt φ A i l,fun x=>B - x.toNat,⟨i0,rfl,bP _,h2,hT⟩,?_⟩,?_⟩
 rotate_left
 ·rintro x l' ⟨i,rfl,g1,g2,g3,g4⟩
  refine ⟨⟨i,n + 1,rfl,rfl,g1,g2,g3,g4,by omega⟩,?_⟩
  show 5 - ((n + 1:Nat):Int).toNat < 5 - (n:Int).toNat
  omega
 rintro x ⟨i,rfl,hi0,hiB,hTi⟩
 refine ⟨fun b'=>(b'=true -> i < B /\ le φ (gx l (i - 1)) (gx l i)) /\ (b'=false -> i < B -> φ (gx l i,gx l (i - 1)) < 0),⟨fun hc=>?_,fun hc=>?_⟩,?_⟩
 ·have hc:=ca hc
  rw [wj i (by omega) (by omega)]
  refine ⟨_,bB (by omega) (by omega),_,bB (by omega) (by omega),hd _,?_⟩
  rw [bE,bE]
  refine ⟨fun e=>⟨by omega,?_⟩,fun e _=>?_⟩
  ·exact cx (by simpa using e:decide (φ (gx l i,gx l (i - 1)) < 0)=false)
  ·exact ca (by simpa using e:decide (φ (gx l i,gx l (i - 1)) < 0)=true)
 ·have hc:=cx hc
  exact ⟨fun e=>(by cases e),fun _ h=>by omega⟩
 rintro b' ⟨g1,g2⟩
 refine ⟨fun e=>?_,fun e=>?_⟩
 ·obtain ⟨k1,k2⟩:=g1 e
  rw [wi i (by omega)]
  refine ⟨⟨i + 1,rfl,by omega, .inl (by omega),fun p q p1 p2 p3=>?_⟩,by show B - ((i + 1:Nat):Int).toNat < B - (i:Int).toNat; omega⟩
  rcases cU.1 p3 with c | rfl
  ·exact hTi p q p1 p2 c
  ·rcases dA p (q - 1) with c | c
   ·exact ho.le_tr (hTi p (q - 1) p1 c (by omega)) k2
   ·obtain rfl:p=q - 1:=by omega
    exact k2
 have gi:=g2 e
 clear g1 g2
 refine ⟨fun e2=>⟨hS,fun _=>?_⟩,fun e2=>?_⟩
 ·have e2:(i:Int)=B:=by simpa using e2
  obtain rfl:i=B:=by omega
  exact hTi
 have e2:¬ (i:Int)=B:=by simpa using e2
 refine ⟨fun _=>⟨hS,fun e=>(by cases e)⟩,fun e3=>?_⟩
 have e3:=cx e3
 have wab:wr ((B:Int) - (A:Int))=(B:Int) - A:=bL (by omega) (by omega)
 rw [wab] at e3
 have hiB:i < B:=by omega
 have hlt:=gi hiB
 rw [wj i (by omega) (by omega)]
 refine ⟨_,bB (by omega) (by omega),_,bB (by omega) (by omega),_,bB (by omega) (by omega),_,bB (by omega) (by rw [cK]; omega),?_⟩
 rw [bE,bE]
 obtain ⟨l1,hl1⟩:∃ l1,l1=sw l i (i - 1):=⟨_,rfl⟩
 rw [show (l.set i (gx l (i - 1))).set (i - 1) (gx l i)=l1 by rw [hl1]; rfl]
 have hS1:dW A B R l1:=by rw [hl1]; exact hS.trans (gM ⟨by omega,by omega⟩ ⟨by omega,by omega⟩ (by omega))
 have hK1:∀ p q,A <= p -> p < q -> q <= i - 1 -> q ≠ i - 1 -> le φ (gx l1 p) (gx l1 q):=fun p q p1 p2 p3 p4=>by
  rw [hl1,fB (by omega) (by omega),fB (by omega) (by omega),if_neg (by omega),if_neg (by omega),if_neg (by omega),if_neg (by omega)]
  exact hTi p q p1 p2 (by omega)
 have hlow:∀ m,dW A B R m -> 0 < A -> ∀ k,A <= k -> k < B -> le φ (gx m (A - 1)) (gx m k):=fun m hm h0 k k1 k2=>by
  rw [hm.out (A - 1) (.inl (by omega))]
  exact hm.all (fun z=>le φ (gx R (A - 1)) z) (hLow h0) k k1 k2
 clear hl1
 refine ⟨fun m=>dW A B R m /\ Srt φ A i m,⟨fun hc=>?_,fun hc=>?_⟩,?_⟩
 ·refine ⟨fun y m=>∃ j:Nat,y=j /\ A <= j /\ j <= i - 1 /\ dW A B R m /\ ∀ p q,A <= p -> p < q -> q <= i - 1 -> q ≠ j -> le φ (gx m p) (gx m q),fun y _=>y.toNat,⟨i - 1,rfl,by omega,bP _,hS1,hK1⟩,?_⟩
  rintro y m ⟨j,rfl,hAj,hji,hSm,hK⟩
  have hml:=hSm.len
  refine ⟨fun hj=>?_,fun hj=>?_⟩
  rotate_left
  ·have hj:=cx hj
   have hj:¬ 1 <= (j:Int):=hj
   exact ⟨hSm,fun p q p1 p2 p3=>hK p q p1 p2 (by omega) (by omega)⟩
  have hj:=ca hj
  have hj:1 <= (j:Int):=hj
  rw [wj j (by omega) (by omega)]
  refine ⟨_,bB (by omega) (by omega),_,bB (by omega) (by omega),hd _,?_⟩
  rw [bE,bE]
  refine ⟨fun e=>?_,fun e=>?_⟩
  ·have e:le φ (gx m (j - 1)) (gx m j):=cx (by simpa using e:decide (φ (gx m j,gx m (j - 1)) < 0)=false)
   refine ⟨hSm,fun p q p1 p2 p3=>?_⟩
   by_cases c:q=j
   ·subst c
    rcases dA p (q - 1) with d | d
    ·exact ho.le_tr (hK p (q - 1) p1 d (by omega) (by omega)) e
    ·obtain rfl:p=q - 1:=by omega
     exact e
   ·exact hK p q p1 p2 (by omega) c
  ·have e:φ (gx m j,gx m (j - 1)) < 0:=ca (by simpa using e:decide (φ (gx m j,gx m (j - 1)) < 0)=true)
   have hAj2:A < j:=by
    rcases dA A j with c | c
    ·exact c
    ·obtain rfl:j=A:=by omega
     exact absurd e (hlow m hSm (by omega) j (bP _) (by omega))
   refine ⟨_,bB (by omega) (by omega),_,bB (by omega) (by omega),_,bB (by omega) (by omega),_,bB (by omega) (by rw [cK]; omega),⟨j - 1,rfl,by omega,by omega,hSm.trans (gM (i:=j) (j:=j - 1) ⟨by omega,by omega⟩ ⟨by omega,by omega⟩ (by omega)),?_⟩,?_⟩
   ·intro p q h1 h2 h3 h4
    show le φ (gx (sw m j (j - 1)) p) (gx (sw m j (j - 1)) q)
    rw [fB (by omega) (by omega),fB (by omega) (by omega),if_neg h4]
    by_cases e1:q=j
    ·rw [if_pos e1]
     by_cases e2:p=j - 1
     ·rw [if_pos e2]
      exact ho.lt e
     ·rw [if_neg e2,if_neg (by omega)]
      exact hK p (j - 1) h1 (by omega) (by omega) (by omega)
    ·rw [if_neg e1]
     by_cases e2:p=j - 1
     ·rw [if_pos e2]
      exact hK j q hAj (by omega) h3 e1
     ·rw [if_neg e2]
      by_cases e3:p=j
      ·rw [if_pos e3]
       exact hK (j - 1) q (by omega) (by omega) h3 e1
      ·rw [if_neg e3]
       exact hK p q h1 h2 h3 e1
   ·show ((j - 1:Nat):Int).toNat < (j:Int).toNat
    omega
 ·have hc:=cx hc
  have wia:wr ((i:Int) - (A:Int))=(i:Int) - A:=bL (by omega) (by omega)
  rw [wia] at hc
  exact ⟨hS1,fun p q p1 p2 p3=>by omega⟩
 rintro m0 ⟨hSm0,hTm0⟩
 have fin:∀ m,dW A B R m -> Srt φ A i m -> ∃ i':Nat,(i:Int)=i' /\ A < i' /\ (i' <= B \/ i'=A + 1) /\ dW A B R m /\ Srt φ A i' m:=fun m h1 h2=>⟨i,rfl,by omega, .inl (by omega),h1,h2⟩
 refine ⟨fun hc=>?_,fun hc=>fin m0 hSm0 hTm0⟩
 rw [wi i (by omega)]
 refine ⟨fun y m=>∃ j:Nat,y=j /\ i < j /\ j <= B /\ dW A B R m /\ Srt φ A i m,fun y _=>B - y.toNat,⟨i + 1,rfl,by omega,by omega,hSm0,hTm0⟩,?_⟩
 rintro y m ⟨j,rfl,hij,hjB,hSm,hTm⟩
 have hml:=hSm.len
 refine ⟨fun hj=>?_,fun hj=>fin m hSm hTm⟩
 have hj:=ca hj
 rw [wj j (by omega) (by omega),wi j (by omega)]
 refine ⟨_,bB (by omega) (by omega),_,bB (by omega) (by omega),hd _,fun _=>fin m hSm hTm,fun e=>?_⟩
 refine ⟨_,bB (by omega) (by omega),_,bB (by omega) (by omega),_,bB (by omega) (by omega),_,bB (by omega) (by rw [cK]; omega),⟨j + 1,rfl,by omega,by omega,hSm.trans (gM (i:=j) (j:=j - 1) ⟨by omega,by omega⟩ ⟨by omega,by omega⟩ (by omega)),hTm.same fun k k1 k2=>?_⟩,by show B - ((j + 1:Nat):Int).toNat < B - (j:Int).toNat; omega⟩
 show gx (sw m j (j - 1)) k=gx m k
 rw [fB (by omega) (by omega),if_neg (by omega),if_neg (by omega)]
theorem I6 (R:List aY) (a:Int) (b:Int) (dom:((aY × aY) -> Prop)) (φ:((aY × aY) -> Int)) (hp:Cb dom φ R a b)  : fj 92 [.sv (.one (.own 0)), .sv (.one (I a)), .sv (.one (I b)), .sv (.one (dv dom φ))] [bf 29 aY.ty R] [0] (Ij φ R a b) (fun (r:Bool × (List aY))=>.sv (.one (B r.1))) (fun (r:Bool × (List aY))=>[bf 29 aY.ty r.2]):=Eg R a b dom φ _ (I5 R a b dom φ hp)
section
variable {X:Type} [Inhabited X] {φ:X × X -> Int}
structure PdI (φ:X × X -> Int) (R:List X) (A B:Nat) (l:List X) (a b:Nat):Prop where
 seg:dW A B R l
 ab:A <= a /\ a <= b /\ b <= B
 low:Kx φ l a b
 sl:Srt φ A a l
 sr:Srt φ b B l
 cl:∀ i j,A <= i -> i < a -> a <= j -> j < B -> le φ (gx l i) (gx l j)
 cr:∀ i j,A <= i -> i < b -> b <= j -> j < B -> le φ (gx l i) (gx l j)
theorem PdI.start {R:List X} {A B:Nat} (h:A <= B) (hl:Kx φ R A B):PdI φ R A B R A B:=
 ⟨.refl,⟨bP _,h,bP _⟩,hl,fun i j h1 h2 h3=>by omega,fun i j h1 h2 h3=>by omega,fun i j h1 h2=>by omega,fun i j h1 h2 h3 h4=>by omega⟩
theorem PdI.perm {R l m:List X} {A B a b:Nat} (h:PdI φ R A B l a b) (hp:dW a b l m):PdI φ R A B m a b:=by
 obtain ⟨hs,⟨h1,h2,h3⟩,hl,sl,sr,cl,cr⟩:=h
 refine ⟨hs.trans (hp.widen h1 h3),⟨h1,h2,h3⟩,fun h0 k k1 k2=>?_,sl.same fun k k1 k2=>hp.out k (.inl k2),sr.same fun k k1 k2=>hp.out k (.inr k1),fun i j i1 i2 j1 j2=>?_,fun i j i1 i2 j1 j2=>?_⟩
 ·rw [hp.out (a - 1) (.inl (by omega))]
  exact hp.all (fun z=>le φ (gx l (a - 1)) z) (hl h0) k k1 k2
 ·rw [hp.out i (.inl i2)]
  rcases dA j b with c | c
  ·exact hp.all (fun z=>le φ (gx l i) z) (fun k k1 k2=>cl i k i1 i2 k1 (by omega)) j j1 c
  ·rw [hp.out j (.inr c)]
   exact cl i j i1 i2 j1 j2
 ·rw [hp.out j (.inr j1)]
  rcases dA i a with c | c
  ·rw [hp.out i (.inl c)]
   exact cr i j i1 i2 j1 j2
  ·exact hp.all (fun z=>le φ z (gx l j)) (fun k k1 k2=>cr k j (by omega) k2 j1 j2) i c i2
theorem PdI.done {R l:List X} {A B a b:Nat} (h:PdI φ R A B l a b) (hs:Srt φ a b l):dW A B R l /\ Srt φ A B l:=by
 obtain ⟨h1,h2,h3⟩:=h.ab
 refine ⟨h.seg,(h.sl.join hs fun i j i1 i2 j1 j2=>h.cl i j i1 i2 j1 (by omega)).join h.sr fun i j i1 i2 j1 j2=>h.cr i j i1 i2 j1 j2⟩
theorem PdI.equal (ho:Ord φ) {R l m:List X} {A B a b p:Nat} {r:Int} (h:PdI φ R A B l a b) (hp:a <= p /\ p < b) (h0:0 < a) (hle:le φ (gx l p) (gx l (a - 1))) (hq:Ku φ l a b p (r,m)):PdI φ R A B m r.toNat b:=by
 obtain ⟨⟨r1,r2⟩,hs,ql,qh⟩:=hq
 have r1:(a:Int) < r:=r1
 have r2:r <= (b:Int):=r2
 simp only [bE] at hs ql qh
 obtain ⟨M,rfl⟩:∃ M:Nat,r=M:=⟨r.toNat,by omega⟩
 simp only [bE] at ql qh ⊢
 have h':=h.perm hs
 obtain ⟨h1,h2,h3⟩:=h.ab
 have all:∀ k,a <= k -> k < b -> le φ (gx l p) (gx m k):=hs.all (fun z=>le φ (gx l p) z) fun k k1 k2=>ho.le_tr hle (h.low h0 k k1 k2)
 obtain ⟨ms,_,ml,msl,msr,mcl,mcr⟩:=h'
 refine ⟨ms,⟨by omega,by omega,h3⟩,fun _ k k1 k2=>ho.le_tr (ql (M - 1) (by omega) (by omega)) (ho.lt (qh k k1 k2)),msl.join (fun i j i1 i2 i3=>ho.le_tr (ql i i1 (by omega)) (all j (by omega) (by omega))) fun i j i1 i2 j1 j2=>mcl i j i1 i2 j1 (by omega),msr,fun i j i1 i2 j1 j2=>?_,mcr⟩
 rcases dA i a with c | c
 ·exact mcl i j i1 c (by omega) j2
 ·rcases dA j b with d | d
  ·exact ho.le_tr (ql i c i2) (ho.lt (qh j j1 d))
  ·exact mcr i j i1 (by omega) d j2
section
variable {R l m s:List X} {A B a b M:Nat} {al:Bool}
theorem PdI.part (h:PdI φ R A B l a b) (hq:Ii φ l a b ((M:Int),al,m)):a <= M /\ M < b /\ PdI φ R A B m a b /\ (∀ k,a <= k -> k < M -> le φ (gx m k) (gx m M)) /\ ∀ k,M < k -> k < b -> le φ (gx m M) (gx m k):=by
 obtain ⟨⟨r1,r2⟩,hs,ql,qh⟩:=hq
 simp only [bE] at r1 r2 hs ql qh
 exact ⟨by omega,by omega,h.perm hs,ql,qh⟩
theorem PdI.left (ho:Ord φ) (h:PdI φ R A B m a b) (hM:a <= M /\ M < b) (hl:∀ k,a <= k -> k < M -> le φ (gx m k) (gx m M)) (hh:∀ k,M < k -> k < b -> le φ (gx m M) (gx m k)) (hs:dW a M m s) (ht:Srt φ a M s):PdI φ R A B s (M + 1) b:=by
 have hs2:dW a b m s:=hs.widen (bP _) (by omega)
 have h':=h.perm hs2
 obtain ⟨h1,h2,h3⟩:=h.ab
 have eM:gx s M=gx m M:=hs.out M (.inr (bP _))
 have lo:∀ k,a <= k -> k < M -> le φ (gx s k) (gx s M):=fun k k1 k2=>by rw [eM]; exact hs.all (fun z=>le φ z (gx m M)) hl k k1 k2
 have hi:∀ k,M < k -> k < b -> le φ (gx s M) (gx s k):=fun k k1 k2=>by rw [eM,hs.out k (.inr (by omega))]; exact hh k k1 k2
 obtain ⟨ms,_,ml,msl,msr,mcl,mcr⟩:=h'
 refine ⟨ms,⟨by omega,by omega,h3⟩,fun _ k k1 k2=>hi k (by omega) k2,?_,msr,fun i j i1 i2 j1 j2=>?_,mcr⟩
 ·refine (msl.join ht fun i j i1 i2 j1 j2=>mcl i j i1 i2 j1 (by omega)).join (m:=M) (fun i j i1 i2 i3=>by omega) fun i j i1 i2 j1 j2=>?_
  obtain rfl:j=M:=by omega
  rcases dA i a with c | c
  ·exact mcl i j i1 c (by omega) (by omega)
  ·exact lo i c i2
 ·rcases dA i a with c | c
  ·exact mcl i j i1 c (by omega) j2
  ·rcases dA j b with d | d
   ·rcases dA i M with e | e
    ·exact ho.le_tr (lo i c e) (hi j (by omega) d)
    ·obtain rfl:i=M:=by omega
     exact hi j (by omega) d
   ·exact mcr i j i1 (by omega) d j2
theorem PdI.right (ho:Ord φ) (h:PdI φ R A B m a b) (hM:a <= M /\ M < b) (hl:∀ k,a <= k -> k < M -> le φ (gx m k) (gx m M)) (hh:∀ k,M < k -> k < b -> le φ (gx m M) (gx m k)) (hs:dW (M + 1) b m s) (ht:Srt φ (M + 1) b s):PdI φ R A B s a M:=by
 have hs2:dW a b m s:=hs.widen (by omega) (bP _)
 have h':=h.perm hs2
 obtain ⟨h1,h2,h3⟩:=h.ab
 have eM:gx s M=gx m M:=hs.out M (.inl (by omega))
 have lo:∀ k,a <= k -> k < M -> le φ (gx s k) (gx s M):=fun k k1 k2=>by rw [eM,hs.out k (.inl (by omega))]; exact hl k k1 k2
 have hi:∀ k,M < k -> k < b -> le φ (gx s M) (gx s k):=fun k k1 k2=>by rw [eM]; exact hs.all (fun z=>le φ (gx m M) z) (fun q q1 q2=>hh q (by omega) q2) k (by omega) k2
 obtain ⟨ms,_,ml,msl,msr,mcl,mcr⟩:=h'
 refine ⟨ms,⟨h1,by omega,by omega⟩,fun h0 k k1 k2=>ml h0 k k1 (by omega),msl,?_,fun i j i1 i2 j1 j2=>mcl i j i1 i2 j1 j2,fun i j i1 i2 j1 j2=>?_⟩
 ·refine (Srt.join (m:=M + 1) (fun i j i1 i2 i3=>by omega) ht fun i j i1 i2 j1 j2=>?_).join msr fun i j i1 i2 j1 j2=>mcr i j (by omega) i2 j1 j2
  obtain rfl:i=M:=by omega
  exact hi j (by omega) j2
 ·rcases dA i a with c | c
  ·exact mcl i j i1 c (by omega) j2
  ·rcases dA j b with d | d
   ·rcases dA M j with e | e
    ·exact ho.le_tr (lo i c i2) (hi j e d)
    ·obtain rfl:j=M:=by omega
     exact lo i c i2
   ·exact mcr i j i1 (by omega) d j2
end
end
theorem LE : ∀ args w,(callFunc 74 args).run Tryz.prog w=.ok (.enter 74 args) w:=enters_of Tryz.func74 (by kernel_rfl) rfl
structure xi (dom:(aY × aY) -> Prop) (φ:(aY × aY) -> Int) (R:List aY) (a b limit:Int) (n:Nat):Prop where
 pre:oB dom φ R a b
 low:Kx φ R a.toNat b.toNat
 lim:0 <= limit /\ limit <= 100
 fuel:b - a < n
def PdC (dom:((aY × aY) -> Prop)) (φ:((aY × aY) -> Int)) (n:Nat):Prop:=∀ (R:List aY) (a b limit:Int),xi dom φ R a b limit n -> fj 74 [.sv (.one (.own 0)), .sv (.one (I a)), .sv (.one (I b)), .sv (.one (I limit)), .sv (.one (dv dom φ))] [bf 29 aY.ty R] [0] (SQ φ R a b) (fun (_:List aY)=>.tup []) (fun (r:List aY)=>[bf 29 aY.ty r])
def tw (R:List aY) (a:Int) (b:Int) (limit:Int) (dom:((aY × aY) -> Prop)) (φ:((aY × aY) -> Int)) (n:Nat) (Q:(List aY) -> Prop):Prop:=
 ∃ (Inv:Int -> Int -> Int -> Bool -> Bool -> (List aY) -> Prop) (mu:Int -> Int -> Int -> Bool -> Bool -> (List aY) -> Nat),Inv a b limit true true R /\
 ∀ x1 x2 x3 x10 x11 l0,Inv x1 x2 x3 x10 x11 l0 -> (cv (decide ((wr (x2 - x1)) <= 12)) ((oB dom φ l0 x1 x2) /\
 ∀ r:(List aY),(SQ φ l0 x1 x2) r ->
 (Q r)) (cv (x3 == 0) ((oB dom φ l0 x1 x2) /\
 ∀ r_2:(List aY),(SQ φ l0 x1 x2) r_2 ->
 (Q r_2)) (∃ J:Int -> (List aY) -> Prop,(cv (!x10) ((oB dom φ l0 x1 x2) /\
 ∀ r_3:(List aY),(dW (x1:Int).toNat (x2:Int).toNat l0) r_3 ->
 (J (wr (x3 - 1)) r_3)) (J x3 l0)) /\
 (∀ x3_2 l0_2,J x3_2 l0_2 -> (Iq dom l0_2 x1 x2) /\
 ∀ r_4:(Int × Int),(Kz x1 x2) r_4 ->
 (∃ J_2:Int -> Int -> (List aY) -> Prop,(cv (r_4.2 == 2) ((oB dom φ l0_2 x1 x2) /\
 ∀ r_5:(List aY),(dW (x1:Int).toNat (x2:Int).toNat l0_2) r_5 ->
 (J_2 (wr ((wr (x2 - 1)) - (wr (r_4.1 - x1)))) 1 r_5)) (J_2 r_4.1 r_4.2 l0_2)) /\
 (∀ x13 x14 l0_3,J_2 x13 x14 l0_3 -> ∃ J_3:(List aY) -> Prop,(cv ((x10 && x11) && (x14 == 1)) ((Cb dom φ l0_3 x1 x2) /\
 ∀ r_6:Bool × (List aY),(Ij φ l0_3 x1 x2) r_6 ->
 (cv r_6.1 (Q r_6.2) (J_3 r_6.2))) (J_3 l0_3)) /\
 (∀ l0_4,J_3 l0_4 -> ∃ J_4:Bool -> Prop,(cv (decide (x1 > 0)) (∃ e,cq l0_4 (wr (x1 - 1))=some e /\
 ∃ e_2,cq l0_4 x13=some e_2 /\
 (dom (e,e_2)) /\
 J_4 (!(decide ((φ (e,e_2)) < 0)))) (J_4 false)) /\
 (∀ x97,J_4 x97 -> cv x97 ((pt dom φ l0_4 x1 x2 x13) /\
 ∀ r_7:Int × (List aY),(Ku φ l0_4 x1 x2 x13) r_7 ->
 ((Inv r_7.1 x2 x3_2 x10 x11 r_7.2 /\ mu r_7.1 x2 x3_2 x10 x11 r_7.2 < mu x1 x2 x3 x10 x11 l0))) ((pt dom φ l0_4 x1 x2 x13) /\
 ∀ r_8:Int × Bool × (List aY),(Ii φ l0_4 x1 x2) r_8 ->
 (cv (decide ((wr (r_8.1 - x1)) < (wr (x2 - r_8.1)))) ((xi dom φ r_8.2.2 x1 r_8.1 x3_2 n) /\
 ∀ r_9:(List aY),(SQ φ r_8.2.2 x1 r_8.1) r_9 ->
 ((Inv (wr (r_8.1 + 1)) x2 x3_2 (decide ((wr (r_8.1 - x1)) >= (wr (Int.tdiv (wr (x2 - x1)) 8)))) r_8.2.1 r_9 /\ mu (wr (r_8.1 + 1)) x2 x3_2 (decide ((wr (r_8.1 - x1)) >= (wr (Int.tdiv (wr (x2 - x1)) 8)))) r_8.2.1 r_9 < mu x1 x2 x3 x10 x11 l0))) ((xi dom φ r_8.2.2 (wr (r_8.1 + 1)) x2 x3_2 n) /\
 ∀ r_10:(List aY),(SQ φ r_8.2.2 (wr (r_8.1 + 1)) x2) r_10 ->
 ((Inv x1 r_8.1 x3_2 (decide ((wr (x2 - r_8.1)) >= (wr (Int.tdiv (wr (x2 - x1)) 8)))) r_8.2.1 r_10 /\ mu x1 r_8.1 x3_2 (decide ((wr (x2 - r_8.1)) >= (wr (Int.tdiv (wr (x2 - x1)) 8)))) r_8.2.1 r_10 < mu x1 x2 x3 x10 x11 l0)))))))))))))
abbrev vP (dom:((aY × aY) -> Prop)) (φ:((aY × aY) -> Int)) (y0:Nat -> Value) (y1:Int) (y2:Int) (y3) (y4) (y5):=([bg 0 (.pown 0 (y0 0)),bg 1 (I y1),bg 2 (I y2),bg 3 (I y3),bg 4 (dv dom φ),bg 10 (B y4),bg 11 (B y5),bg 12 (I (wr (y2 - y1)))]:List (Nat × SC))
abbrev lj (y0:Nat -> Value):=sl 0 (.pown 0 (y0 0))
abbrev vO (y0:Int) (y1:Int):=sl 12 (I (wr (y0 - y1)))
abbrev EF (y0:Int) (y1:Int):=(wr (Int.tdiv (wr (y0 - y1)) 8))
set_option maxHeartbeats 2000000 in
theorem Ei (R:List aY) (a:Int) (b:Int) (limit:Int) (dom:((aY × aY) -> Prop)) (φ:((aY × aY) -> Int)) (n:Nat) (ih:PdC dom φ n) (Q:(List aY) -> Prop) (h:tw R a b limit dom φ n Q):fj 74 [.sv (.one (.own 0)), .sv (.one (I a)), .sv (.one (I b)), .sv (.one (I limit)), .sv (.one (dv dom φ))] [bf 29 aY.ty R] [0] Q (fun (r:List aY)=>.tup []) (fun (r:List aY)=>[bf 29 aY.ty r]):=by
 have ht:=bA
 refine eZ Tryz.func74 rfl rfl rfl (by kernel_rfl) (fun c Vk hn=>?_)
 unfold tw at h
 refine bk hn ?_
 refine bk hn ?_
 refine bj (MJ h (fun zz=>⟨[lj Vk,ba 1 zz.1,ba 2 zz.2.1,ba 3 zz.2.2.1,bg 4 (dv dom φ),bG 10 zz.2.2.2.1,bG 11 zz.2.2.2.2.1],[bf 29 aY.ty zz.2.2.2.2.2]⟩) fun Inv mu x1 x2 x3 x10 x11 l0 h=>?_)
 refine bj (bk hn ?_)
 refine bi (bk hn ?_)
 refine bv h (fun h=>?_) (fun h=>?_)
 refine bp (bC ht hn 4 ⟨[lj Vk,bx 26 0,ba 27 x1,ba 28 x2,bg 29 (dv dom φ)],[bf 29 aY.ty l0]⟩ ?_)
 obtain ⟨hp,h⟩:=h
 refine dz [lj Vk,ba 27 x1,ba 28 x2,bg 29 (dv dom φ)] (Jh l0 x1 x2 dom φ hp) M7 (caps:=[]) [0] hn (by rfl) rfl (by rfl) (eR (by kernel_rfl) (by rfl)) (by kernel_rfl) (by decide) (by kernel_rfl) (by rfl) (by rfl) (fun r hr_2=>⟨by rfl,_,by rfl,?_⟩)
 replace h:=h r hr_2
 exact bH (cT (d4 [0] ht r h (by kernel_rfl) (by rfl) rfl))
 refine bn (bi (bk hn ?_))
 refine bv h (fun h=>?_) (fun h=>?_)
 refine bp (bC ht hn 4 ⟨[lj Vk,bx 33 0,ba 34 x1,ba 35 x2,bg 36 (dv dom φ)],[bf 29 aY.ty l0]⟩ ?_)
 obtain ⟨hp,h⟩:=h
 refine dz [lj Vk,ba 34 x1,ba 35 x2,bg 36 (dv dom φ)] (Jj l0 x1 x2 dom φ hp) M6 (caps:=[]) [0] hn (by rfl) rfl (by rfl) (eR (by kernel_rfl) (by rfl)) (by kernel_rfl) (by decide) (by kernel_rfl) (by rfl) (by rfl) (fun r_2 hr_2_2=>⟨by rfl,_,by rfl,?_⟩)
 replace h:=h r_2 hr_2_2
 exact bH (cT (d4 [0] ht r_2 h (by kernel_rfl) (by rfl) rfl))
 refine bn ?_
 obtain ⟨J,h,hJ⟩:=h
 refine bS (σ:=Int × (List aY)) (fun zz=>J zz.1 zz.2) (fun zz=>⟨[lj Vk,ba 1 x1,ba 2 x2,ba 3 zz.1,bg 4 (dv dom φ),bG 10 x10,bG 11 x11,vO x2 x1],[bf 29 aY.ty zz.2]⟩) ?_ ?_
 refine bk hn ?_
 refine bv h (fun h=>?_) (fun h=>?_)
 refine bp (bC ht hn 4 ⟨[lj Vk,ba 1 x1,ba 2 x2,ba 3 x3,bg 4 (dv dom φ),bG 10 x10,bG 11 x11,vO x2 x1,bx 40 0,ba 41 x1,ba 42 x2,bg 43 (dv dom φ)],[bf 29 aY.ty l0]⟩ ?_)
 obtain ⟨hp,h⟩:=h
 refine dz [lj Vk,ba 1 x1,ba 2 x2,ba 3 x3,bg 4 (dv dom φ),bG 10 x10,bG 11 x11,vO x2 x1,ba 41 x1,ba 42 x2,bg 43 (dv dom φ)] (Jn l0 x1 x2 dom φ hp) M5 (caps:=[]) [0] hn (by rfl) rfl (by rfl) (eR (by kernel_rfl) (by rfl)) (by kernel_rfl) (by decide) (by kernel_rfl) (by rfl) (by rfl) (fun r_3 hr_3=>⟨by rfl,_,by rfl,?_⟩)
 replace h:=h r_3 hr_3
 exact bH (cn hn ((wr (x3 - 1)),r_3) h)
 exact bn (bZ (x3,l0) h)
 rintro ⟨x3_2,l0_2⟩ h
 replace h:=hJ _ _ h
 refine bp (bC ht hn 4 ⟨bx 48 0 :: ba 49 x1 :: ba 50 x2 :: bg 51 (dv dom φ) :: (vP dom φ Vk x1 x2 x3_2 x10 x11),[bf 29 aY.ty l0_2]⟩ ?_)
 obtain ⟨hp,h⟩:=h
 refine fw (Q:=Kz x1 x2) (x:=fun (r:(Int × Int))=>.tup [.one (I r.1), .one (I r.2)]) (p:=fun _=>none) hn (by rfl) (G7 (T:=aY.ty) (l:=l0_2) 0 (by rfl) (fun _=>rfl) (eH (Jl l0_2 x1 x2 dom φ hp) M4 (caps:=[]) [] rfl (by rfl) (by kernel_rfl) (by kernel_rfl) (by rfl) (fun _=>rfl) (by rfl))) (fun r_4 hr_4=>⟨by rfl,_,by rfl,?_⟩)
 replace h:=h r_4 hr_4
 refine bM hn ?_
 obtain ⟨J_2,h,hJ_2⟩:=h
 refine bS (σ:=Int × Int × (List aY)) (fun zz=>J_2 zz.1 zz.2.1 zz.2.2) (fun zz=>⟨[lj Vk,ba 1 x1,ba 2 x2,ba 3 x3_2,bg 4 (dv dom φ),bG 10 x10,bG 11 x11,vO x2 x1,ba 13 zz.1,ba 14 zz.2.1],[bf 29 aY.ty zz.2.2]⟩) ?_ ?_
 refine bk hn ?_
 refine bv h (fun h=>?_) (fun h=>?_)
 refine bp (bC ht hn 4 ⟨ba 13 r_4.1 :: bx 57 0 :: ba 58 x1 :: ba 59 x2 :: bg 60 (dv dom φ) :: (vP dom φ Vk x1 x2 x3_2 x10 x11),[bf 29 aY.ty l0_2]⟩ ?_)
 obtain ⟨hp,h⟩:=h
 refine dz [lj Vk,ba 1 x1,ba 2 x2,ba 3 x3_2,bg 4 (dv dom φ),bG 10 x10,bG 11 x11,vO x2 x1,ba 13 r_4.1,ba 58 x1,ba 59 x2,bg 60 (dv dom φ)] (I4 l0_2 x1 x2 dom φ hp) M3 (caps:=[]) [0] hn (by rfl) rfl (by rfl) (eR (by kernel_rfl) (by rfl)) (by kernel_rfl) (by decide) (by kernel_rfl) (by rfl) (by rfl) (fun r_5 hr_5=>⟨by rfl,_,by rfl,?_⟩)
 replace h:=h r_5 hr_5
 refine bH (bk hn ?_)
 exact cn hn ((wr ((wr (x2 - 1)) - (wr (r_4.1 - x1)))),1,r_5) h
 exact bn (bZ (r_4.1,r_4.2,l0_2) h)
 rintro ⟨x13,x14,l0_3⟩ h
 replace h:=hJ_2 _ _ _ h
 obtain ⟨J_3,h,hJ_3⟩:=h
 refine bS (σ:=(List aY)) (fun zz=>J_3 zz) (fun zz=>⟨[lj Vk,ba 1 x1,ba 2 x2,ba 3 x3_2,bg 4 (dv dom φ),bG 10 x10,bG 11 x11,vO x2 x1,ba 13 x13],[bf 29 aY.ty zz]⟩) ?_ ?_
 refine bp (bC ht hn 2 ⟨ba 13 x13 :: ba 14 x14 :: bG 69 x10 :: (vP dom φ Vk x1 x2 x3_2 x10 x11),[bf 29 aY.ty l0_3]⟩ ?_)
 refine eB ⟨ba 13 x13 :: bG 75 ((x10 && x11) && (x14 == 1)) :: (vP dom φ Vk x1 x2 x3_2 x10 x11),[bf 29 aY.ty l0_3]⟩ ?_ ?_
 refine cz x10 (fun hb0=>?_) (fun hb0=>?_)
 refine cf 69 hb0 ?_
 refine cN hn 3 ?_
 refine cz x11 (fun hb1=>?_) (fun hb1=>?_)
 refine cf 72 hb1 ?_
 refine bC ht hn 3 ⟨ba 13 x13 :: bG 75 (x14 == 1) :: (vP dom φ Vk x1 x2 x3_2 x10 x11),[bf 29 aY.ty l0_3]⟩ ?_
 exact bH (sub_ok (by simp only [hb0,hb1]; kernel_rfl))
 refine cf 72 hb1 ?_
 refine bC ht hn 3 ⟨ba 13 x13 :: bG 75 false :: (vP dom φ Vk x1 x2 x3_2 x10 x11),[bf 29 aY.ty l0_3]⟩ ?_
 exact bH (sub_ok (by simp only [hb0,hb1]; kernel_rfl))
 refine cf 69 hb0 ?_
 refine bC ht hn 6 ⟨ba 13 x13 :: bG 75 false :: (vP dom φ Vk x1 x2 x3_2 x10 x11),[bf 29 aY.ty l0_3]⟩ ?_
 exact bH (sub_ok (by simp only [hb0]; kernel_rfl))
 refine bv h (fun h=>?_) (fun h=>?_)
 refine bp (bC ht hn 4 ⟨ba 13 x13 :: bx 76 0 :: ba 77 x1 :: ba 78 x2 :: bg 79 (dv dom φ) :: (vP dom φ Vk x1 x2 x3_2 x10 x11),[bf 29 aY.ty l0_3]⟩ ?_)
 obtain ⟨hp,h⟩:=h
 refine dz [lj Vk,ba 1 x1,ba 2 x2,ba 3 x3_2,bg 4 (dv dom φ),bG 10 x10,bG 11 x11,vO x2 x1,ba 13 x13,ba 77 x1,ba 78 x2,bg 79 (dv dom φ)] (I6 l0_3 x1 x2 dom φ hp) M0 (caps:=[]) [0] hn (by rfl) rfl (by rfl) (eR (by kernel_rfl) (by rfl)) (by kernel_rfl) (by decide) (by kernel_rfl) (by rfl) (by rfl) (fun r_6 hr_6=>⟨by rfl,_,by rfl,?_⟩)
 replace h:=h r_6 hr_6
 refine bH (bv h (fun h=>?_) (fun h=>?_))
 exact cT (d4 [0] ht r_6.2 h (by kernel_rfl) (by rfl) rfl)
 exact bn (bZ r_6.2 h)
 exact bn (bZ l0_3 h)
 intro l0_4 h
 replace h:=hJ_3 _ h
 refine bi ?_
 obtain ⟨J_4,h,hJ_4⟩:=h
 refine bS (σ:=Bool) (fun zz=>J_4 zz) (fun zz=>⟨[lj Vk,ba 1 x1,ba 2 x2,ba 3 x3_2,bg 4 (dv dom φ),bG 10 x10,bG 11 x11,vO x2 x1,ba 13 x13,bG 97 zz],[bf 29 aY.ty l0_4]⟩) ?_ ?_
 refine cz (decide (x1 > 0)) (fun hb_2=>?_) (fun hb_2=>?_)
 replace h:=h.1 hb_2
 obtain ⟨e,he,h⟩:=h
 obtain ⟨e_2,he_2,h⟩:=h
 obtain ⟨hp_2,h⟩:=h
 refine da ⟨ba 13 x13 :: (vP dom φ Vk x1 x2 x3_2 x10 x11),[bq x1,cH true,cH true,o1 (dv dom φ),cu 0,bq x1,bq (wr (x1 - 1)),o1 (.oe 0 (wr (x1 - 1)).toNat 3), .sv (.agg (aY.cl e)),cu 0,bq x13,o1 (.oe 0 (x13).toNat 3), .sv (.agg (aY.cl e_2)),bq (φ (e,e_2)),cH (decide ((φ (e,e_2)) < 0)),cH (!(decide ((φ (e,e_2)) < 0))),cH (!(decide ((φ (e,e_2)) < 0)))],[bU (bf 29 aY.ty l0_4)]⟩ hn ?_ ?_
 exact ⟨.e,
 .b hb_2,
 .e,
 .e,
 .e,
 .e,
 .e,
 .i (T:=aY.ty) rfl he,
 .l (T:=aY.ty) rfl (bs he).2.2,
 .e,
 .e,
 .i (T:=aY.ty) rfl he_2,
 .l (T:=aY.ty) rfl (bs he_2).2.2,
 .v (cV (ins:=(fun (x:(aY × aY))=>[.sv (.agg (aY.cl x.1)), .sv (.agg (aY.cl x.2))])) (out:=(fun (r:Int)=>.sv (.one (I r)))) (dom:=dom) (φ:=φ) (e,e_2) hp_2 rfl),
 .e,
 .e,
 .e,
 trivial⟩
 exact bZ (!(decide ((φ (e,e_2)) < 0))) h
 replace h:=h.2 hb_2
 refine da ⟨ba 13 x13 :: (vP dom φ Vk x1 x2 x3_2 x10 x11),[bq x1,cH false,cH false,bJ,bJ,bJ,bJ,bJ,bJ,bJ,bJ,bJ,bJ,bJ,bJ,bJ,cH false],[bU (bf 29 aY.ty l0_4)]⟩ hn ?_ ?_
 exact ⟨.e,
 .b hb_2,
 .e,
 .k,
 .k,
 .k,
 .k,
 .k,
 .k,
 .k,
 .k,
 .k,
 .k,
 .k,
 .k,
 .k,
 .e,
 trivial⟩
 exact bZ false h
 intro x97 h
 replace h:=hJ_4 _ h
 refine bv h (fun h=>?_) (fun h=>?_)
 refine bp (bC ht hn 5 ⟨ba 2 x2 :: bG 10 x10 :: bG 11 x11 :: bx 98 0 :: ba 99 x1 :: ba 100 x2 :: ba 101 x13 :: bg 102 (dv dom φ) :: [lj Vk,ba 3 x3_2,bg 4 (dv dom φ)],[bf 29 aY.ty l0_4]⟩ ?_)
 obtain ⟨hp,h⟩:=h
 refine dz [lj Vk,ba 2 x2,ba 3 x3_2,bg 4 (dv dom φ),bG 10 x10,bG 11 x11,ba 99 x1,ba 100 x2,ba 101 x13,bg 102 (dv dom φ)] (I8 l0_4 x1 x2 x13 dom φ hp) MZ (caps:=[]) [0] hn (by rfl) rfl (by rfl) (eR (by kernel_rfl) (by rfl)) (by kernel_rfl) (by decide) (by kernel_rfl) (by rfl) (by rfl) (fun r_7 hr_7=>⟨by rfl,_,by rfl,?_⟩)
 replace h:=h r_7 hr_7
 refine bM hn ?_
 refine bk hn ?_
 exact bD rfl (bZ (r_7.1,x2,x3_2,x10,x11,r_7.2) h)
 refine bn (bp (bC ht hn 5 ⟨ba 1 x1 :: ba 2 x2 :: (vO x2 x1) :: bx 106 0 :: ba 107 x1 :: ba 108 x2 :: ba 109 x13 :: bg 110 (dv dom φ) :: [lj Vk,ba 3 x3_2,bg 4 (dv dom φ)],[bf 29 aY.ty l0_4]⟩ ?_))
 obtain ⟨hp,h⟩:=h
 refine dz [lj Vk,ba 1 x1,ba 2 x2,ba 3 x3_2,bg 4 (dv dom φ),vO x2 x1,ba 107 x1,ba 108 x2,ba 109 x13,bg 110 (dv dom φ)] (Jc l0_4 x1 x2 x13 dom φ hp) MY (caps:=[]) [0] hn (by rfl) rfl (by rfl) (eR (by kernel_rfl) (by rfl)) (by kernel_rfl) (by decide) (by kernel_rfl) (by rfl) (by rfl) (fun r_8 hr_8=>⟨by rfl,_,by rfl,?_⟩)
 replace h:=h r_8 hr_8
 refine bM hn ?_
 refine bk hn ?_
 refine bk hn ?_
 refine bk hn ?_
 refine bk hn ?_
 refine bv h (fun h=>?_) (fun h=>?_)
 refine bk hn ?_
 refine bp (bC ht hn 5 ⟨ba 2 x2 :: bG 10 (decide ((wr (r_8.1 - x1)) >= (EF x2 x1))) :: bG 11 r_8.2.1 :: ba 16 r_8.1 :: bx 129 0 :: ba 130 x1 :: ba 131 r_8.1 :: ba 132 x3_2 :: bg 133 (dv dom φ) :: [lj Vk,ba 3 x3_2,bg 4 (dv dom φ)],[bf 29 aY.ty r_8.2.2]⟩ ?_)
 obtain ⟨hp,h⟩:=h
 refine dz [lj Vk,ba 2 x2,ba 3 x3_2,bg 4 (dv dom φ),bG 10 (decide ((wr (r_8.1 - x1)) >= (EF x2 x1))),bG 11 r_8.2.1,ba 16 r_8.1,ba 130 x1,ba 131 r_8.1,ba 132 x3_2,bg 133 (dv dom φ)] (ih r_8.2.2 x1 r_8.1 x3_2 hp) LE (caps:=[]) [0] hn (by rfl) rfl (by rfl) (eR (by kernel_rfl) (by rfl)) (by kernel_rfl) (by decide) (by kernel_rfl) (by rfl) (by rfl) (fun r_9 hr_9=>⟨by rfl,_,by rfl,?_⟩)
 replace h:=h r_9 hr_9
 exact bH (cn hn ((wr (r_8.1 + 1)),x2,x3_2,(decide ((wr (r_8.1 - x1)) >= (EF x2 x1))),r_8.2.1,r_9) h)
 refine bk hn ?_
 refine bp (bC ht hn 6 ⟨ba 1 x1 :: bG 10 (decide ((wr (x2 - r_8.1)) >= (EF x2 x1))) :: bG 11 r_8.2.1 :: ba 16 r_8.1 :: bx 140 0 :: ba 142 (wr (r_8.1 + 1)) :: ba 143 x2 :: ba 144 x3_2 :: bg 145 (dv dom φ) :: [lj Vk,ba 3 x3_2,bg 4 (dv dom φ)],[bf 29 aY.ty r_8.2.2]⟩ ?_)
 obtain ⟨hp,h⟩:=h
 refine dz [lj Vk,ba 1 x1,ba 3 x3_2,bg 4 (dv dom φ),bG 10 (decide ((wr (x2 - r_8.1)) >= (EF x2 x1))),bG 11 r_8.2.1,ba 16 r_8.1,ba 142 (wr (r_8.1 + 1)),ba 143 x2,ba 144 x3_2,bg 145 (dv dom φ)] (ih r_8.2.2 (wr (r_8.1 + 1)) x2 x3_2 hp) LE (caps:=[]) [0] hn (by rfl) rfl (by rfl) (eR (by kernel_rfl) (by rfl)) (by kernel_rfl) (by decide) (by kernel_rfl) (by rfl) (by rfl) (fun r_10 hr_10=>⟨by rfl,_,by rfl,?_⟩)
 replace h:=h r_10 hr_10
 exact bH (cn hn (x1,r_8.1,x3_2,(decide ((wr (x2 - r_8.1)) >= (EF x2 x1))),r_8.2.1,r_10) h)
theorem I9 (R:List aY) (a b limit:Int) (dom:((aY × aY) -> Prop)) (φ:((aY × aY) -> Int)) (n:Nat) (hp:xi dom φ R a b limit (n + 1)):tw R a b limit dom φ n (SQ φ R a b):=by
 obtain ⟨⟨hd,ho,ha,hab,hbl,hlen⟩,hlow,hlim,hfuel⟩:=hp
 obtain ⟨A,rfl⟩:∃ A:Nat,a=A:=⟨a.toNat,by omega⟩
 obtain ⟨B,rfl⟩:∃ B:Nat,b=B:=⟨b.toNat,by omega⟩
 unfold tw
 simp only [bE] at hlow
 have fin:∀ (l r:List aY) (x y:Nat),PdI φ R A B l x y -> SQ φ l (x:Int) (y:Int) r -> SQ φ R (A:Int) (B:Int) r:=fun l r x y h1 h2=>by
  unfold SQ at h2 ⊢
  simp only [bE] at h2 ⊢
  exact (h1.perm h2.1).done h2.2
 refine ⟨fun x y k _ _ l=>∃ x' y':Nat,x=x' /\ y=y' /\ 0 <= k /\ k <= 100 /\ PdI φ R A B l x' y',fun x y _ _ _ _=>(y - x).toNat,⟨A,B,rfl,rfl,hlim.1,hlim.2,PdI.start (by omega) hlow⟩,?_⟩
 rintro _ _ k w p l ⟨x,y,rfl,rfl,hk0,hk1,hI⟩
 obtain ⟨q1,q2,q3⟩:=hI.ab
 have hll:=hI.seg.len
 have pre:∀ m,PdI φ R A B m x y -> oB dom φ m (x:Int) (y:Int):=fun m hm=>⟨hd,ho,by omega,by omega,by have:=hm.seg.len; omega,by have:=hm.seg.len; omega⟩
 have wl:wr ((y:Int) - (x:Int))=(y:Int) - x:=bL (by omega) (by omega)
 rw [wl]
 refine ⟨fun _=>⟨pre l hI,fun r hr=>fin l r x y hI hr⟩,fun h12=>⟨fun _=>⟨pre l hI,fun r hr=>fin l r x y hI hr⟩,fun hk=>?_⟩⟩
 have h12:=cx h12
 have hk:k ≠ 0:=by simpa using hk
 refine ⟨fun k' l'=>0 <= k' /\ k' <= 100 /\ PdI φ R A B l' x y,⟨fun _=>⟨pre l hI,fun r hr=>?_⟩,fun _=>⟨hk0,hk1,hI⟩⟩,?_⟩
 ·simp only [bE] at hr
  exact ⟨by rw [bL (by omega) (by omega)]; omega,by rw [bL (by omega) (by omega)]; omega,hI.perm hr⟩
 rintro k2 l2 ⟨k20,k21,hI2⟩
 have hl2:=hI2.seg.len
 refine ⟨⟨hd,⟨by omega,by omega,by omega⟩,by omega⟩,fun pv hpv=>?_⟩
 obtain ⟨pv1,pv2⟩:=hpv
 refine ⟨fun pp _ l'=>(x:Int) <= pp /\ pp < (y:Int) /\ PdI φ R A B l' x y,⟨fun _=>⟨pre l2 hI2,fun r hr=>?_⟩,fun _=>⟨pv1,pv2,hI2⟩⟩,?_⟩
 ·simp only [bE] at hr
  have w1:wr ((y:Int) - 1)=(y:Int) - 1:=bL (by omega) (by omega)
  have w2:wr (pv.1 - (x:Int))=pv.1 - x:=bL (by omega) (by omega)
  rw [w1,w2,bL (by omega) (by omega)]
  exact ⟨by omega,by omega,hI2.perm hr⟩
 rintro pp hint l3 ⟨p1,p2,hI3⟩
 have hl3:=hI3.seg.len
 refine ⟨fun l'=>PdI φ R A B l' x y,⟨fun _=>⟨⟨pre l3 hI3,by simp only [bE]; exact hI3.low⟩,fun r hr=>?_⟩,fun _=>hI3⟩,?_⟩
 ·unfold Ij at hr
  simp only [bE] at hr
  refine ⟨fun e=>?_,fun _=>hI3.perm hr.1⟩
  unfold SQ
  simp only [bE]
  exact (hI3.perm hr.1).done (hr.2 e)
 intro l4 hI4
 have hl4:=hI4.seg.len
 obtain ⟨P,rfl⟩:∃ P:Nat,pp=P:=⟨pp.toNat,by omega⟩
 have mup:∀ x' y':Nat,y' - x' < y - x -> ((y':Int) - (x':Int)).toNat < ((y:Int) - (x:Int)).toNat:=fun x' y' h=>by omega
 refine ⟨fun b'=>b'=true -> 0 < x /\ le φ (gx l4 P) (gx l4 (x - 1)),⟨fun h0=>?_,fun _ e=>(by cases e)⟩,?_⟩
 ·have h0:=ca h0
  have h0:(x:Int) > 0:=h0
  have w1:wr ((x:Int) - 1)=((x - 1:Nat):Int):=by rw [bL (by omega) (by omega)]; omega
  rw [w1]
  refine ⟨_,bB (by omega) (by omega),_,bB (by omega) (by omega),hd _,?_⟩
  rw [bE,bE]
  exact fun e=>⟨by omega,cx (by simpa using e:decide (φ (gx l4 (x - 1),gx l4 P) < 0)=false)⟩
 intro b' hb'
 have prt:pt dom φ l4 (x:Int) (y:Int) (P:Int):=⟨pre l4 hI4,p1,p2⟩
 refine ⟨fun e=>⟨prt,fun r hr=>?_⟩,fun _=>⟨prt,fun r hr=>?_⟩⟩
 ·obtain ⟨e1,e2⟩:=hb' e
  obtain ⟨m,s⟩:=r
  obtain ⟨m1,m2⟩:=hr.mid
  have m1:(x:Int) < m:=m1
  have m2:m <= (y:Int):=m2
  have hE:=hI4.equal ho ⟨by omega,by omega⟩ e1 e2 hr
  refine ⟨⟨m.toNat,y,by show m=_; omega,rfl,k20,k21,hE⟩,?_⟩
  show ((y:Int) - m).toNat < ((y:Int) - (x:Int)).toNat
  omega
 obtain ⟨m,al,s⟩:=r
 obtain ⟨m1,m2⟩:=hr.mid
 have m1:(x:Int) <= m:=m1
 have m2:m < (y:Int):=m2
 obtain ⟨M,rfl⟩:∃ M:Nat,m=M:=⟨m.toNat,by omega⟩
 obtain ⟨g1,g2,hP,gl,gh⟩:=hI4.part hr
 have hls:=hP.seg.len
 have w1:wr ((M:Int) + 1)=((M + 1:Nat):Int):=by rw [bL (by omega) (by omega)]; omega
 simp only [w1]
 refine ⟨fun _=>⟨⟨⟨hd,ho,by omega,by omega,by show (M:Int) <= (s.length:Int); omega,by show s.length <= _; omega⟩,?_,⟨k20,k21⟩,by omega⟩,fun t ht=>?_⟩,fun _=>⟨⟨⟨hd,ho,by omega,by omega,by show (y:Int) <= (s.length:Int); omega,by show s.length <= _; omega⟩,?_,⟨k20,k21⟩,by omega⟩,fun t ht=>?_⟩⟩
 ·simp only [bE]
  exact fun h0 k c1 c2=>hP.low h0 k c1 (by omega)
 ·unfold SQ at ht
  simp only [bE] at ht
  exact ⟨⟨M + 1,y,rfl,rfl,k20,k21,hP.left ho ⟨g1,g2⟩ gl gh ht.1 ht.2⟩,mup _ _ (by omega)⟩
 ·simp only [bE]
  exact fun _ k c1 c2=>gh k (by omega) c2
 ·unfold SQ at ht
  simp only [bE] at ht
  exact ⟨⟨x,M,rfl,rfl,k20,k21,hP.right ho ⟨g1,g2⟩ gl gh ht.1 ht.2⟩,mup _ _ (by omega)⟩
theorem KH (dom:((aY × aY) -> Prop)) (φ:((aY × aY) -> Int)):∀ n,PdC dom φ n
 | 0=>fun R a b limit h=>by
  have h1:=h.fuel
  have h2:=h.pre.ab
  omega
 | n + 1=>fun R a b limit h=>Ei R a b limit dom φ n (KH dom φ n) _ (I9 R a b limit dom φ n h)
theorem Ja (R:List aY) (a b limit:Int) (dom:((aY × aY) -> Prop)) (φ:((aY × aY) -> Int)) (hp:xi dom φ R a b limit 1000001):fj 74 [.sv (.one (.own 0)), .sv (.one (I a)), .sv (.one (I b)), .sv (.one (I limit)), .sv (.one (dv dom φ))] [bf 29 aY.ty R] [0] (SQ φ R a b) (fun (_:List aY)=>.tup []) (fun (r:List aY)=>[bf 29 aY.ty r]):=KH dom φ 1000001 R a b limit hp
def tm (R:List aY) (dom:((aY × aY) -> Prop)) (φ:((aY × aY) -> Int)) (Q:(List aY) -> Prop):Prop:=
 (0 <= (IntKind.wrap .u64 (R.length:Int)) /\ (IntKind.wrap .u64 (R.length:Int)) < 1048576) /\
 ∀ r:Int,(sq (IntKind.wrap .u64 (R.length:Int))) r ->
 ((xi dom φ R 0 (R.length:Int) r 1000001) /\
 ∀ r_2:(List aY),(SQ φ R 0 (R.length:Int)) r_2 ->
 (Q r_2))
theorem Ed (R:List aY) (dom:((aY × aY) -> Prop)) (φ:((aY × aY) -> Int)) (Q:(List aY) -> Prop) (h:tm R dom φ Q):fj 54 [.sv (.one (.own 0)), .sv (.one (dv dom φ))] [bf 29 aY.ty R] [0] Q (fun (r:List aY)=>.tup []) (fun (r:List aY)=>[bf 29 aY.ty r]):=by
 have ht:=bA
 refine eZ Tryz.func54 rfl rfl rfl (by kernel_rfl) (fun c Vk hn=>?_)
 unfold tm at h
 refine bk hn ?_
 refine bI (bC ht hn 4 ⟨[bg 0 (.pown 0 (Vk 0)),bg 1 (dv dom φ),bx 7 0,ba 8 (R.length:Int),bg 10 (.v (.int .u64 (IntKind.wrap .u64 (R.length:Int))))],[bf 29 aY.ty R]⟩ ?_)
 obtain ⟨hp,h⟩:=h
 refine fw (Q:=sq (IntKind.wrap .u64 (R.length:Int))) (x:=fun (r:Int)=>.sv (.one (I r))) (p:=fun _=>none) hn (by rfl) (eH (zm (IntKind.wrap .u64 (R.length:Int)) hp) LF (caps:=[]) [] rfl (by rfl) (by kernel_rfl) (by kernel_rfl) (by rfl) (fun _=>rfl) (by rfl)) (fun r hr_2=>⟨by rfl,_,by rfl,?_⟩)
 replace h:=h r hr_2
 refine bC ht hn 1 ⟨[bg 0 (.pown 0 (Vk 0)),bx 7 0,ba 8 (R.length:Int),ba 11 r,bg 12 (dv dom φ)],[bf 29 aY.ty R]⟩ ?_
 obtain ⟨hp,h⟩:=h
 refine dz [bg 0 (.pown 0 (Vk 0)),ba 8 (R.length:Int),ba 11 r,bg 12 (dv dom φ)] (Ja R 0 (R.length:Int) r dom φ hp) LE (caps:=[]) [0] hn (by rfl) rfl (by rfl) (eR (by kernel_rfl) (by rfl)) (by kernel_rfl) (by decide) (by kernel_rfl) (by rfl) (by rfl) (fun r_2 hr_2_2=>⟨by rfl,_,by rfl,?_⟩)
 replace h:=h r_2 hr_2_2
 exact bH (d4 [0] ht r_2 h (by kernel_rfl) (by rfl) rfl)
theorem Nu : ∀ args w,(callFunc 54 args).run Tryz.prog w=.ok (.enter 54 args) w:=enters_of Tryz.func54 (by kernel_rfl) rfl
structure B9 {X:Type} [Inhabited X] (dom:X × X -> Prop) (φ:X × X -> Int) (R:List X):Prop where
 dom:∀ z,dom z
 ord:Ord φ
 len:R.length <= 1000000
theorem I0 (R:List aY) (dom:((aY × aY) -> Prop)) (φ:((aY × aY) -> Int)) (hp:B9 dom φ R)  : tm R dom φ (SQ φ R 0 (R.length:Int)):=by
 obtain ⟨hd,ho,hl⟩:=hp
 unfold tm
 rw [ry (by omega)]
 refine ⟨⟨by omega,by omega⟩,fun r hr=>⟨⟨⟨hd,ho,eN _,by omega,eN _,hl⟩,fun h0=>absurd h0 (Nat.lt_irrefl 0),⟨hr.1,by have:=hr.2.1; omega⟩,by omega⟩,fun _ h=>h⟩⟩
theorem I1 (R:List aY) (dom:((aY × aY) -> Prop)) (φ:((aY × aY) -> Int)) (hp:B9 dom φ R)  : fj 54 [.sv (.one (.own 0)), .sv (.one (dv dom φ))] [bf 29 aY.ty R] [0] (SQ φ R 0 (R.length:Int)) (fun (r:List aY)=>.tup []) (fun (r:List aY)=>[bf 29 aY.ty r]):=Ed R dom φ _ (I0 R dom φ hp)
def nu (l:List Int) (dom:(Int -> Prop)) (φ:(Int -> Bool)) (Q:Int -> Prop):Prop:=
 l.length <= 9223372036854775807 ->
 (∃ (Inv:Int -> Prop) (mu:Int -> Nat),Inv 0 /\
 ∀ x8,Inv x8 -> (cv (decide (x8 < (l.length:Int))) (∃ e,cq l x8=some e /\
 (dom e) /\
 cv (φ e) (Q x8) ((Inv (wr (x8 + 1)) /\ mu (wr (x8 + 1)) < mu x8))) (Q (-1))))
theorem vQ (l:List Int) (dom:(Int -> Prop)) (φ:(Int -> Bool)) (Q:Int -> Prop) (h:nu l dom φ Q):Ct 58 [.sv (.one (LS aZ l)), .sv (.one (fv1 dom φ))] [] Q (fun (r:Int)=>.sv (.one (I r))):=by
 have ht:=bA
 refine Ct.body Tryz.func58 rfl rfl rfl rfl (fun c hn=>?_)
 unfold nu at h
 refine de 0 (by rfl) (fun hl=>?_)
 replace h:=h hl
 clear hl
 refine bk hn ?_
 refine bi (bk hn ?_)
 refine bj (fC h (fun zz=>⟨[bg 0 (LS aZ l),bg 1 (fv1 dom φ),ba 7 (l.length:Int),ba 8 zz],[]⟩) fun Inv mu x8 h=>?_)
 refine bk hn ?_
 refine bi (bv h (fun h=>?_) (fun h=>?_))
 refine bn (bi (bj (bk hn ?_)))
 refine bp (bC ht hn 3 ⟨[bg 0 (LS aZ l),bg 1 (fv1 dom φ),ba 5 x8,ba 7 (l.length:Int),ba 8 x8,bg 11 (fv1 dom φ),bg 12 (LS aZ l),ba 13 x8],[]⟩ ?_)
 obtain ⟨e,he,h⟩:=h
 refine fe hn (gQ (T:=aZ) (l:=l) (i:=x8) ht rfl he) ?_
 refine fe hn (fQ (s:=.one (I e)) ht rfl) ?_
 obtain ⟨hp,h⟩:=h
 refine i9 hn (fG e hp rfl (by rfl) (by rfl) (by rfl) (by rfl)) ?_
 refine bH (bv h (fun h=>?_) (fun h=>?_))
 exact cD hn x8 h
 exact bn (cn hn (wr (x8 + 1)) h)
 exact bD rfl (cD hn (-1) h)
theorem Nr : ∀ args w,(callFunc 58 args).run Tryz.prog w=.ok (.enter 58 args) w:=enters_of Tryz.func58 (by kernel_rfl) rfl
theorem AH (l:List Int) (dom:Int -> Prop) (φ:Int -> Bool) (hd:∀ x ∈ l,dom x):Ct 58 [.sv (.one (LS aZ l)), .sv (.one (fv1 dom φ))] [] (fun (_:Unit)=>True) (fun _=>.sv (.one (I (fI φ l)))):=by
 refine (vQ l dom φ (fun r=>r=fI φ l) ?_).fun
 unfold nu
 exact nt l dom φ hd
def sh (l:List Int) (dom:(Int -> Prop)) (φ:(Int -> Bool)) (Q:Bool -> Prop):Prop:=
 l.length <= 9223372036854775807 ->
 ((∀ x_ ∈ l,dom x_) /\
 Q (decide ((fI φ l) >= 0)))
theorem A6 (l:List Int) (dom:(Int -> Prop)) (φ:(Int -> Bool)) (Q:Bool -> Prop) (h:sh l dom φ Q):Ct 27 [.sv (.one (LS aZ l)), .sv (.one (fv1 dom φ))] [] Q (fun (r:Bool)=>.sv (.one (B r))):=by
 have ht:=bA
 refine Ct.body Tryz.func27 rfl rfl rfl rfl (fun c hn=>?_)
 unfold sh at h
 refine de 0 (by rfl) (fun hl=>?_)
 replace h:=h hl
 clear hl
 refine bk hn ?_
 refine bp (cN hn 2 ?_)
 obtain ⟨hp,h⟩:=h
 refine fK hn (cL (AH l dom φ hp) Nr rfl) ?_
 refine bM hn ?_
 exact fL ht (decide ((fI φ l) >= 0)) h
theorem Ka : ∀ args w,(callFunc 27 args).run Tryz.prog w=.ok (.enter 27 args) w:=enters_of Tryz.func27 (by kernel_rfl) rfl
theorem og (l:List Int) (dom:Int -> Prop) (φ:Int -> Bool) (hd:∀ x ∈ l,dom x):Ct 27 [.sv (.one (LS aZ l)), .sv (.one (fv1 dom φ))] [] (fun (_:Unit)=>True) (fun _=>.sv (.one (B (l.any φ)))):=by
 refine (A6 l dom φ (fun r=>r=l.any φ) ?_).fun
 unfold sh
 exact fun _=>⟨hd,by rw [<- jX φ l]⟩
def jN (l:List aY) (dom:(aY -> Prop)) (φ:(aY -> Bool)) (Q:Int -> Prop):Prop:=
 l.length <= 9223372036854775807 ->
 (∃ (Inv:Int -> Prop) (mu:Int -> Nat),Inv 0 /\
 ∀ x8,Inv x8 -> (cv (decide (x8 < (l.length:Int))) (∃ e,cq l x8=some e /\
 (dom e) /\
 cv (φ e) (Q x8) ((Inv (wr (x8 + 1)) /\ mu (wr (x8 + 1)) < mu x8))) (Q (-1))))
theorem pQ (l:List aY) (dom:(aY -> Prop)) (φ:(aY -> Bool)) (Q:Int -> Prop) (h:jN l dom φ Q):Ct 59 [.sv (.one (LS aY.ty l)), .sv (.one (.rd (fvR (fun x=>[.sv (.agg [I x.am,I x.az,I x.aA])]) (fun b=>.sv (.one (B b))) dom φ)))] [] Q (fun (r:Int)=>.sv (.one (I r))):=by
 have ht:=bA
 refine Ct.body Tryz.func59 rfl rfl rfl rfl (fun c hn=>?_)
 unfold jN at h
 refine de 0 (by rfl) (fun hl=>?_)
 replace h:=h hl
 clear hl
 refine bk hn ?_
 refine bi (bk hn ?_)
 refine bj (fC h (fun zz=>⟨[bg 0 (LS aY.ty l),bg 1 (.rd (fvR (fun x=>[.sv (.agg (aY.cl x))]) (fun b=>.sv (.one (B b))) dom φ)),ba 7 (l.length:Int),ba 8 zz],[]⟩) fun Inv mu x8 h=>?_)
 refine bk hn ?_
 refine bi (bv h (fun h=>?_) (fun h=>?_))
 refine bn (bi (bj (bk hn ?_)))
 refine bp (bC ht hn 3 ⟨[bg 0 (LS aY.ty l),bg 1 (.rd (fvR (fun x=>[.sv (.agg (aY.cl x))]) (fun b=>.sv (.one (B b))) dom φ)),ba 5 x8,ba 7 (l.length:Int),ba 8 x8,bg 11 (.rd (fvR (fun x=>[.sv (.agg (aY.cl x))]) (fun b=>.sv (.one (B b))) dom φ)),bg 12 (LS aY.ty l),ba 13 x8],[]⟩ ?_)
 obtain ⟨e,he,h⟩:=h
 refine fe hn (gQ (T:=aY.ty) (l:=l) (i:=x8) ht rfl he) ?_
 refine fe hn (fQ (s:=.agg (aY.cl e)) ht rfl) ?_
 obtain ⟨hp,h⟩:=h
 refine i9 hn (fG e hp rfl (by rfl) (by rfl) (by rfl) (by rfl)) ?_
 refine bH (bv h (fun h=>?_) (fun h=>?_))
 exact cD hn x8 h
 exact bn (cn hn (wr (x8 + 1)) h)
 exact bD rfl (cD hn (-1) h)
theorem Nq : ∀ args w,(callFunc 59 args).run Tryz.prog w=.ok (.enter 59 args) w:=enters_of Tryz.func59 (by kernel_rfl) rfl
theorem sY (l:List aY) (dom:aY -> Prop) (φ:aY -> Bool) (hd:∀ x ∈ l,dom x):Ct 59 [.sv (.one (LS aY.ty l)), .sv (.one (.rd (fvR (fun x=>[.sv (.agg [I x.am,I x.az,I x.aA])]) (fun b=>.sv (.one (B b))) dom φ)))] [] (fun (_:Unit)=>True) (fun _=>.sv (.one (I (fI φ l)))):=by
 refine (pQ l dom φ (fun r=>r=fI φ l) ?_).fun
 unfold jN
 exact nt l dom φ hd
def lq (l:List aY) (dom:(aY -> Prop)) (φ:(aY -> Bool)) (Q:Bool -> Prop):Prop:=
 l.length <= 9223372036854775807 ->
 ((∀ x_ ∈ l,dom x_) /\
 Q (decide ((fI φ l) >= 0)))
theorem s9 (l:List aY) (dom:(aY -> Prop)) (φ:(aY -> Bool)) (Q:Bool -> Prop) (h:lq l dom φ Q):Ct 28 [.sv (.one (LS aY.ty l)), .sv (.one (.rd (fvR (fun x=>[.sv (.agg [I x.am,I x.az,I x.aA])]) (fun b=>.sv (.one (B b))) dom φ)))] [] Q (fun (r:Bool)=>.sv (.one (B r))):=by
 have ht:=bA
 refine Ct.body Tryz.func28 rfl rfl rfl rfl (fun c hn=>?_)
 unfold lq at h
 refine de 0 (by rfl) (fun hl=>?_)
 replace h:=h hl
 clear hl
 refine bk hn ?_
 refine bp (cN hn 2 ?_)
 obtain ⟨hp,h⟩:=h
 refine fK hn (cL (sY l dom φ hp) Nq rfl) ?_
 refine bM hn ?_
 exact fL ht (decide ((fI φ l) >= 0)) h
theorem NM : ∀ args w,(callFunc 28 args).run Tryz.prog w=.ok (.enter 28 args) w:=enters_of Tryz.func28 (by kernel_rfl) rfl
theorem vV (l:List aY) (dom:aY -> Prop) (φ:aY -> Bool) (hd:∀ x ∈ l,dom x):Ct 28 [.sv (.one (LS aY.ty l)), .sv (.one (.rd (fvR (fun x=>[.sv (.agg [I x.am,I x.az,I x.aA])]) (fun b=>.sv (.one (B b))) dom φ)))] [] (fun (_:Unit)=>True) (fun _=>.sv (.one (B (l.any φ)))):=by
 refine (s9 l dom φ (fun r=>r=l.any φ) ?_).fun
 unfold lq
 exact fun _=>⟨hd,by rw [<- jX φ l]⟩
def zj (l:List Int) (Q:Bool -> Prop):Prop:=
 l.length <= 9223372036854775807 ->
 (∃ (Inv:Int -> Prop) (mu:Int -> Nat),Inv 0 /\
 ∀ x6,Inv x6 -> (cv (decide (x6 < (l.length:Int))) (∃ J:Bool -> Prop,(cv (decide (x6 > 0)) (∃ e,cq l (wr (x6 - 1))=some e /\
 ∃ e_2,cq l x6=some e_2 /\
 J (decide (e >= e_2))) (J false)) /\
 (∀ x22,J x22 -> cv x22 (Q false) ((Inv (wr (x6 + 1)) /\ mu (wr (x6 + 1)) < mu x6)))) (Q true)))
abbrev GR (l:List Int) (y0:Int):=([bg 0 (LS aZ l),bg 3 (I y0),bg 5 (I (l.length:Int)),bg 6 (I y0),bg 9 (I y0),bg 10 (B (decide (y0 > 0)))]:List (Nat × SC))
theorem Fw (l:List Int) (Q:Bool -> Prop) (h:zj l Q):Ct 30 [.sv (.one (LS aZ l))] [] Q (fun (r:Bool)=>.sv (.one (B r))):=by
 have ht:=bA
 refine Ct.body Tryz.func30 rfl rfl rfl rfl (fun c hn=>?_)
 unfold zj at h
 refine de 0 (by rfl) (fun hl=>?_)
 replace h:=h hl
 clear hl
 refine bk hn ?_
 refine bi (bk hn ?_)
 refine bj (fC h (fun zz=>⟨[bg 0 (LS aZ l),ba 5 (l.length:Int),ba 6 zz],[]⟩) fun Inv mu x6 h=>?_)
 refine bk hn ?_
 refine bi (bv h (fun h=>?_) (fun h=>?_))
 refine bn (bi (bj (bp (cw ht hn 2 ⟨[bg 0 (LS aZ l),ba 3 x6,ba 5 (l.length:Int),ba 6 x6],[]⟩ ?_))))
 obtain ⟨J,h,hJ⟩:=h
 refine bS (σ:=Bool) (fun zz=>J zz) (fun zz=>⟨[bg 0 (LS aZ l),ba 5 (l.length:Int),ba 6 x6,bG 22 zz],[]⟩) ?_ ?_
 refine fU (by kernel_rfl) (by kernel_rfl) ?_
 refine eV ht hn 3 ⟨bG 11 (decide (x6 > 0)) :: (GR l x6),[]⟩ (by kernel_rfl) ?_
 refine cz (decide (x6 > 0)) (fun hb=>?_) (fun hb=>?_)
 replace h:=h.1 hb
 refine DF 11 hb (by kernel_rfl) ?_
 refine eV ht hn 3 ⟨bG 11 true :: bg 12 (LS aZ l) :: ba 13 x6 :: ba 14 (wr (x6 - 1)) :: (GR l x6),[]⟩ (by kernel_rfl) ?_
 obtain ⟨e,he,h⟩:=h
 refine dr hn (by rfl) (gQ (T:=aZ) (l:=l) (i:=(wr (x6 - 1))) ht rfl he) (by rfl) ?_
 refine dr hn (by rfl) (fQ (s:=.one (I e)) ht rfl) (by rfl) ?_
 refine eV ht hn 2 ⟨bG 11 true :: bg 12 (LS aZ l) :: ba 13 x6 :: ba 14 (wr (x6 - 1)) :: bg 15 (.pe (eu (.one (I e))) 1) :: ba 16 e :: bg 17 (LS aZ l) :: ba 18 x6 :: (GR l x6),[]⟩ (by kernel_rfl) ?_
 obtain ⟨e_2,he_2,h⟩:=h
 refine dr hn (by rfl) (gQ (T:=aZ) (l:=l) (i:=x6) ht rfl he_2) (by rfl) ?_
 refine dr hn (by rfl) (fQ (s:=.one (I e_2)) ht rfl) (by rfl) ?_
 refine eV ht hn 2 ⟨bG 11 true :: bg 12 (LS aZ l) :: ba 13 x6 :: ba 14 (wr (x6 - 1)) :: bg 15 (.pe (eu (.one (I e))) 1) :: ba 16 e :: bg 17 (LS aZ l) :: ba 18 x6 :: bg 19 (.pe (eu (.one (I e_2))) 1) :: ba 20 e_2 :: bG 21 (decide (e >= e_2)) :: bG 22 (decide (e >= e_2)) :: (GR l x6),[]⟩ (by kernel_rfl) ?_
 refine lu ⟨by kernel_rfl,?_⟩
 exact bZ (decide (e >= e_2)) h
 replace h:=h.2 hb
 refine DF 11 hb (by kernel_rfl) ?_
 refine eV ht hn 11 ⟨bG 11 false :: (12, .tup []) :: (13, .tup []) :: (14, .tup []) :: (15, .tup []) :: (16, .tup []) :: (17, .tup []) :: (18, .tup []) :: (19, .tup []) :: (20, .tup []) :: (21, .tup []) :: bG 22 false :: (GR l x6),[]⟩ (by kernel_rfl) ?_
 refine lu ⟨by kernel_rfl,?_⟩
 exact bZ false h
 intro x22 h
 replace h:=hJ _ h
 refine bv h (fun h=>?_) (fun h=>?_)
 exact cD hn false h
 exact bn (cn hn (wr (x6 + 1)) h)
 exact bD rfl (cD hn true h)
theorem Mu : ∀ args w,(callFunc 30 args).run Tryz.prog w=.ok (.enter 30 args) w:=enters_of Tryz.func30 (by kernel_rfl) rfl
open Classical in
def nh (l:List Int):Bool:=decide (Ris l)
open Classical in
theorem rD {l:List Int} (h:Ris l):nh l=true:=decide_eq_true h
open Classical in
theorem Bu {l:List Int} (h:¬ Ris l):nh l=false:=decide_eq_false h
open Classical in
theorem CR {l:List Int} (h:nh l=true):Ris l:=ca h
theorem GD {l:List Int} (h:∀ k,k + 1 < l.length -> gx l k < gx l (k + 1)):Ris l:=fun i j hij hj=>by
 induction j with
 | zero=>omega
 | succ j ih =>
  rcases cU.1 hij with c | rfl
  ·exact Int.lt_trans (ih c (by omega)) (h j hj)
  ·exact h i hj
def f5 (x y:Int):Int:=if x < y then -1 else if x > y then 1 else 0
def orI : List Int -> Int
 | []=>0
 | a :: l=>if a ≠ 0 then a else orI l
theorem Dy (l:List Int)  : Ct 30 [.sv (.one (LS aZ l))] [] (fun (_:Unit)=>True) (fun _=>.sv (.one (B (nh l)))):=by
 refine (Fw l (fun res_=>res_=(nh l)) ?_).fun
 unfold zj
 intro _
 refine ⟨fun x=>∃ k:Nat,x=k /\ k <= l.length /\ ∀ i,i + 1 < k -> gx l i < gx l (i + 1),fun x=>l.length - x.toNat,⟨0,rfl,cy _,fun i hi=>by omega⟩,?_⟩
 rintro x ⟨k,rfl,hk,hI⟩
 refine ⟨fun hb=>?_,fun hb=>?_⟩
 rotate_left
 ·have hb:=dge hb
  show true=nh l
  rw [rD (GD fun i hi=>hI i (by omega))]
 have hlt:=dlt hb
 refine ⟨fun b=>b=(decide (0 < k) && decide (gx l (k - 1) >= gx l k)),⟨fun hc=>?_,fun hc=>?_⟩,?_⟩
 ·have hc:=ca hc
  have w:wr ((k:Int) - 1)=((k - 1:Nat):Int):=by rw [bL (by omega) (by omega)]; omega
  rw [w]
  refine ⟨_,bB (by omega) (by omega),_,bB (by omega) (by omega),?_⟩
  rw [bE,bE,decide_eq_true (show 0 < k by omega),mT]
 ·have hc:=cx hc
  show false=(_ && _)
  rw [decide_eq_false (show ¬ 0 < k by omega)]
  rfl
 rintro _ rfl
 refine ⟨fun hc=>?_,fun hc=>⟨⟨k + 1,dj (by omega),hlt,fun i hi=>?_⟩,dQ hlt (by omega)⟩⟩
 ·obtain ⟨c1,c2⟩:=Bool.and_eq_true_iff.1 hc
  have c1:=ca c1
  have c2:=ca c2
  show false=nh l
  rw [Bu fun h=>?_]
  have:=h (k - 1) k (by omega) hlt
  omega
 ·rcases dA (i + 1) k with c | c
  ·exact hI i c
  ·obtain rfl:k=i + 1:=by omega
   rw [decide_eq_true (show 0 < i + 1 by omega),mT] at hc
   have hc:=cx hc
   rw [Nat.add_sub_cancel] at hc
   omega
def yX (x:Int) (y:Int) (Q:Int -> Prop):Prop:=
 cv (false) (cv (false) (Q 0) (Q (-1))) (cv (false) (Q 1) (cv (decide (x < y)) (Q (-1)) (cv (decide (x > y)) (Q 1) (Q 0))))
theorem Fk (x:Int) (y:Int) (Q:Int -> Prop) (h:yX x y Q):Ct 61 [.sv (.one (I x)), .sv (.one (I y))] [] Q (fun (r:Int)=>.sv (.one (I r))):=by
 have ht:=bA
 refine Ct.body Tryz.func61 rfl rfl rfl rfl (fun c hn=>?_)
 unfold yX at h
 refine bk hn ?_
 refine bp (cN hn 1 ?_)
 refine fK hn (cL (pP x) J8 rfl) ?_
 refine bM hn ?_
 refine bp (cN hn 1 ?_)
 refine fK hn (cL (pP y) J8 rfl) ?_
 refine bM hn ?_
 refine bi (bk hn ?_)
 refine bv h (fun h=>?_) (fun h=>?_)
 refine bi (bk hn ?_)
 refine bv h (fun h=>?_) (fun h=>?_)
 exact cD hn 0 h
 exact bn (cD hn (-1) h)
 refine bn (bi (bk hn ?_))
 refine bv h (fun h=>?_) (fun h=>?_)
 exact cD hn 1 h
 refine bn (bi (bk hn ?_))
 refine bv h (fun h=>?_) (fun h=>?_)
 exact cD hn (-1) h
 refine bn (bi (bk hn ?_))
 refine bv h (fun h=>?_) (fun h=>?_)
 exact cD hn 1 h
 exact bn (cD hn 0 h)
theorem LG : ∀ args w,(callFunc 61 args).run Tryz.prog w=.ok (.enter 61 args) w:=enters_of Tryz.func61 (by kernel_rfl) rfl
theorem yY (x:Int) (y:Int)  : Ct 61 [.sv (.one (I x)), .sv (.one (I y))] [] (fun (_:Unit)=>True) (fun _=>.sv (.one (I (f5 x y)))):=by
 refine (Fk x y (fun res_=>res_=(f5 x y)) ?_).fun
 unfold yX f5
 refine ⟨fun h=>Bool.noConfusion h,fun _=>⟨fun h=>Bool.noConfusion h,fun _=>⟨fun h=>?_,fun h=>⟨fun h2=>?_,fun h2=>?_⟩⟩⟩⟩
 ·have h:=ca h; rw [if_pos h]
 ·have h:=cx h; have h2:=ca h2; rw [if_neg h,if_pos h2]
 ·have h:=cx h; have h2:=cx h2; rw [if_neg h,if_neg h2]
def yT (l:List Int) (Q:Int -> Prop):Prop:=
 l.length <= 9223372036854775807 ->
 (∃ (Inv:Int -> Prop) (mu:Int -> Nat),Inv 0 /\
 ∀ x8,Inv x8 -> (cv (decide (x8 < (l.length:Int))) (∃ e,cq l x8=some e /\
 cv (e != 0) (Q e) ((Inv (wr (x8 + 1)) /\ mu (wr (x8 + 1)) < mu x8))) (Q 0)))
theorem Fi (l:List Int) (Q:Int -> Prop) (h:yT l Q):Ct 60 [.sv (.one (LS aZ l))] [] Q (fun (r:Int)=>.sv (.one (I r))):=by
 have ht:=bA
 refine Ct.body Tryz.func60 rfl rfl rfl rfl (fun c hn=>?_)
 unfold yT at h
 refine de 0 (by rfl) (fun hl=>?_)
 replace h:=h hl
 clear hl
 refine bk hn ?_
 refine bk hn ?_
 refine bi (bk hn ?_)
 refine bj (fC h (fun zz=>⟨[ba 3 0,bg 6 (LS aZ l),ba 7 (l.length:Int),ba 8 zz],[]⟩) fun Inv mu x8 h=>?_)
 refine bk hn ?_
 refine bi (bv h (fun h=>?_) (fun h=>?_))
 refine bn (bi (bj (bp ?_)))
 obtain ⟨e,he,h⟩:=h
 refine bT hn (iX (T:=aZ) rfl he) ?_
 refine bT hn (lD (s:=.one (I e)) rfl) ?_
 refine bM hn ?_
 refine bk hn ?_
 refine bv h (fun h=>?_) (fun h=>?_)
 exact cD hn e h
 exact bn (cn hn (wr (x8 + 1)) h)
 exact bD rfl (cD hn 0 h)
theorem Np : ∀ args w,(callFunc 60 args).run Tryz.prog w=.ok (.enter 60 args) w:=enters_of Tryz.func60 (by kernel_rfl) rfl
theorem Ke (l:List Int)  : Ct 60 [.sv (.one (LS aZ l))] [] (fun (_:Unit)=>True) (fun _=>.sv (.one (I (orI l)))):=by
 refine (Fi l (fun res_=>res_=(orI l)) ?_).fun
 unfold yT
 intro _
 refine ⟨fun x=>∃ k:Nat,x=k /\ k <= l.length /\ orI (l.drop k)=orI l,fun x=>l.length - x.toNat,⟨0,rfl,cy _,rfl⟩,?_⟩
 rintro x ⟨k,rfl,hk,hI⟩
 refine ⟨fun hb=>?_,fun hb=>?_⟩
 ·have hlt:=dlt hb
  rw [tU hlt,orI] at hI
  refine ⟨_,eP hlt,fun h=>?_,fun h=>⟨⟨k + 1,dj (by omega),hlt,?_⟩,dQ hlt (by omega)⟩⟩
  ·have h:l[k] ≠ 0:=by simpa using h
   rw [if_pos h] at hI
   exact hI
  ·have h:l[k]=0:=by simpa using h
   rw [if_neg (by simp [h])] at hI
   exact hI
 ·rw [List.drop_eq_nil_of_le (dge hb)] at hI
  exact hI
def DA (x:aY) (y:aY) (Q:Int -> Prop):Prop:=
 Q (orI ([(f5 x.am y.am),(f5 x.az y.az),(f5 x.aA y.aA)]:List Int))
abbrev Lq (x:aY) (y:aY):=(orI ([(f5 x.am y.am),(f5 x.az y.az),(f5 x.aA y.aA)]:List Int))
theorem Fy (x:aY) (y:aY) (Q:Int -> Prop) (h:DA x y Q):Ct 31 [.sv (.agg [I x.am,I x.az,I x.aA]), .sv (.agg [I y.am,I y.az,I y.aA])] [] Q (fun (r:Int)=>.sv (.one (I r))):=by
 have ht:=bA
 refine Ct.body Tryz.func31 rfl rfl rfl rfl (fun c hn=>?_)
 unfold DA at h
 refine bk hn ?_
 refine bi (da ⟨[bu 2 0 0,bu 3 1 0],[cQ 0 0,bq x.am,cQ 1 0,bq y.am,bq (f5 x.am y.am),cQ 0 1,bq x.az,cQ 1 1,bq y.az,bq (f5 x.az y.az),cQ 0 2,bq x.aA,cQ 1 2,bq y.aA,bq (f5 x.aA y.aA),cu 2,bq (Lq x y),bq (Lq x y)],[bU (.box (aY.cl x) 29 false),bU (.box (aY.cl y) 29 false),⟨bf 3 aZ ([f5 x.am y.am,f5 x.az y.az,f5 x.aA y.aA]:List Int),some 15,none,none⟩]⟩ hn ?_ ?_)
 exact ⟨.e,
 .e,
 .e,
 .e,
 .v (cL (yY x.am y.am) LG rfl),
 .e,
 .e,
 .e,
 .e,
 .v (cL (yY x.az y.az) LG rfl),
 .e,
 .e,
 .e,
 .e,
 .v (cL (yY x.aA y.aA) LG rfl),
 .mt ⟨[ba 9 (f5 x.am y.am),ba 14 (f5 x.az y.az),ba 19 (f5 x.aA y.aA)],[]⟩ [] (some 2) (by kernel_rfl) (by rfl) (lI (T:=aZ) ([f5 x.am y.am,f5 x.az y.az,f5 x.aA y.aA]:List Int) 2 rfl) rfl rfl rfl rfl,
 .mt ⟨[bx 20 2],[.gone, .gone,bf 3 aZ ([f5 x.am y.am,f5 x.az y.az,f5 x.aA y.aA]:List Int)]⟩ [] none (by kernel_rfl) (by rfl) (JN (T:=aZ) (l:=([f5 x.am y.am,f5 x.az y.az,f5 x.aA y.aA]:List Int)) 2 (by rfl) (by rfl) (BH (Ke ([f5 x.am y.am,f5 x.az y.az,f5 x.aA y.aA]:List Int)) Np rfl)) rfl rfl rfl rfl,
 .e,
 trivial⟩
 exact fL ht (Lq x y) h
theorem Mt : ∀ args w,(callFunc 31 args).run Tryz.prog w=.ok (.enter 31 args) w:=enters_of Tryz.func31 (by kernel_rfl) rfl
def jU (x y:aY):Int:=orI [f5 x.am y.am,f5 x.az y.az,f5 x.aA y.aA]
theorem DB (x:aY) (y:aY)  : Ct 31 [.sv (.agg [I x.am,I x.az,I x.aA]), .sv (.agg [I y.am,I y.az,I y.aA])] [] (fun (_:Unit)=>True) (fun _=>.sv (.one (I (jU x y)))):=by
 refine (Fy x y (fun res_=>res_=(jU x y)) ?_).fun
 exact rfl
def B5 (q:Int) (a:bd) (Q:Bool -> Prop):Prop:=
 Q ((decide (q < 0)) || (decide (q >= a.ac)))
theorem HW (q:Int) (a:bd) (Q:Bool -> Prop) (h:B5 q a Q):Ct 26 [.sv (.one (I q)), .sv (.one (.ptr 0 0))] [.box [I a.ae,I a.ac,LS aZ a.af,LS aY.ty a.ar,LS aZ a.av] 25 true] Q (fun (r:Bool)=>.sv (.one (B r))):=by
 have ht:=bA
 refine Ct.body Tryz.func26 rfl rfl rfl rfl (fun c hn=>?_)
 unfold B5 at h
 refine bk hn ?_
 refine bp (bC ht hn 3 ⟨[ba 0 q,bu 1 0 0,bG 6 (decide (q < 0))],[.box (bd.cl a) 25 true]⟩ ?_)
 refine eB ⟨[bG 3 ((decide (q < 0)) || (decide (q >= a.ac)))],[.gone]⟩ ?_ ?_
 refine cz (decide (q < 0)) (fun hb0=>?_) (fun hb0=>?_)
 refine cf 6 hb0 ?_
 refine bC ht hn 6 ⟨[bG 3 true],[.gone]⟩ ?_
 exact bH (sub_ok (by simp only [hb0]; kernel_rfl))
 refine cf 6 hb0 ?_
 refine bC ht hn 6 ⟨[bG 3 (decide (q >= a.ac))],[.gone]⟩ ?_
 exact bH (sub_ok (by simp only [hb0]; kernel_rfl))
 exact fL ht ((decide (q < 0)) || (decide (q >= a.ac))) h
theorem LH : ∀ args w,(callFunc 26 args).run Tryz.prog w=.ok (.enter 26 args) w:=enters_of Tryz.func26 (by kernel_rfl) rfl
def pL (n:Int) (q:Int):Bool:=decide (q < 0) || decide (q >= n)
theorem B6 (q:Int) (a:bd)  : Ct 26 [.sv (.one (I q)), .sv (.one (.ptr 0 0))] [.box [I a.ae,I a.ac,LS aZ a.af,LS aY.ty a.ar,LS aZ a.av] 25 true] (fun (_:Unit)=>True) (fun _=>.sv (.one (B (pL a.ac q)))):=by
 refine (HW q a (fun res_=>res_=(pL a.ac q)) ?_).fun
 unfold B5 pL
 rfl
def B4 (x:aY) (domno:(Int -> Prop)) (no:(Int -> Bool)) (a:bd) (Q:Bool -> Prop):Prop:=
 ∃ J:Bool -> Prop,((domno x.am) /\
 cv (no x.am) (J true) ((domno x.aA) /\
 J (((no x.aA) || (decide (x.az < 0))) || (decide (x.az >= a.ae))))) /\
 (∀ x4,J x4 -> Q x4)
theorem HV (x:aY) (domno:(Int -> Prop)) (no:(Int -> Bool)) (a:bd) (Q:Bool -> Prop) (h:B4 x domno no a Q):Ct 29 [.sv (.agg [I x.am,I x.az,I x.aA]), .sv (.one (.ptr 0 0)), .sv (.one (.ptr 1 0))] [.box [fv2 domno no] 66 true, .box [I a.ae,I a.ac,LS aZ a.af,LS aY.ty a.ar,LS aZ a.av] 25 true] Q (fun (r:Bool)=>.sv (.one (B r))):=by
 have ht:=bA
 refine Ct.body Tryz.func29 rfl rfl rfl rfl (fun c hn=>?_)
 unfold B4 at h
 refine bk hn ?_
 obtain ⟨J,h,hJ⟩:=h
 refine bS (σ:=Bool) (fun zz=>J zz) (fun zz=>⟨[bG 4 zz],[.gone, .gone, .gone]⟩) ?_ ?_
 refine bI (bC ht hn 3 ⟨[bu 1 0 0,bu 2 1 0,bu 3 2 0,bg 5 (fv2 domno no),ba 7 x.am],[.box [fv2 domno no] 66 true, .box (bd.cl a) 25 true, .box (aY.cl x) 29 false]⟩ ?_)
 obtain ⟨hp,h⟩:=h
 refine i9 hn (fG x.am hp rfl (by rfl) (by rfl) (by rfl) (by rfl)) ?_
 refine cN hn 1 ?_
 refine cz (no x.am) (fun hb=>?_) (fun hb=>?_)
 replace h:=h.1 hb
 refine cf 9 hb ?_
 refine bM hn ?_
 exact bZ true h
 replace h:=h.2 hb
 refine cf 9 hb ?_
 refine bC ht hn 3 ⟨[bu 2 1 0,bu 3 2 0,bG 9 false,bg 10 (fv2 domno no),ba 12 x.aA],[.gone, .box (bd.cl a) 25 true, .box (aY.cl x) 29 false]⟩ ?_
 obtain ⟨hp,h⟩:=h
 refine i9 hn (fG x.aA hp rfl (by rfl) (by rfl) (by rfl) (by rfl)) ?_
 refine bC ht hn 2 ⟨[bu 2 1 0,bu 3 2 0,bG 15 (no x.aA)],[.gone, .box (bd.cl a) 25 true, .box (aY.cl x) 29 false]⟩ ?_
 refine eB ⟨[bG 4 (((no x.aA) || (decide (x.az < 0))) || (decide (x.az >= a.ae)))],[.gone, .gone, .gone]⟩ ?_ ?_
 refine cz (no x.aA) (fun hb0=>?_) (fun hb0=>?_)
 refine cf 15 hb0 ?_
 refine bC ht hn 12 ⟨[bG 4 true],[.gone, .gone, .gone]⟩ ?_
 exact bH (sub_ok (by simp only [hb0]; kernel_rfl))
 refine cf 15 hb0 ?_
 refine cN hn 5 ?_
 refine cz (decide (x.az < 0)) (fun hb1=>?_) (fun hb1=>?_)
 refine cf 20 hb1 ?_
 refine bC ht hn 7 ⟨[bG 4 true],[.gone, .gone, .gone]⟩ ?_
 exact bH (sub_ok (by simp only [hb0,hb1]; kernel_rfl))
 refine cf 20 hb1 ?_
 refine bC ht hn 7 ⟨[bG 4 (decide (x.az >= a.ae))],[.gone, .gone, .gone]⟩ ?_
 exact bH (sub_ok (by simp only [hb0,hb1]; kernel_rfl))
 exact bZ (((no x.aA) || (decide (x.az < 0))) || (decide (x.az >= a.ae))) h
 intro x4 h
 replace h:=hJ _ h
 exact fL ht x4 h
theorem NL : ∀ args w,(callFunc 29 args).run Tryz.prog w=.ok (.enter 29 args) w:=enters_of Tryz.func29 (by kernel_rfl) rfl
def pK (a:bd) (no:Int -> Bool) (x:aY):Bool:=no x.am || no x.aA || decide (x.az < 0) || decide (x.az >= a.ae)
theorem LL (x:aY) (domno:(Int -> Prop)) (no:(Int -> Bool)) (a:bd) (hp:domno x.am /\ domno x.aA)  : Ct 29 [.sv (.agg [I x.am,I x.az,I x.aA]), .sv (.one (.ptr 0 0)), .sv (.one (.ptr 1 0))] [.box [fv2 domno no] 66 true, .box [I a.ae,I a.ac,LS aZ a.af,LS aY.ty a.ar,LS aZ a.av] 25 true] (fun (_:Unit)=>True) (fun _=>.sv (.one (B (pK a no x)))):=by
 refine (HV x domno no a (fun res_=>res_=(pK a no x)) ?_).fun
 unfold B4
 refine ⟨fun b=>b=pK a no x,⟨hp.1,fun h=>?_,fun h=>⟨hp.2,?_⟩⟩,fun _ h=>h⟩
 ·show true=pK a no x
  unfold pK
  rw [h]
  rfl
 ·show _=pK a no x
  unfold pK
  rw [h]
  rfl
def zp (a:bd) (Q:Int -> Prop):Prop:=
 a.af.length <= 9223372036854775807 ->
 a.ar.length <= 9223372036854775807 ->
 a.av.length <= 9223372036854775807 ->
 (cv ((decide (a.ae < 1)) || (decide (a.ae > 4))) (Q 2) (cv (((decide (a.ac < 1)) || (decide (a.ac > 300))) || (decide ((a.ar.length:Int) > 40000))) (Q 1) (∃ J:Bool -> Prop,((∀ x_ ∈ a.af,(fun _=>True) x_) /\
 cv (a.af.any (pL (a).ac)) (J true) ((∀ x_ ∈ a.av,(fun _=>True) x_) /\
 cv (a.av.any (pL (a).ac)) (J true) ((∀ x_ ∈ a.ar,(fun x=>(fun _=>True) x.am /\ (fun _=>True) x.aA) x_) /\
 J (a.ar.any (pK a (pL (a).ac)))))) /\
 (∀ x43,J x43 -> cv x43 (Q 2) (∃ J_2:Bool -> Prop,(cv (!(nh a.af)) (J_2 true) (J_2 (!(nh a.av)))) /\
 (∀ x53,J_2 x53 -> cv x53 (Q 3) (∃ (Inv:Int -> Prop) (mu:Int -> Nat),Inv 0 /\
 ∀ x57,Inv x57 -> (cv (decide (x57 < (a.ar.length:Int))) (∃ J_3:Bool -> Prop,(cv (decide (x57 > 0)) (∃ e,cq a.ar (wr (x57 - 1))=some e /\
 ∃ e_2,cq a.ar x57=some e_2 /\
 J_3 (decide ((jU e e_2) >= 0))) (J_3 false)) /\
 (∀ x76,J_3 x76 -> cv x76 (Q 3) ((Inv (wr (x57 + 1)) /\ mu (wr (x57 + 1)) < mu x57)))) (Q 0)))))))))
abbrev yg (a:bd):=([.box (bd.cl a) 25 false]:List br)
abbrev mO := sl 1 (.ptr 0 0)
abbrev sW (a:bd):=(pL (a).ac)
abbrev Lp (a:bd):=([.box (bd.cl a) 25 false, .box [.fn 26 [0]] 66 false]:List br)
set_option maxHeartbeats 2000000 in
theorem FE (a:bd) (Q:Int -> Prop) (h:zp a Q):Ct 10 [.sv (.agg [I a.ae,I a.ac,LS aZ a.af,LS aY.ty a.ar,LS aZ a.av])] [] Q (fun (r:Int)=>.sv (.one (I r))):=by
 have ht:=bA
 refine Ct.body Tryz.func10 rfl rfl rfl rfl (fun c hn=>?_)
 unfold zp at h
 refine bQ 0 2 (by rfl) (by rfl) (fun hl=>?_)
 replace h:=h hl
 clear hl
 refine bQ 0 3 (by rfl) (by rfl) (fun hl=>?_)
 replace h:=h hl
 clear hl
 refine bQ 0 4 (by rfl) (by rfl) (fun hl=>?_)
 replace h:=h hl
 clear hl
 refine bk hn ?_
 refine bi (bp (bC ht hn 4 ⟨[mO,bG 8 (decide (a.ae < 1))],(yg a)⟩ ?_))
 refine eB ⟨[mO,bG 12 ((decide (a.ae < 1)) || (decide (a.ae > 4)))],(yg a)⟩ ?_ ?_
 refine cz (decide (a.ae < 1)) (fun hb0=>?_) (fun hb0=>?_)
 refine cf 8 hb0 ?_
 refine bC ht hn 4 ⟨[mO,bG 12 true],(yg a)⟩ ?_
 exact bH (sub_ok (by simp only [hb0]; kernel_rfl))
 refine cf 8 hb0 ?_
 refine bC ht hn 4 ⟨[mO,bG 12 (decide (a.ae > 4))],(yg a)⟩ ?_
 exact bH (sub_ok (by simp only [hb0]; kernel_rfl))
 refine bv h (fun h=>?_) (fun h=>?_)
 exact cD hn 2 h
 refine bn (bi (bp (bC ht hn 4 ⟨[mO,bG 16 (decide (a.ac < 1))],(yg a)⟩ ?_)))
 refine eB ⟨[mO,bG 26 (((decide (a.ac < 1)) || (decide (a.ac > 300))) || (decide ((a.ar.length:Int) > 40000)))],(yg a)⟩ ?_ ?_
 refine cz (decide (a.ac < 1)) (fun hb0=>?_) (fun hb0=>?_)
 refine cf 16 hb0 ?_
 refine bC ht hn 10 ⟨[mO,bG 26 true],(yg a)⟩ ?_
 exact bH (sub_ok (by simp only [hb0]; kernel_rfl))
 refine cf 16 hb0 ?_
 refine cN hn 5 ?_
 refine cz (decide (a.ac > 300)) (fun hb1=>?_) (fun hb1=>?_)
 refine cf 21 hb1 ?_
 refine bC ht hn 5 ⟨[mO,bG 26 true],(yg a)⟩ ?_
 exact bH (sub_ok (by simp only [hb0,hb1]; kernel_rfl))
 refine cf 21 hb1 ?_
 refine bC ht hn 5 ⟨[mO,bG 26 (decide ((a.ar.length:Int) > 40000))],(yg a)⟩ ?_
 exact bH (sub_ok (by simp only [hb0,hb1]; kernel_rfl))
 refine bv h (fun h=>?_) (fun h=>?_)
 exact cD hn 1 h
 refine bn (bk hn ?_)
 refine bi ?_
 obtain ⟨J,h,hJ⟩:=h
 refine bS (σ:=Bool) (fun zz=>J zz) (fun zz=>⟨[mO,bG 43 zz],[.box (bd.cl a) 25 false, .gone]⟩) ?_ ?_
 refine bI (bC ht hn 3 ⟨[mO,bu 3 1 0,bg 29 (LS aZ a.af),bg 30 (.fn 26 [0])],(Lp a)⟩ ?_)
 obtain ⟨hp,h⟩:=h
 refine i9 hn (lP [0] (by rfl) (by rfl) (nq 30 (o1 (fv3 (fun _=>True) (sW a))) (by rfl) (gV (M:=[.box (bd.cl a) 25 true]) (caps:=[0]) (fun x_ _=>B6 x_ a) LH rfl (by kernel_rfl) (by rfl) (fun _=>rfl)) (BH (og a.af (fun _=>True) (sW a) hp) Ka rfl))) ?_
 refine cN hn 1 ?_
 refine cz (a.af.any (sW a)) (fun hb=>?_) (fun hb=>?_)
 replace h:=h.1 hb
 refine cf 32 hb ?_
 refine bM hn ?_
 exact bZ true h
 replace h:=h.2 hb
 refine cf 32 hb ?_
 refine bC ht hn 3 ⟨[mO,bu 3 1 0,bG 32 false,bg 34 (LS aZ a.av),bg 35 (.fn 26 [0])],(Lp a)⟩ ?_
 obtain ⟨hp,h⟩:=h
 refine i9 hn (lP [0] (by rfl) (by rfl) (nq 35 (o1 (fv3 (fun _=>True) (sW a))) (by rfl) (gV (M:=[.box (bd.cl a) 25 true]) (caps:=[0]) (fun x_ _=>B6 x_ a) LH rfl (by kernel_rfl) (by rfl) (fun _=>rfl)) (BH (og a.av (fun _=>True) (sW a) hp) Ka rfl))) ?_
 refine cN hn 2 ?_
 refine cz (a.av.any (sW a)) (fun hb=>?_) (fun hb=>?_)
 replace h:=h.1 hb
 refine cf 38 hb ?_
 refine bM hn ?_
 exact bZ true h
 replace h:=h.2 hb
 refine cf 38 hb ?_
 refine bC ht hn 3 ⟨[mO,bG 38 false,bg 40 (LS aY.ty a.ar),bg 41 (.fn 29 [1,0])],(Lp a)⟩ ?_
 obtain ⟨hp,h⟩:=h
 refine i9 hn (lP [0] (by rfl) (by rfl) (Ay (fv3 (fun _=>True) (sW a)) 1 0 (by rfl) (by rfl) (AK (gV (M:=[.box (bd.cl a) 25 true]) (caps:=[0]) (fun x_ _=>B6 x_ a) LH rfl (by kernel_rfl) (by rfl) (fun _=>rfl))) (lP [1] (by rfl) (by rfl) (nq 41 (o1 (fv4 (fun x=>(fun _=>True) x.am /\ (fun _=>True) x.aA) (pK a (sW a)))) (by rfl) (gV (M:=[.box [fv3 (fun _=>True) (sW a)] 66 true, .box (bd.cl a) 25 true]) (caps:=[1,0]) (fun x_ hx=>LL x_ (fun _=>True) (sW a) a hx) NL rfl (by kernel_rfl) (by rfl) (fun _=>rfl)) (BH (vV a.ar (fun x=>(fun _=>True) x.am /\ (fun _=>True) x.aA) (pK a (sW a)) hp) NM rfl))))) ?_
 refine bM hn ?_
 exact bZ (a.ar.any (pK a (sW a))) h
 intro x43 h
 replace h:=hJ _ h
 refine bv h (fun h=>?_) (fun h=>?_)
 exact cD hn 2 h
 refine bn (bi ?_)
 obtain ⟨J_2,h,hJ_2⟩:=h
 refine bS (σ:=Bool) (fun zz=>J_2 zz) (fun zz=>⟨[mO,bG 53 zz],[.box (bd.cl a) 25 false, .gone]⟩) ?_ ?_
 refine bI (cN hn 2 ?_)
 refine fK hn (cL (Dy a.af) Mu rfl) ?_
 refine cN hn 2 ?_
 refine cz (!(nh a.af)) (fun hb=>?_) (fun hb=>?_)
 replace h:=h.1 hb
 refine cf 48 hb ?_
 refine bM hn ?_
 exact bZ true h
 replace h:=h.2 hb
 refine cf 48 hb ?_
 refine cN hn 2 ?_
 refine fK hn (cL (Dy a.av) Mu rfl) ?_
 refine bM hn ?_
 exact bZ (!(nh a.av)) h
 intro x53 h
 replace h:=hJ_2 _ h
 refine bv h (fun h=>?_) (fun h=>?_)
 exact cD hn 3 h
 refine bn (bi (bk hn ?_))
 refine bj (fC h (fun zz=>⟨[mO,ba 56 (a.ar.length:Int),ba 57 zz],[.box (bd.cl a) 25 false, .gone]⟩) fun Inv mu x57 h=>?_)
 refine bk hn ?_
 refine bi (bv h (fun h=>?_) (fun h=>?_))
 refine bn (bi (bj (bk hn ?_)))
 obtain ⟨J_3,h,hJ_3⟩:=h
 refine bS (σ:=Bool) (fun zz=>J_3 zz) (fun zz=>⟨[mO,ba 56 (a.ar.length:Int),ba 57 x57,bG 76 zz],[.box (bd.cl a) 25 false, .gone]⟩) ?_ ?_
 refine cz (decide (x57 > 0)) (fun hb_2=>?_) (fun hb_2=>?_)
 replace h:=h.1 hb_2
 obtain ⟨e,he,h⟩:=h
 obtain ⟨e_2,he_2,h⟩:=h
 refine da ⟨[mO,ba 4 x57,ba 56 (a.ar.length:Int),ba 57 x57],[bq x57,cH true,cH true,cQ 0 3,o1 (LS aY.ty a.ar),bq x57,bq (wr (x57 - 1)),o1 (.pe (eu (.agg (aY.cl e))) 3), .sv (.agg (aY.cl e)),cQ 0 3,o1 (LS aY.ty a.ar),bq x57,o1 (.pe (eu (.agg (aY.cl e_2))) 3), .sv (.agg (aY.cl e_2)),bq (jU e e_2),cH (decide ((jU e e_2) >= 0)),cH (decide ((jU e e_2) >= 0))],[bU (.box (bd.cl a) 25 false),bU .gone]⟩ hn ?_ ?_
 exact ⟨.e,
 .b hb_2,
 .e,
 .e,
 .e,
 .e,
 .e,
 .v (bX (iX (T:=aY.ty) rfl he)),
 .v (bX (lD (s:=.agg (aY.cl e)) rfl)),
 .e,
 .e,
 .e,
 .v (bX (iX (T:=aY.ty) rfl he_2)),
 .v (bX (lD (s:=.agg (aY.cl e_2)) rfl)),
 .v (cL (DB e e_2) Mt rfl),
 .e,
 .e,
 trivial⟩
 exact bZ (decide ((jU e e_2) >= 0)) h
 replace h:=h.2 hb_2
 refine da ⟨[mO,ba 4 x57,ba 56 (a.ar.length:Int),ba 57 x57],[bq x57,cH false,cH false,bJ,bJ,bJ,bJ,bJ,bJ,bJ,bJ,bJ,bJ,bJ,bJ,bJ,cH false],[bU (.box (bd.cl a) 25 false),bU .gone]⟩ hn ?_ ?_
 exact ⟨.e,
 .b hb_2,
 .e,
 .k,
 .k,
 .k,
 .k,
 .k,
 .k,
 .k,
 .k,
 .k,
 .k,
 .k,
 .k,
 .k,
 .e,
 trivial⟩
 exact bZ false h
 intro x76 h
 replace h:=hJ_3 _ h
 refine bv h (fun h=>?_) (fun h=>?_)
 exact cD hn 3 h
 exact bn (cn hn (wr (x57 + 1)) h)
 exact bD rfl (cD hn 0 h)
theorem Kc : ∀ args w,(callFunc 10 args).run Tryz.prog w=.ok (.enter 10 args) w:=enters_of Tryz.func10 (by kernel_rfl) rfl
theorem yU {x y:Int} (h:x < y):f5 x y = -1:=if_pos h
theorem yW {x y:Int} (h:x=y):f5 x y=0:=by subst h; unfold f5; rw [if_neg (Int.lt_irrefl x),if_neg (Int.lt_irrefl x)]
theorem yV {x y:Int} (h:y < x):f5 x y=1:=by unfold f5; rw [if_neg (by omega),if_pos h]
theorem nZ {x y:aY}:jU x y < 0 ↔ x.am < y.am \/ (x.am=y.am /\ (x.az < y.az \/ (x.az=y.az /\ x.aA < y.aA))):=by
 unfold jU
 simp only [orI]
 rcases Int.lt_trichotomy x.am y.am with h | h | h
 ·rw [yU h,if_pos (by decide)]
  exact ⟨fun _=>.inl h,fun _=>by decide⟩
 ·rw [yW h,if_neg (by decide)]
  rcases Int.lt_trichotomy x.az y.az with h2 | h2 | h2
  ·rw [yU h2,if_pos (by decide)]
   exact ⟨fun _=>.inr ⟨h, .inl h2⟩,fun _=>by decide⟩
  ·rw [yW h2,if_neg (by decide)]
   rcases Int.lt_trichotomy x.aA y.aA with h3 | h3 | h3
   ·rw [yU h3,if_pos (by decide)]
    exact ⟨fun _=>.inr ⟨h, .inr ⟨h2,h3⟩⟩,fun _=>by decide⟩
   ·rw [yW h3,if_neg (by decide)]
    exact ⟨fun h=>absurd h (by decide),fun _=>by omega⟩
   ·rw [yV h3,if_pos (by decide)]
    exact ⟨fun h=>absurd h (by decide),fun _=>by omega⟩
  ·rw [yV h2,if_pos (by decide)]
   exact ⟨fun h=>absurd h (by decide),fun _=>by omega⟩
 ·rw [yV h,if_pos (by decide)]
  exact ⟨fun h=>absurd h (by decide),fun _=>by omega⟩
def GY (z:aY × aY):Int:=jU z.1 z.2
theorem Av : Ord GY:=⟨fun x y h k=>by
 have h:jU x y < 0:=h
 have k:jU y x < 0:=k
 rw [nZ] at h k
 omega,fun x y z h k e=>by
 have h:¬ jU y x < 0:=h
 have k:¬ jU z y < 0:=k
 have e:jU z x < 0:=e
 rw [nZ] at h k e
 omega⟩
theorem JH {x y:aY} (h:¬ jU x y < 0) (k:¬ jU y x < 0):x=y:=by
 rw [nZ] at h k
 cases x
 cases y
 simp only at h k
 congr <;> omega
def Ba (l:List aY):Prop:=∀ i j,i < j -> j < l.length -> jU (gx l i) (gx l j) < 0
theorem Ew {l:List aY} (h:∀ k,k + 1 < l.length -> jU (gx l k) (gx l (k + 1)) < 0):Ba l:=fun i j hij hj=>by
 induction j with
 | zero=>omega
 | succ j ih =>
  rcases cU.1 hij with c | rfl
  ·have h1:=nZ.1 (ih c (by omega))
   have h2:=nZ.1 (h j hj)
   exact nZ.2 (by omega)
  ·exact h i hj
structure oK (a:bd):Prop where
 letters:1 <= a.ae /\ a.ae <= 4
 states:1 <= a.ac /\ a.ac <= 300
 few:a.ar.length <= 40000
 start:∀ q ∈ a.af,0 <= q /\ q < a.ac
 final:∀ q ∈ a.av,0 <= q /\ q < a.ac
 steps:∀ x ∈ a.ar,(0 <= x.am /\ x.am < a.ac) /\ (0 <= x.aA /\ x.aA < a.ac) /\ 0 <= x.az /\ x.az < a.ae
 rs:Ris a.af
 rf:Ris a.av
 rx:Ba a.ar
def kA (a:bd):Bool:=a.af.any (pL a.ac) || a.av.any (pL a.ac) || a.ar.any (pK a (pL a.ac))
open Classical in
def ee (a:bd):Int:=if ((decide (a.ae < 1)) || (decide (a.ae > 4)))=true then 2 else if (((decide (a.ac < 1)) || (decide (a.ac > 300))) || (decide ((a.ar.length:Int) > 40000)))=true then 1 else if kA a=true then 2 else if (!(nh a.af) || !(nh a.av))=true then 3 else if Ba a.ar then 0 else 3
theorem ii (a:bd):ee a=0 ↔ oK a:=by
 unfold ee
 constructor
 ·intro h
  split at h
  ·cases h
  rename_i h1
  split at h
  ·cases h
  rename_i h2
  split at h
  ·cases h
  rename_i h3
  split at h
  ·cases h
  rename_i h4
  split at h
  rename_i h5
  ·simp only [fc,fu,not_or] at h1 h2
   unfold kA at h3
   simp only [fc,not_or,Bool.not_eq_true,oL] at h3
   simp only [fc,not_or,Bool.not_eq_true,Bool.not_eq_false'] at h4
   have r:∀ q,pL a.ac q=false -> 0 <= q /\ q < a.ac:=fun q hq=>by
    unfold pL at hq
    simp only [jT,decide_eq_false_iff_not] at hq
    omega
   refine ⟨by omega,by omega,by omega,fun q hq=>r q (h3.1.1 q hq),fun q hq=>r q (h3.1.2 q hq),fun x hx=>?_,CR h4.1,CR h4.2,h5⟩
   have:=h3.2 x hx
   unfold pK at this
   simp only [jT,decide_eq_false_iff_not] at this
   exact ⟨r _ this.1.1.1,r _ this.1.1.2,by omega,by omega⟩
  ·cases h
 ·rintro ⟨h1,h2,h3,h4,h5,h6,h7,h8,h9⟩
  have r:∀ q,0 <= q /\ q < a.ac -> pL a.ac q=false:=fun q hq=>by
   unfold pL
   rw [jT,decide_eq_false_iff_not,decide_eq_false_iff_not]
   omega
  have e3:kA a=false:=by
   unfold kA
   simp only [jT,oL,Bool.not_eq_true]
   refine ⟨⟨fun q hq=>r q (h4 q hq),fun q hq=>r q (h5 q hq)⟩,fun x hx=>?_⟩
   obtain ⟨k1,k2,k3⟩:=h6 x hx
   unfold pK
   rw [r _ k1,r _ k2,jT,jT,decide_eq_false_iff_not,decide_eq_false_iff_not]
   exact ⟨⟨rfl,by omega⟩,by omega⟩
  have e4:(!(nh a.af) || !(nh a.av))=false:=by
   rw [rD h7,rD h8]
   rfl
  rw [if_neg (by simp; omega),if_neg (by simp; omega),if_neg (by rw [e3]; decide),if_neg (by rw [e4]; decide),if_pos h9]
theorem tR (a:bd)  : Ct 10 [.sv (.agg [I a.ae,I a.ac,LS aZ a.af,LS aY.ty a.ar,LS aZ a.av])] [] (fun (_:Unit)=>True) (fun _=>.sv (.one (I (ee a)))):=by
 refine (FE a (fun res_=>res_=(ee a)) ?_).fun
 unfold zp
 intro _ _ _
 unfold ee
 refine ⟨fun h=>by rw [if_pos h],fun h1=>?_⟩
 rw [if_neg (by rw [h1]; decide)]
 refine ⟨fun h=>by rw [if_pos h],fun h2=>?_⟩
 rw [if_neg (by rw [h2]; decide)]
 refine ⟨fun b=>b=kA a,⟨fun _ _=>trivial,fun h=>?_,fun h=>⟨fun _ _=>trivial,fun k=>?_,fun k=>⟨fun _ _=>⟨trivial,trivial⟩,?_⟩⟩⟩,?_⟩
 ·show true=kA a
  unfold kA
  rw [h]
  rfl
 ·show true=kA a
  unfold kA
  rw [h,k]
  rfl
 ·show _=kA a
  unfold kA
  rw [h,k]
  rfl
 rintro _ rfl
 refine ⟨fun h=>by rw [if_pos h],fun h3=>?_⟩
 rw [if_neg (by rw [h3]; decide)]
 refine ⟨fun b=>b=(!(nh a.af) || !(nh a.av)),⟨fun h=>?_,fun h=>?_⟩,?_⟩
 ·show true=_
  rw [h]
  rfl
 ·show _=_
  rw [h]
  rfl
 rintro _ rfl
 refine ⟨fun h=>by rw [if_pos h],fun h4=>?_⟩
 rw [if_neg (by rw [h4]; decide)]
 have hlen:(a.ar.length:Int) <= 40000:=by
  simp only [jT,decide_eq_false_iff_not] at h2
  omega
 refine ⟨fun x=>∃ k:Nat,x=k /\ k <= a.ar.length /\ ∀ i,i + 1 < k -> jU (gx a.ar i) (gx a.ar (i + 1)) < 0,fun x=>a.ar.length - x.toNat,⟨0,rfl,cy _,fun i hi=>by omega⟩,?_⟩
 rintro x ⟨k,rfl,hk,hI⟩
 refine ⟨fun hb=>?_,fun hb=>?_⟩
 rotate_left
 ·have hb:=dge hb
  show 0=_
  rw [if_pos (Ew fun i hi=>hI i (by omega))]
 have hlt:=dlt hb
 refine ⟨fun b=>b=(decide (0 < k) && decide (jU (gx a.ar (k - 1)) (gx a.ar k) >= 0)),⟨fun hc=>?_,fun hc=>?_⟩,?_⟩
 ·have hc:=ca hc
  have w:wr ((k:Int) - 1)=((k - 1:Nat):Int):=by rw [bL (by omega) (by omega)]; omega
  rw [w]
  refine ⟨_,bB (by omega) (by omega),_,bB (by omega) (by omega),?_⟩
  rw [bE,bE,decide_eq_true (show 0 < k by omega),mT]
 ·have hc:=cx hc
  show false=(_ && _)
  rw [decide_eq_false (show ¬ 0 < k by omega)]
  rfl
 rintro _ rfl
 refine ⟨fun hc=>?_,fun hc=>⟨⟨k + 1,dj (by omega),hlt,fun i hi=>?_⟩,dQ hlt (by omega)⟩⟩
 ·obtain ⟨c1,c2⟩:=Bool.and_eq_true_iff.1 hc
  have c1:=ca c1
  have c2:=ca c2
  show 3=_
  rw [if_neg fun h=>?_]
  have:=h (k - 1) k (by omega) hlt
  omega
 ·rcases dA (i + 1) k with c | c
  ·exact hI i c
  ·obtain rfl:k=i + 1:=by omega
   rw [decide_eq_true (show 0 < i + 1 by omega),mT] at hc
   have hc:=cx hc
   rw [Nat.add_sub_cancel] at hc
   omega
def zh (n:Int) (k:Int) (sl:List Int) (fl:List Int) (R:List aY) (Q:bd -> Prop):Prop:=
 sl.length <= 9223372036854775807 ->
 fl.length <= 9223372036854775807 ->
 ((kE sl 0 (sl.length:Int)) /\
 (kE fl 0 (fl.length:Int)) /\
 (B9 (fun _=>True) GY R) /\
 ∀ r:(List aY),(SQ GY R 0 (R.length:Int)) r ->
 ((FP sl) /\
 (FP fl) /\
 (FP r) /\
 Q (bd.mk n k (sl) (r) (fl))))
abbrev GQ := (.box [I 0,I 0, .v (.slice none 0 0), .v (.slice none 0 0), .v (.slice none 0 0)] 25 false:br)
theorem Fu (n:Int) (k:Int) (sl:List Int) (fl:List Int) (R:List aY) (Q:bd -> Prop) (h:zh n k sl fl R Q):fj 23 [.sv (.agg [I n,I k,LS aZ sl, .own 0,LS aZ fl])] [bf 29 aY.ty R] [] Q (fun (r:bd)=>.sv (.agg [I r.ae,I r.ac,LS aZ r.af,LS aY.ty r.ar,LS aZ r.av])) (fun (r:bd)=>[.gone]):=by
 have ht:=bA
 refine fj.body Tryz.func23 rfl rfl rfl (by kernel_rfl) (by kernel_rfl) (fun c Bk hn=>?_)
 unfold zh at h
 refine bQ 0 2 (by rfl) (by rfl) (fun hl=>?_)
 replace h:=h hl
 clear hl
 refine bQ 0 4 (by rfl) (by rfl) (fun hl=>?_)
 replace h:=h hl
 clear hl
 refine bk hn ?_
 refine bp (bC ht hn 2 ⟨[bu 1 1 0,bu 2 2 0,bg 4 (LS aZ sl)],[bf 29 aY.ty R, .box [I n,I k,LS aZ sl, .own 0,LS aZ fl] 25 false,GQ]⟩ ?_)
 obtain ⟨hp,h⟩:=h
 refine kB (C1 sl hp) Mo [] hn rfl ?_
 refine bH (bp (bC ht hn 2 ⟨[bu 1 1 0,bu 2 2 0,bg 7 (LS aZ fl)],[bf 29 aY.ty R, .box [I n,I k,LS aZ sl, .own 0,LS aZ fl] 25 false,GQ]⟩ ?_))
 obtain ⟨hp,h⟩:=h
 refine kB (C1 fl hp) Mo [] hn rfl ?_
 refine bH (bp (bC ht hn 2 ⟨[bu 1 1 0,bu 2 2 0,bx 10 0],[bf 29 aY.ty R, .box [I n,I k,LS aZ sl, .own 0,LS aZ fl] 25 false,GQ]⟩ ?_))
 obtain ⟨hp,h⟩:=h
 refine dz [bu 1 1 0,bu 2 2 0] (fj.args (I1 R (fun _=>True) GY hp) (jn (vk (uV (ins:=(fun (x_:(aY × aY))=>[.sv (.agg (aY.cl x_.1)), .sv (.agg (aY.cl x_.2))])) (out:=(fun (r:Int)=>.sv (.one (I r)))) (dom:=(fun _=>True)) (φ:=GY) (fun x_ _=>DB x_.1 x_.2) Mt) sg))) Nu (caps:=[]) [0] hn (by rfl) rfl (by rfl) (eR (by kernel_rfl) (by rfl)) (by kernel_rfl) (by decide) (by kernel_rfl) (by rfl) (by rfl) (fun r hr_2=>⟨by rfl,_,by rfl,?_⟩)
 replace h:=h r hr_2
 refine bH (bi (iZ (T:=aY.ty) (l:=r) (e:=29) 0 rfl ?_))
 obtain ⟨hp_2,h⟩:=h
 obtain ⟨hp_3,h⟩:=h
 obtain ⟨hp_4,h⟩:=h
 refine dt ⟨[bu 1 1 0,bu 2 2 0],[cQ 1 2,o1 (LS aZ sl),o1 (LS aZ sl),cQ 1 4,o1 (LS aZ fl),o1 (LS aZ fl),cQ 1 3,o1 (LS aY.ty r),o1 (LS aY.ty r),cQ 1 2],[bU .gone,bU (.box [I n,I k,LS aZ sl,LS aY.ty r,LS aZ fl] 25 false),bU (GQ)]⟩ 10 ⟨[bu 1 1 0,bu 2 2 0,bg 14 (LS aZ sl),bg 17 (LS aZ fl),bg 20 (LS aY.ty r),bu 21 1 2],[.gone, .box [I n,I k,LS aZ sl,LS aY.ty r,LS aZ fl] 25 false,GQ]⟩ (by kernel_rfl) hn (by kernel_rfl) (by kernel_rfl) (by kernel_rfl) (by rfl) (by kernel_rfl) ?_ (by kernel_rfl) ?_
 exact ⟨.e,
 .e,
 .v (cL (C9 sl hp_2) Mn rfl),
 .e,
 .e,
 .v (cL (C9 fl hp_3) Mn rfl),
 .e,
 .e,
 .v (cL (Jk r hp_4) Nt rfl),
 .e,
 trivial⟩
 refine bM hn ?_
 refine bp (cw ht hn 2 ⟨[bu 2 2 0],[.gone, .gone, .box [I n,I k,LS aZ sl,LS aY.ty r,LS aZ fl] 25 false]⟩ ?_)
 exact cT (fp [] ht (bd.mk n k sl r fl) h (by kernel_rfl) (by rfl) rfl)
theorem Mv : ∀ args w,(callFunc 23 args).run Tryz.prog w=.ok (.enter 23 args) w:=enters_of Tryz.func23 (by kernel_rfl) rfl
structure zA (sl fl:List Int) (R:List aY):Prop where
 rs:Ris sl
 rf:Ris fl
 ls:sl.length <= 1000000
 lf:fl.length <= 1000000
 lr:R.length <= 1000000
 nd:R.Nodup
structure FK (n k:Int) (sl fl:List Int) (R:List aY) (r:bd):Prop where
 letters:r.ae=n
 states:r.ac=k
 start:r.af=sl
 final:r.av=fl
 perm:r.ar.Perm R
 ris:Ba r.ar
theorem KM {X:Type} [Inhabited X] {r:List X} (h:r.Nodup) {i j:Nat} (hij:i ≠ j) (hi:i < r.length) (hj:j < r.length):gx r i ≠ gx r j:=fun e=>by
 rw [eS hi,eS hj] at e
 exact hij ((List.getElem?_inj hi h).1 (by rw [cO hi,cO hj,e]))
theorem Ac {l:List Int} (h:Ris l):FP l:=fun k hk e=>by
 have:=h k (k + 1) (Nat.lt_succ_self k) hk
 omega
theorem Kk (n k:Int) (sl fl:List Int) (R:List aY) (hp:zA sl fl R):zh n k sl fl R (FK n k sl fl R):=by
 obtain ⟨h1,h2,h3,h4,h5,h6⟩:=hp
 refine fun _ _=>⟨⟨h1,⟨eN _,by omega,eN _⟩,h3⟩,⟨h2,⟨eN _,by omega,eN _⟩,h4⟩,⟨fun _=>trivial,Av,h5⟩,fun r hr=>?_⟩
 obtain ⟨hs,ht⟩:=hr
 simp only [bE] at hs ht
 have hn:r.Nodup:=(hs.perm.nodup_iff).2 h6
 have hl:=hs.len
 refine ⟨Ac h1,Ac h2,fun q hq=>KM hn (by omega) hq (by omega),rfl,rfl,rfl,rfl,hs.perm,fun i j hij hj=>?_⟩
 have hj:j < r.length:=hj
 have h7:¬ jU (gx r j) (gx r i) < 0:=ht i j (cy _) hij (by omega)
 refine rp fun c=>KM hn (by omega) (by omega) hj (JH c h7)
theorem Dx (n:Int) (k:Int) (sl:List Int) (fl:List Int) (R:List aY) (hp:zA sl fl R):fj 23 [.sv (.agg [I n,I k,LS aZ sl, .own 0,LS aZ fl])] [bf 29 aY.ty R] [] (FK n k sl fl R) (fun (r:bd)=>.sv (.agg [I r.ae,I r.ac,LS aZ r.af,LS aY.ty r.ar,LS aZ r.av])) (fun (r:bd)=>[.gone]):=Fu n k sl fl R _ (Kk n k sl fl R hp)
def nJ (l:List Int) (Q:(List Int) -> Prop):Prop:=
 l.length <= 9223372036854775807 ->
 (∀ isnil:Bool,(isnil=true -> l=[]) ->
 (cv (isnil != false) (Q []) (ed ([]:List Int).length (l:List Int).length 8 /\
 Q (([]:List Int) ++ l))))
theorem vS (l:List Int) (Q:(List Int) -> Prop) (h:nJ l Q):CtJ 17 [.sv (.one (LS aZ l))] [] Q (fun (r:List Int)=>bf 3 aZ r):=by
 have ht:=bA
 refine CtJ.body Tryz.func17 rfl rfl rfl rfl (fun c hn hmay=>?_)
 unfold nJ at h
 refine de 0 (by rfl) (fun hl=>?_)
 replace h:=h hl
 clear hl
 refine bk hn ?_
 refine bi (bp (bC ht hn 1 ⟨[bg 0 (LS aZ l),bg 3 (LS aZ l)],[]⟩ ?_))
 refine A8 (T:=aZ) (l:=l) .eql false (by simp) ht hn (by rfl) rfl (by rfl) (by rfl) (by rfl) rfl (by rfl) (fun isnil hisnil=>?_)
 replace h:=h isnil hisnil
 clear hisnil
 refine bH (bv h (fun h=>?_) (fun h=>?_))
 refine bp (cw ht hn 1 ⟨[bg 2 (.v (.slice none 0 0))],[]⟩ ?_)
 exact cT (Bf (by rfl) h)
 refine bn (bp (dg (K:=[]) (p:=some (0,bf 3 aZ ([]:List Int))) hn (by rfl) (Az aZ 0 ht rfl (by rfl) (by rfl) (by rfl)) (by rfl) (by rfl) (by rfl) ?_))
 refine bC ht hn 1 ⟨[bx 5 0,bg 6 (LS aZ l)],[bf 3 aZ ([]:List Int)]⟩ ?_
 obtain ⟨hp,h⟩:=h
 refine jF (S2:=⟨[bg 6 (LS aZ l)],[bf 3 aZ ([]:List Int)]⟩) (K:=[0]) (p:=some (0,bf 3 aZ (([]:List Int) ++ l))) hn (by rfl) (aP (T:=aZ) (l:=([]:List Int)) (es:=l) rfl hp) (by kernel_rfl) (by rfl) (by rfl) (by rfl) ?_
 refine cw ht hn 1 ⟨[bx 2 0],[bf 3 aZ (([]:List Int) ++ l)]⟩ ?_
 exact cT (vA (itf:=fun l=>bf 3 aZ l) hmay (by rfl) (by rfl) rfl rfl h)
theorem Fe : ∀ args w,(callFunc 17 args).run Tryz.prog w=.ok (.enter 17 args) w:=enters_of Tryz.func17 (by kernel_rfl) rfl
theorem ir (l:List Int) (hp:l.length * 8 <= 140737488355328):CtI 17 [.sv (.one (LS aZ l))] [] (bf 3 aZ l):=by
 refine (vS l (fun r=>r=l) ?_).fun
 unfold nJ
 refine fun _ isnil h=>⟨fun hb=>(h (by simpa using hb)).symm,fun _=>⟨?_,by simp⟩⟩
 unfold ed
 simpa using hp
def jO (l:List aY) (Q:(List aY) -> Prop):Prop:=
 l.length <= 9223372036854775807 ->
 (∀ isnil:Bool,(isnil=true -> l=[]) ->
 (cv (isnil != false) (Q []) (ed ([]:List aY).length (l:List aY).length 24 /\
 Q (([]:List aY) ++ l))))
theorem rc (l:List aY) (Q:(List aY) -> Prop) (h:jO l Q):CtJ 22 [.sv (.one (LS aY.ty l))] [] Q (fun (r:List aY)=>bf 29 aY.ty r):=by
 have ht:=bA
 refine CtJ.body Tryz.func22 rfl rfl rfl rfl (fun c hn hmay=>?_)
 unfold jO at h
 refine de 0 (by rfl) (fun hl=>?_)
 replace h:=h hl
 clear hl
 refine bk hn ?_
 refine bi (bp (bC ht hn 1 ⟨[bg 0 (LS aY.ty l),bg 3 (LS aY.ty l)],[]⟩ ?_))
 refine A8 (T:=aY.ty) (l:=l) .eql false (by simp) ht hn (by rfl) rfl (by rfl) (by rfl) (by rfl) rfl (by rfl) (fun isnil hisnil=>?_)
 replace h:=h isnil hisnil
 clear hisnil
 refine bH (bv h (fun h=>?_) (fun h=>?_))
 refine bp (cw ht hn 1 ⟨[bg 2 (.v (.slice none 0 0))],[]⟩ ?_)
 exact cT (Bf (by rfl) h)
 refine bn (bp (dg (K:=[]) (p:=some (0,bf 29 aY.ty ([]:List aY))) hn (by rfl) (Az aY.ty 0 ht rfl (by rfl) (by rfl) (by rfl)) (by rfl) (by rfl) (by rfl) ?_))
 refine bC ht hn 1 ⟨[bx 5 0,bg 6 (LS aY.ty l)],[bf 29 aY.ty ([]:List aY)]⟩ ?_
 obtain ⟨hp,h⟩:=h
 refine jF (S2:=⟨[bg 6 (LS aY.ty l)],[bf 29 aY.ty ([]:List aY)]⟩) (K:=[0]) (p:=some (0,bf 29 aY.ty (([]:List aY) ++ l))) hn (by rfl) (aP (T:=aY.ty) (l:=([]:List aY)) (es:=l) rfl hp) (by kernel_rfl) (by rfl) (by rfl) (by rfl) ?_
 refine cw ht hn 1 ⟨[bx 2 0],[bf 29 aY.ty (([]:List aY) ++ l)]⟩ ?_
 exact cT (vA (itf:=fun l=>bf 29 aY.ty l) hmay (by rfl) (by rfl) rfl rfl h)
theorem NP : ∀ args w,(callFunc 22 args).run Tryz.prog w=.ok (.enter 22 args) w:=enters_of Tryz.func22 (by kernel_rfl) rfl
theorem s7 (l:List aY) (hp:l.length * 24 <= 140737488355328):CtI 22 [.sv (.one (LS aY.ty l))] [] (bf 29 aY.ty l):=by
 refine (rc l (fun r=>r=l) ?_).fun
 unfold jO
 refine fun _ isnil h=>⟨fun hb=>(h (by simpa using hb)).symm,fun _=>⟨?_,by simp⟩⟩
 unfold ed
 simpa using hp
def zf (a:bd) (b:bd) (Q:Int -> Prop):Prop:=
 a.af.length <= 9223372036854775807 ->
 a.ar.length <= 9223372036854775807 ->
 a.av.length <= 9223372036854775807 ->
 b.af.length <= 9223372036854775807 ->
 b.ar.length <= 9223372036854775807 ->
 b.av.length <= 9223372036854775807 ->
 (∃ (Inv:Int -> Prop) (mu:Int -> Nat),Inv 0 /\
 ∀ x12,Inv x12 -> (cv (decide (x12 < (([a,b]:List bd).length:Int))) (∃ e,cq ([a,b]:List bd) x12=some e /\
 cv ((ee e) != 0) (Q (ee e)) ((Inv (wr (x12 + 1)) /\ mu (wr (x12 + 1)) < mu x12))) (cv (a.ae != b.ae) (Q 3) (cv ((decide (a.ac > 8)) || (decide (b.ac > 8))) (Q 1) (Q 0)))))
theorem Ft (a:bd) (b:bd) (Q:Int -> Prop) (h:zf a b Q):Ct 21 [.sv (.agg [I a.ae,I a.ac,LS aZ a.af,LS aY.ty a.ar,LS aZ a.av]), .sv (.agg [I b.ae,I b.ac,LS aZ b.af,LS aY.ty b.ar,LS aZ b.av])] [] Q (fun (r:Int)=>.sv (.one (I r))):=by
 have ht:=bA
 refine Ct.body Tryz.func21 rfl rfl rfl rfl (fun c hn=>?_)
 unfold zf at h
 refine bQ 0 2 (by rfl) (by rfl) (fun hl=>?_)
 replace h:=h hl
 clear hl
 refine bQ 0 3 (by rfl) (by rfl) (fun hl=>?_)
 replace h:=h hl
 clear hl
 refine bQ 0 4 (by rfl) (by rfl) (fun hl=>?_)
 replace h:=h hl
 clear hl
 refine bQ 1 2 (by rfl) (by rfl) (fun hl=>?_)
 replace h:=h hl
 clear hl
 refine bQ 1 3 (by rfl) (by rfl) (fun hl=>?_)
 replace h:=h hl
 clear hl
 refine bQ 1 4 (by rfl) (by rfl) (fun hl=>?_)
 replace h:=h hl
 clear hl
 refine bk hn ?_
 refine bi (bp (bC ht hn 2 ⟨[bu 2 0 0,bu 3 1 0,(8, .sv (.agg (bd.cl a))),(9, .sv (.agg (bd.cl b)))],[.box (bd.cl a) 25 false, .box (bd.cl b) 25 false]⟩ ?_))
 refine dg (K:=[]) (p:=some (2,bf 25 bd.ty ([a,b]:List bd))) hn (by rfl) (lI (T:=bd.ty) ([a,b]:List bd) 2 rfl) (by rfl) (by rfl) (by rfl) ?_
 refine bM hn ?_
 refine bj (fC h (fun zz=>⟨[bu 2 0 0,bu 3 1 0,bx 10 2,ba 11 (([a,b]:List bd).length:Int),ba 12 zz],[.box (bd.cl a) 25 false, .box (bd.cl b) 25 false,bf 25 bd.ty ([a,b]:List bd)]⟩) fun Inv mu x12 h=>?_)
 refine bk hn ?_
 refine bi (bv h (fun h=>?_) (fun h=>?_))
 refine bn (bi (bj (bp ?_)))
 obtain ⟨e,he,h⟩:=h
 refine bT hn (iO (T:=bd.ty) rfl he) ?_
 refine bT hn (lO (T:=bd.ty) rfl (bs he).2.2) ?_
 refine bM hn ?_
 refine bp (cN hn 1 ?_)
 refine fK hn (cL (tR e) Kc rfl) ?_
 refine bM hn ?_
 refine bk hn ?_
 refine bv h (fun h=>?_) (fun h=>?_)
 exact cD hn (ee e) h
 exact bn (cn hn (wr (x12 + 1)) h)
 refine bD rfl (bi (bk hn ?_))
 refine bv h (fun h=>?_) (fun h=>?_)
 exact cD hn 3 h
 refine bn (bi (bp (bC ht hn 4 ⟨[bu 3 1 0,bG 30 (decide (a.ac > 8))],[.gone, .box (bd.cl b) 25 false, .gone]⟩ ?_)))
 refine eB ⟨[bG 34 ((decide (a.ac > 8)) || (decide (b.ac > 8)))],[.gone, .gone, .gone]⟩ ?_ ?_
 refine cz (decide (a.ac > 8)) (fun hb0=>?_) (fun hb0=>?_)
 refine cf 30 hb0 ?_
 refine bC ht hn 4 ⟨[bG 34 true],[.gone, .gone, .gone]⟩ ?_
 exact bH (sub_ok (by simp only [hb0]; kernel_rfl))
 refine cf 30 hb0 ?_
 refine bC ht hn 4 ⟨[bG 34 (decide (b.ac > 8))],[.gone, .gone, .gone]⟩ ?_
 exact bH (sub_ok (by simp only [hb0]; kernel_rfl))
 refine bv h (fun h=>?_) (fun h=>?_)
 exact cD hn 1 h
 exact bn (cD hn 0 h)
theorem Mw : ∀ args w,(callFunc 21 args).run Tryz.prog w=.ok (.enter 21 args) w:=enters_of Tryz.func21 (by kernel_rfl) rfl
def oU (a b:bd):Int:=if ee a ≠ 0 then ee a else if ee b ≠ 0 then ee b else if a.ae ≠ b.ae then 3 else if ((decide (a.ac > 8)) || (decide (b.ac > 8)))=true then 1 else 0
structure Ic (a b:bd):Prop where
 oka:oK a
 okb:oK b
 same:a.ae=b.ae
 sa:a.ac <= 8
 sb:b.ac <= 8
theorem Cs {a b:bd} (h:oU a b=0):Ic a b:=by
 unfold oU at h
 split at h
 ·contradiction
 rename_i h1
 split at h
 ·contradiction
 rename_i h2
 split at h
 ·cases h
 rename_i h3
 split at h
 ·cases h
 rename_i h4
 simp only [fc,fu,not_or] at h4
 exact ⟨(ii a).1 (jp.1 h1),(ii b).1 (jp.1 h2),jp.1 h3,by omega,by omega⟩
theorem Dw (a:bd) (b:bd)  : Ct 21 [.sv (.agg [I a.ae,I a.ac,LS aZ a.af,LS aY.ty a.ar,LS aZ a.av]), .sv (.agg [I b.ae,I b.ac,LS aZ b.af,LS aY.ty b.ar,LS aZ b.av])] [] (fun (_:Unit)=>True) (fun _=>.sv (.one (I (oU a b)))):=by
 refine (Ft a b (fun res_=>res_=(oU a b)) ?_).fun
 unfold zf
 intro _ _ _ _ _ _
 have k0:cq [a,b] 0=some a:=rfl
 have k1:cq [a,b] 1=some b:=rfl
 refine ⟨fun x=>x=0 \/ (x=1 /\ ee a=0) \/ (x=2 /\ ee a=0 /\ ee b=0),fun x=>2 - x.toNat, .inl rfl,?_⟩
 unfold oU
 rintro x (rfl | ⟨rfl,h1⟩ | ⟨rfl,h1,h2⟩)
 ·refine ⟨fun _=>⟨a,k0,fun h=>?_,fun h=>⟨.inr (.inl ⟨rfl,by simpa using h⟩),by decide⟩⟩,fun h=>absurd h (by show ¬ decide ((0:Int) < (2:Nat))=false; decide)⟩
  rw [if_pos (by simpa using h)]
 ·refine ⟨fun _=>⟨b,k1,fun h=>?_,fun h=>⟨.inr (.inr ⟨rfl,h1,by simpa using h⟩),by decide⟩⟩,fun h=>absurd h (by show ¬ decide ((1:Int) < (2:Nat))=false; decide)⟩
  rw [if_neg (by simp [h1]),if_pos (by simpa using h)]
 ·refine ⟨fun h=>absurd h (by show ¬ decide ((2:Int) < (2:Nat))=true; decide),fun _=>?_⟩
  rw [if_neg (by simp [h1]),if_neg (by simp [h2])]
  refine ⟨fun h=>?_,fun h=>?_⟩
  ·rw [if_pos (by simpa using h)]
  ·rw [if_neg (by simpa using h)]
   exact ⟨fun h=>by rw [if_pos h],fun h=>by rw [if_neg (by rw [h]; decide)]⟩
def zo (a:bd) (b:bd) (Q:(bd × Int) -> Prop):Prop:=
 a.af.length <= 9223372036854775807 ->
 a.ar.length <= 9223372036854775807 ->
 a.av.length <= 9223372036854775807 ->
 b.af.length <= 9223372036854775807 ->
 b.ar.length <= 9223372036854775807 ->
 b.av.length <= 9223372036854775807 ->
 (cv ((oU a b) != 0) (Q ((bd.mk 0 0 [] [] []),(oU a b))) ((a.af.length * 8 <= 140737488355328) /\
 (a.av.length * 8 <= 140737488355328) /\
 (a.ar.length * 24 <= 140737488355328) /\
 ∃ (Inv:Int -> (List Int) -> Prop) (mu:Int -> (List Int) -> Nat),Inv 0 (a.af) /\
 ∀ x41 l3,Inv x41 l3 -> (cv (decide (x41 < (b.af.length:Int))) (∃ e,cq b.af x41=some e /\
 ed l3.length ([(wr (a.ac + e))]:List Int).length 8 /\
 (Inv (wr (x41 + 1)) (l3 ++ ([(wr (a.ac + e))]:List Int)) /\ mu (wr (x41 + 1)) (l3 ++ ([(wr (a.ac + e))]:List Int)) < mu x41 l3)) (∃ (Inv_2:Int -> (List Int) -> Prop) (mu_2:Int -> (List Int) -> Nat),Inv_2 0 (a.av) /\
 ∀ x58 l4,Inv_2 x58 l4 -> (cv (decide (x58 < (b.av.length:Int))) (∃ e_2,cq b.av x58=some e_2 /\
 ed l4.length ([(wr (a.ac + e_2))]:List Int).length 8 /\
 (Inv_2 (wr (x58 + 1)) (l4 ++ ([(wr (a.ac + e_2))]:List Int)) /\ mu_2 (wr (x58 + 1)) (l4 ++ ([(wr (a.ac + e_2))]:List Int)) < mu_2 x58 l4)) (∃ (Inv_3:Int -> (List aY) -> Prop) (mu_3:Int -> (List aY) -> Nat),Inv_3 0 (a.ar) /\
 ∀ x75 l5,Inv_3 x75 l5 -> (cv (decide (x75 < (b.ar.length:Int))) (∃ e_3,cq b.ar x75=some e_3 /\
 ed l5.length ([(aY.mk (wr (a.ac + e_3.am)) e_3.az (wr (a.ac + e_3.aA)))]:List aY).length 24 /\
 (Inv_3 (wr (x75 + 1)) (l5 ++ ([(aY.mk (wr (a.ac + e_3.am)) e_3.az (wr (a.ac + e_3.aA)))]:List aY)) /\ mu_3 (wr (x75 + 1)) (l5 ++ ([(aY.mk (wr (a.ac + e_3.am)) e_3.az (wr (a.ac + e_3.aA)))]:List aY)) < mu_3 x75 l5)) ((zA l3 l4 l5) /\
 ∀ r:bd,(FK a.ae (wr (a.ac + b.ac)) l3 l4 l5) r ->
 (Q (r,0))))))))))
abbrev mw := (.box [I 0,I 0, .v (.slice none 0 0), .v (.slice none 0 0), .v (.slice none 0 0)] 25 false:br)
abbrev vN (a:bd) (b:bd):=(.box [I a.ae,I (wr (a.ac + b.ac)), .own 3, .own 5, .own 4] 25 false:br)
abbrev EE := ([bg 2 (.ptr 0 0),bg 3 (.ptr 1 0),bg 4 (.ptr 2 0),bg 7 (.ptr 6 0)]:List (Nat × SC))
abbrev vM (a:bd) (b:bd):=(wr (a.ac + b.ac))
abbrev sV := sl 4 (.ptr 2 0)
set_option maxHeartbeats 2000000 in
theorem FD (a:bd) (b:bd) (Q:(bd × Int) -> Prop) (h:zo a b Q):Ct 8 [.sv (.agg [I a.ae,I a.ac,LS aZ a.af,LS aY.ty a.ar,LS aZ a.av]), .sv (.agg [I b.ae,I b.ac,LS aZ b.af,LS aY.ty b.ar,LS aZ b.av])] [] Q (fun (r:(bd × Int))=>.tup [.agg [I r.1.ae,I r.1.ac,LS aZ r.1.af,LS aY.ty r.1.ar,LS aZ r.1.av], .one (I r.2)]):=by
 have ht:=bA
 refine Ct.body Tryz.func8 rfl rfl rfl rfl (fun c hn=>?_)
 unfold zo at h
 refine bQ 0 2 (by rfl) (by rfl) (fun hl=>?_)
 replace h:=h hl
 clear hl
 refine bQ 0 3 (by rfl) (by rfl) (fun hl=>?_)
 replace h:=h hl
 clear hl
 refine bQ 0 4 (by rfl) (by rfl) (fun hl=>?_)
 replace h:=h hl
 clear hl
 refine bQ 1 2 (by rfl) (by rfl) (fun hl=>?_)
 replace h:=h hl
 clear hl
 refine bQ 1 3 (by rfl) (by rfl) (fun hl=>?_)
 replace h:=h hl
 clear hl
 refine bQ 1 4 (by rfl) (by rfl) (fun hl=>?_)
 replace h:=h hl
 clear hl
 refine bk hn ?_
 refine bi (bp (cN hn 2 ?_))
 refine fK hn (cL (Dw a b) Mw rfl) ?_
 refine bM hn ?_
 refine bk hn ?_
 refine bv h (fun h=>?_) (fun h=>?_)
 refine bp (cw ht hn 4 ⟨[sV,ba 5 (oU a b)],[.gone, .gone,mw]⟩ ?_)
 refine cT (dn (T:=aZ) 2 2 (by rfl) (by rfl) ?_)
 refine dn (T:=aY.ty) 2 3 (by rfl) (by rfl) ?_
 refine dn (T:=aZ) 2 4 (by rfl) (by rfl) ?_
 exact eW ht ((bd.mk 0 0 [] [] []),(oU a b)) h (by kernel_rfl) rfl
 refine bn (bi ?_)
 obtain ⟨hp_2,h⟩:=h
 obtain ⟨hp_3,h⟩:=h
 obtain ⟨hp_4,h⟩:=h
 refine da ⟨[bu 2 0 0,bu 3 1 0,sV],[cQ 0 0,bq a.ae,cQ 0 1,bq a.ac,cQ 1 1,bq b.ac,bq (vM a b),cQ 0 2,o1 (LS aZ a.af),cu 3,cQ 0 4,o1 (LS aZ a.av),cu 4,cQ 0 3,o1 (LS aY.ty a.ar),cu 5, .sv (.agg [I a.ae,I (vM a b), .own 3, .own 5, .own 4]),cQ 6 0,bJ],[bU (.box (bd.cl a) 25 false),bU (.box (bd.cl b) 25 false),bU (mw),⟨bf 3 aZ a.af,some 9,none,none⟩,⟨bf 3 aZ a.av,some 12,none,none⟩,⟨bf 29 aY.ty a.ar,some 15,none,none⟩,⟨(mw),some 17,none,some (18,(vN a b))⟩]⟩ hn ?_ ?_
 exact ⟨.e,
 .e,
 .e,
 .e,
 .e,
 .e,
 .e,
 .e,
 .e,
 .mt ⟨[bg 29 (LS aZ a.af)],[]⟩ [] (some 3) (by kernel_rfl) (by rfl) (iK 3 (ir a.af hp_2) Fe (caps:=[]) [] rfl rfl (by rfl) (by kernel_rfl) (by kernel_rfl) (by rfl) (by rfl)) rfl rfl rfl rfl,
 .e,
 .e,
 .mt ⟨[bg 32 (LS aZ a.av)],[]⟩ [] (some 4) (by kernel_rfl) (by rfl) (iK 4 (ir a.av hp_3) Fe (caps:=[]) [] rfl rfl (by rfl) (by kernel_rfl) (by kernel_rfl) (by rfl) (by rfl)) rfl rfl rfl rfl,
 .e,
 .e,
 .mt ⟨[bg 35 (LS aY.ty a.ar)],[]⟩ [] (some 5) (by kernel_rfl) (by rfl) (iK 5 (s7 a.ar hp_4) NP (caps:=[]) [] rfl rfl (by rfl) (by kernel_rfl) (by kernel_rfl) (by rfl) (by rfl)) rfl rfl rfl rfl,
 .e,
 .mt ⟨[],[]⟩ [] (some 6) (by kernel_rfl) (by rfl) (rT 6 25 ht rfl (by rfl) (by rfl)) rfl rfl rfl rfl,
 .mu ⟨[bu 7 6 0,(37, .sv (.agg [I a.ae,I (vM a b), .own 3, .own 5, .own 4]))],[.gone, .gone, .gone, .gone, .gone, .gone,mw]⟩ 6 _ _ rfl rfl (by kernel_rfl) (by rfl) (eY ht rfl (by rfl) (by rfl) (by rfl) (by rfl) (fun h=>by cases h) (by rfl) (by rfl)) rfl rfl rfl rfl rfl rfl rfl,
 trivial⟩
 refine bi (bk hn ?_)
 refine bj (dV h (fun zz=>⟨[bu 2 0 0,bu 3 1 0,sV,bu 7 6 0,bg 39 (LS aZ b.af),ba 40 (b.af.length:Int),ba 41 zz.1],[.box (bd.cl a) 25 false, .box (bd.cl b) 25 false,mw,bf 3 aZ zz.2,bf 3 aZ a.av,bf 29 aY.ty a.ar,vN a b]⟩) fun Inv mu x41 l3 h=>?_)
 refine bk hn ?_
 refine bi (bv h (fun h=>?_) (fun h=>?_))
 refine bn (bi (bj (bp ?_)))
 obtain ⟨e,he,h⟩:=h
 refine bT hn (iX (T:=aZ) rfl he) ?_
 refine bT hn (lD (s:=.one (I e)) rfl) ?_
 refine bM hn ?_
 refine bI (bC ht hn 6 ⟨sl 39 (LS aZ b.af) :: ba 40 (b.af.length:Int) :: ba 41 x41 :: bx 46 3 :: ba 50 (wr (a.ac + e)) :: EE,[.box (bd.cl a) 25 false, .box (bd.cl b) 25 false,mw,bf 3 aZ l3,bf 3 aZ a.av,bf 29 aY.ty a.ar,vN a b]⟩ ?_)
 refine dg (K:=[]) (p:=some (7,bf 3 aZ ([wr (a.ac + e)]:List Int))) hn (by rfl) (lI (T:=aZ) ([wr (a.ac + e)]:List Int) 7 rfl) (by rfl) (by rfl) (by rfl) ?_
 refine dE (T:=aZ) (l:=([wr (a.ac + e)]:List Int)) (e:=3) 7 rfl ?_
 refine bC ht hn 0 ⟨sl 39 (LS aZ b.af) :: ba 40 (b.af.length:Int) :: ba 41 x41 :: bx 46 3 :: ba 50 (wr (a.ac + e)) :: bg 51 (LS aZ ([wr (a.ac + e)]:List Int)) :: EE,[.box (bd.cl a) 25 false, .box (bd.cl b) 25 false,mw,bf 3 aZ l3,bf 3 aZ a.av,bf 29 aY.ty a.ar,vN a b, .gone]⟩ ?_
 refine rh 6 2 (by rfl) ?_
 obtain ⟨hp,h⟩:=h
 refine jF (S2:=⟨sl 39 (LS aZ b.af) :: ba 40 (b.af.length:Int) :: ba 41 x41 :: ba 50 (wr (a.ac + e)) :: bg 51 (LS aZ ([wr (a.ac + e)]:List Int)) :: EE,[.box (bd.cl a) 25 false, .box (bd.cl b) 25 false,mw,bf 3 aZ l3,bf 3 aZ a.av,bf 29 aY.ty a.ar, .box [I a.ae,I (vM a b), .junk, .own 5, .own 4] 25 false, .gone]⟩) (K:=[3]) (p:=some (3,bf 3 aZ (l3 ++ ([wr (a.ac + e)]:List Int)))) hn (by rfl) (aP (T:=aZ) (l:=l3) (es:=([wr (a.ac + e)]:List Int)) rfl hp) (by kernel_rfl) (by rfl) (by rfl) (by rfl) ?_
 refine bM hn ?_
 exact cn hn ((wr (x41 + 1)),(l3 ++ ([wr (a.ac + e)]:List Int))) h
 refine bD rfl (bi (bk hn ?_))
 refine bj (dV h (fun zz=>⟨[bu 2 0 0,bu 3 1 0,sV,bu 7 6 0,bg 56 (LS aZ b.av),ba 57 (b.av.length:Int),ba 58 zz.1],[.box (bd.cl a) 25 false, .box (bd.cl b) 25 false,mw,bf 3 aZ l3,bf 3 aZ zz.2,bf 29 aY.ty a.ar,vN a b]⟩) fun Inv_2 mu_2 x58 l4 h=>?_)
 refine bk hn ?_
 refine bi (bv h (fun h=>?_) (fun h=>?_))
 refine bn (bi (bj (bp ?_)))
 obtain ⟨e_2,he_2,h⟩:=h
 refine bT hn (iX (T:=aZ) rfl he_2) ?_
 refine bT hn (lD (s:=.one (I e_2)) rfl) ?_
 refine bM hn ?_
 refine bI (bC ht hn 6 ⟨sl 56 (LS aZ b.av) :: ba 57 (b.av.length:Int) :: ba 58 x58 :: bx 63 4 :: ba 67 (wr (a.ac + e_2)) :: EE,[.box (bd.cl a) 25 false, .box (bd.cl b) 25 false,mw,bf 3 aZ l3,bf 3 aZ l4,bf 29 aY.ty a.ar,vN a b]⟩ ?_)
 refine dg (K:=[]) (p:=some (7,bf 3 aZ ([wr (a.ac + e_2)]:List Int))) hn (by rfl) (lI (T:=aZ) ([wr (a.ac + e_2)]:List Int) 7 rfl) (by rfl) (by rfl) (by rfl) ?_
 refine dE (T:=aZ) (l:=([wr (a.ac + e_2)]:List Int)) (e:=3) 7 rfl ?_
 refine bC ht hn 0 ⟨sl 56 (LS aZ b.av) :: ba 57 (b.av.length:Int) :: ba 58 x58 :: bx 63 4 :: ba 67 (wr (a.ac + e_2)) :: bg 68 (LS aZ ([wr (a.ac + e_2)]:List Int)) :: EE,[.box (bd.cl a) 25 false, .box (bd.cl b) 25 false,mw,bf 3 aZ l3,bf 3 aZ l4,bf 29 aY.ty a.ar,vN a b, .gone]⟩ ?_
 refine rh 6 4 (by rfl) ?_
 obtain ⟨hp,h⟩:=h
 refine jF (S2:=⟨sl 56 (LS aZ b.av) :: ba 57 (b.av.length:Int) :: ba 58 x58 :: ba 67 (wr (a.ac + e_2)) :: bg 68 (LS aZ ([wr (a.ac + e_2)]:List Int)) :: EE,[.box (bd.cl a) 25 false, .box (bd.cl b) 25 false,mw,bf 3 aZ l3,bf 3 aZ l4,bf 29 aY.ty a.ar, .box [I a.ae,I (vM a b), .own 3, .own 5, .junk] 25 false, .gone]⟩) (K:=[4]) (p:=some (4,bf 3 aZ (l4 ++ ([wr (a.ac + e_2)]:List Int)))) hn (by rfl) (aP (T:=aZ) (l:=l4) (es:=([wr (a.ac + e_2)]:List Int)) rfl hp) (by kernel_rfl) (by rfl) (by rfl) (by rfl) ?_
 refine bM hn ?_
 exact cn hn ((wr (x58 + 1)),(l4 ++ ([wr (a.ac + e_2)]:List Int))) h
 refine bD rfl (bi (bk hn ?_))
 refine bj (dV h (fun zz=>⟨[bu 2 0 0,sV,bu 7 6 0,bg 73 (LS aY.ty b.ar),ba 74 (b.ar.length:Int),ba 75 zz.1],[.box (bd.cl a) 25 false, .gone,mw,bf 3 aZ l3,bf 3 aZ l4,bf 29 aY.ty zz.2,vN a b]⟩) fun Inv_3 mu_3 x75 l5 h=>?_)
 refine bk hn ?_
 refine bi (bv h (fun h=>?_) (fun h=>?_))
 refine bn (bi (bj (bp ?_)))
 obtain ⟨e_3,he_3,h⟩:=h
 refine bT hn (iX (T:=aY.ty) rfl he_3) ?_
 refine bT hn (lD (s:=.agg (aY.cl e_3)) rfl) ?_
 refine bM hn ?_
 refine bI (bC ht hn 15 ⟨bx 80 5 :: [bu 2 0 0,sV,bu 7 6 0,bg 73 (LS aY.ty b.ar),ba 74 (b.ar.length:Int),ba 75 x75,(93, .sv (.agg [I (wr (a.ac + e_3.am)),I e_3.az,I (wr (a.ac + e_3.aA))]))],[.box (bd.cl a) 25 false, .gone,mw,bf 3 aZ l3,bf 3 aZ l4,bf 29 aY.ty l5,vN a b, .gone]⟩ ?_)
 refine dg (K:=[]) (p:=some (8,bf 29 aY.ty ([aY.mk (wr (a.ac + e_3.am)) e_3.az (wr (a.ac + e_3.aA))]:List aY))) hn (by rfl) (lI (T:=aY.ty) ([aY.mk (wr (a.ac + e_3.am)) e_3.az (wr (a.ac + e_3.aA))]:List aY) 8 rfl) (by rfl) (by rfl) (by rfl) ?_
 refine dE (T:=aY.ty) (l:=([aY.mk (wr (a.ac + e_3.am)) e_3.az (wr (a.ac + e_3.aA))]:List aY)) (e:=29) 8 rfl ?_
 refine bC ht hn 0 ⟨bx 80 5 :: bg 94 (LS aY.ty ([aY.mk (wr (a.ac + e_3.am)) e_3.az (wr (a.ac + e_3.aA))]:List aY)) :: [bu 2 0 0,sV,bu 7 6 0,bg 73 (LS aY.ty b.ar),ba 74 (b.ar.length:Int),ba 75 x75,(93, .sv (.agg [I (wr (a.ac + e_3.am)),I e_3.az,I (wr (a.ac + e_3.aA))]))],[.box (bd.cl a) 25 false, .gone,mw,bf 3 aZ l3,bf 3 aZ l4,bf 29 aY.ty l5,vN a b, .gone, .gone]⟩ ?_
 refine rh 6 3 (by rfl) ?_
 obtain ⟨hp,h⟩:=h
 refine jF (S2:=⟨sl 94 (LS aY.ty ([aY.mk (wr (a.ac + e_3.am)) e_3.az (wr (a.ac + e_3.aA))]:List aY)) :: [bu 2 0 0,sV,bu 7 6 0,bg 73 (LS aY.ty b.ar),ba 74 (b.ar.length:Int),ba 75 x75,(93, .sv (.agg [I (wr (a.ac + e_3.am)),I e_3.az,I (wr (a.ac + e_3.aA))]))],[.box (bd.cl a) 25 false, .gone,mw,bf 3 aZ l3,bf 3 aZ l4,bf 29 aY.ty l5, .box [I a.ae,I (vM a b), .own 3, .junk, .own 4] 25 false, .gone, .gone]⟩) (K:=[5]) (p:=some (5,bf 29 aY.ty (l5 ++ ([aY.mk (wr (a.ac + e_3.am)) e_3.az (wr (a.ac + e_3.aA))]:List aY)))) hn (by rfl) (aP (T:=aY.ty) (l:=l5) (es:=([aY.mk (wr (a.ac + e_3.am)) e_3.az (wr (a.ac + e_3.aA))]:List aY)) rfl hp) (by kernel_rfl) (by rfl) (by rfl) (by rfl) ?_
 refine bM hn ?_
 exact cn hn ((wr (x75 + 1)),(l5 ++ ([aY.mk (wr (a.ac + e_3.am)) e_3.az (wr (a.ac + e_3.aA))]:List aY))) h
 refine bD rfl (bp (bC ht hn 1 ⟨[sV,(98, .sv (.agg [I a.ae,I (vM a b), .own 3, .own 5, .own 4]))],[.gone, .gone,mw,bf 3 aZ l3,bf 3 aZ l4,bf 29 aY.ty l5, .gone]⟩ ?_))
 refine dE (T:=aZ) (l:=l3) (e:=3) 3 rfl ?_
 refine bC ht hn 0 ⟨[sV,(98, .sv (.agg [I a.ae,I (vM a b),LS aZ l3, .own 5, .own 4]))],[.gone, .gone,mw, .gone,bf 3 aZ l4,bf 29 aY.ty l5, .gone]⟩ ?_
 refine dE (T:=aZ) (l:=l4) (e:=3) 4 rfl ?_
 refine bC ht hn 0 ⟨[sV,(98, .sv (.agg [I a.ae,I (vM a b),LS aZ l3, .own 5,LS aZ l4]))],[.gone, .gone,mw, .gone, .gone,bf 29 aY.ty l5, .gone]⟩ ?_
 obtain ⟨hp,h⟩:=h
 refine dz [sV] (Dx a.ae (vM a b) l3 l4 l5 hp) Mv (caps:=[]) [5] hn (by rfl) rfl (by rfl) (eR (by kernel_rfl) (by rfl)) (by kernel_rfl) (by decide) (by kernel_rfl) (by rfl) (by rfl) (fun r hr_2=>⟨by rfl,_,by rfl,?_⟩)
 replace h:=h r hr_2
 refine bM hn ?_
 exact fL ht (r,0) h
theorem en8 : ∀ args w,(callFunc 8 args).run Tryz.prog w=.ok (.enter 8 args) w:=enters_of Tryz.func8 (by kernel_rfl) rfl
theorem KK {X:Type} [Inhabited X] {l:List X} {p:X -> X -> Prop}:(∀ i j,i < j -> j < l.length -> p (gx l i) (gx l j)) ↔ l.Pairwise p:=by
 rw [List.pairwise_iff_getElem]
 constructor
 ·intro h i j hi hj hij
  have:=h i j hij hj
  rwa [eS hi,eS hj] at this
 ·intro h i j hij hj
  rw [eS (by omega),eS hj]
  exact h i j (by omega) hj hij
theorem ng {l:List Int}:Ris l ↔ l.Pairwise (· < ·):=KK
theorem CQ {l:List aY}:Ba l ↔ l.Pairwise (fun x y=>jU x y < 0):=KK (p:=fun x y=>jU x y < 0)
theorem Ba.nodup {l:List aY} (h:Ba l):l.Nodup:=(CQ.1 h).imp fun {x y} e k=>by
 subst k
 exact Av.asym x x e e
def shS (n:Int) (x:aY):aY:=aY.mk (n + x.am) x.az (n + x.aA)
theorem CP {l m:List Int} {n:Int} (hl:Ris l) (hm:Ris m) (h1:∀ q ∈ l,q < n) (h2:∀ q ∈ m,0 <= q):Ris (l ++ m.map (n + ·)):=by
 rw [ng,List.pairwise_append]
 refine ⟨ng.1 hl,List.Pairwise.map _ (fun x y h=>by omega) (ng.1 hm),fun x hx y hy=>?_⟩
 obtain ⟨z,hz,rfl⟩:=cP.1 hy
 have:=h1 x hx
 have:=h2 z hz
 omega
theorem EW {l m:List aY} {n:Int} (hl:l.Nodup) (hm:m.Nodup) (h1:∀ x ∈ l,x.am < n) (h2:∀ x ∈ m,0 <= x.am):(l ++ m.map (shS n)).Nodup:=by
 have inj:∀ x y,shS n x=shS n y -> x=y:=fun x y e=>by
  unfold shS at e
  cases x
  cases y
  simp only [aY.mk.injEq] at e ⊢
  omega
 refine List.nodup_append.2 ⟨hl,List.Pairwise.map _ (fun x y h e=>h (inj x y e)) hm,fun x hx y hy e=>?_⟩
 obtain ⟨z,hz,rfl⟩:=cP.1 hy
 have h3:=h1 x hx
 have h4:=h2 z hz
 subst e
 have h3:n + z.am < n:=h3
 omega
structure KV (a b r:bd):Prop where
 two:Ic a b
 sor:FK a.ae (a.ac + b.ac) (a.af ++ b.af.map (a.ac + ·)) (a.av ++ b.av.map (a.ac + ·)) (a.ar ++ b.ar.map (shS a.ac)) r
 rs:Ris (a.af ++ b.af.map (a.ac + ·))
 rf:Ris (a.av ++ b.av.map (a.ac + ·))
def Ky (a b:bd) (r:bd × Int):Prop:=r.2=0 -> KV a b r.1
theorem iD {l:List Int} {n:Int} (h:Ris l) (hr:∀ q ∈ l,0 <= q /\ q < n) (hn:n <= 300):l.length <= 300:=by
 rcases dA 300 l.length with c | c
 ·exfalso
  have:∀ k,k < l.length -> (k:Int) <= gx l k:=fun k=>by
   induction k with
   | zero =>
    intro hk
    have:=hr _ (by rw [eS hk]; exact dK hk:gx l 0 ∈ l)
    omega
   | succ k ih =>
    intro hk
    have h1:=ih (by omega)
    have h2:=h k (k + 1) (Nat.lt_succ_self k) hk
    omega
  have h1:=this 300 c
  have h2:=hr _ (by rw [eS c]; exact dK c:gx l 300 ∈ l)
  omega
 ·exact c
theorem Km (a:bd) (b:bd)  : Ct 8 [.sv (.agg [I a.ae,I a.ac,LS aZ a.af,LS aY.ty a.ar,LS aZ a.av]), .sv (.agg [I b.ae,I b.ac,LS aZ b.af,LS aY.ty b.ar,LS aZ b.av])] [] (Ky a b) (fun (r:(bd × Int))=>.tup [.agg [I r.1.ae,I r.1.ac,LS aZ r.1.af,LS aY.ty r.1.ar,LS aZ r.1.av], .one (I r.2)]):=by
 refine FD a b (Ky a b) ?_
 unfold zo
 intro _ _ _ _ _ _
 refine ⟨fun h e=>absurd e (by simpa using h),fun h=>?_⟩
 have h:oU a b=0:=by simpa using h
 have h2:=Cs h
 obtain ⟨hA,hB,hs,sa,sb⟩:=h2
 have la:=iD hA.rs hA.start (by omega)
 have lf:=iD hA.rf hA.final (by omega)
 have lb:=iD hB.rs hB.start (by omega)
 have lg:=iD hB.rf hB.final (by omega)
 have h3:=hA.few
 have h4:=hB.few
 have h5:=hA.states
 have h6:=hB.states
 have wq:∀ q:Int,(0 <= q /\ q < b.ac) -> wr (a.ac + q)=a.ac + q:=fun q hq=>bL (by omega) (by omega)
 refine ⟨by omega,by omega,by omega,fun x l=>∃ k:Nat,x=k /\ k <= b.af.length /\ l=a.af ++ (b.af.take k).map (a.ac + ·),fun x _=>b.af.length - x.toNat,⟨0,rfl,cy _,by simp⟩,?_⟩
 rintro x l ⟨k,rfl,hk,rfl⟩
 refine ⟨fun hb=>?_,fun hb=>?_⟩
 ·have hlt:=dlt hb
  refine ⟨_,eP hlt,eI (by simp only [di,df,eU,dq,dI]; omega),⟨k + 1,dj (by omega),hlt,?_⟩,dQ hlt (by omega)⟩
  rw [wq _ (hB.start _ (dK hlt)),ia,cO hlt,jJ,fE]
  rfl
 rw [f8 (dge hb)]
 clear hb hk
 refine ⟨fun x l=>∃ k:Nat,x=k /\ k <= b.av.length /\ l=a.av ++ (b.av.take k).map (a.ac + ·),fun x _=>b.av.length - x.toNat,⟨0,rfl,cy _,by simp⟩,?_⟩
 rintro x l ⟨k,rfl,hk,rfl⟩
 refine ⟨fun hb=>?_,fun hb=>?_⟩
 ·have hlt:=dlt hb
  refine ⟨_,eP hlt,eI (by simp only [di,df,eU,dq,dI]; omega),⟨k + 1,dj (by omega),hlt,?_⟩,dQ hlt (by omega)⟩
  rw [wq _ (hB.final _ (dK hlt)),ia,cO hlt,jJ,fE]
  rfl
 rw [f8 (dge hb)]
 clear hb hk
 refine ⟨fun x l=>∃ k:Nat,x=k /\ k <= b.ar.length /\ l=a.ar ++ (b.ar.take k).map (shS a.ac),fun x _=>b.ar.length - x.toNat,⟨0,rfl,cy _,by simp⟩,?_⟩
 rintro x l ⟨k,rfl,hk,rfl⟩
 refine ⟨fun hb=>?_,fun hb=>?_⟩
 ·have hlt:=dlt hb
  obtain ⟨g1,g2,g3⟩:=hB.steps _ (dK hlt)
  refine ⟨_,eP hlt,eI (by simp only [di,df,eU,dq,dI]; omega),⟨k + 1,dj (by omega),hlt,?_⟩,dQ hlt (by omega)⟩
  rw [wq _ g1,wq _ g2,ia,cO hlt,jJ,fE]
  rfl
 rw [f8 (dge hb)]
 have rs:=CP hA.rs hB.rs (n:=a.ac) (fun q hq=>(hA.start q hq).2) fun q hq=>(hB.start q hq).1
 have rf:=CP hA.rf hB.rf (n:=a.ac) (fun q hq=>(hA.final q hq).2) fun q hq=>(hB.final q hq).1
 refine ⟨⟨rs,rf,by simp only [di,df]; omega,by simp only [di,df]; omega,by simp only [di,df]; omega,EW hA.rx.nodup hB.rx.nodup (fun x hx=>(hA.steps x hx).1.2) fun x hx=>(hB.steps x hx).1.1⟩,fun r hr _=>⟨⟨hA,hB,hs,sa,sb⟩,?_,rs,rf⟩⟩
 rw [bL (by omega) (by omega)] at hr
 exact hr
def jC (letters:Int) (start:bc) (domgo:((bc × Int) -> Prop)) (go:((bc × Int) -> bc)) (dommark:(bc -> Prop)) (mark:(bc -> Int)) (limit:Int) (Q:(bz × Bool) -> Prop):Prop:=
 ∃ (Inv:(List (bc × Int)) -> (List bc) -> (List (List Int)) -> (List Int) -> Prop) (mu:(List (bc × Int)) -> (List bc) -> (List (List Int)) -> (List Int) -> Nat),Inv (fM start 0 ([]:List (bc × Int))) ([start]:List bc) ([]:List (List Int)) ([]:List Int) /\
 ∀ m3 l4 l8 l9,Inv m3 l4 l8 l9 -> (cv (decide ((l8.length:Int) < (l4.length:Int))) (∃ e,cq l4 (l8.length:Int)=some e /\
 jM letters letters 8 /\
 ∃ (Inv_2:Int -> (List (bc × Int)) -> (List bc) -> (List Int) -> Prop) (mu_2:Int -> (List (bc × Int)) -> (List bc) -> (List Int) -> Nat),Inv_2 0 m3 l4 (List.replicate (letters).toNat (0:Int)) /\
 ∀ x43 m3_2 l4_2 l11,Inv_2 x43 m3_2 l4_2 l11 -> (cv (decide (x43 < letters)) ((domgo (e,x43)) /\
 ∃ J:Int -> (List (bc × Int)) -> (List bc) -> Prop,(cv (!(fm (go (e,x43)) m3_2).isSome) (cv ((l4_2.length:Int) == limit) (Q ((bz.mk 0 0 [] []),false)) (ed l4_2.length ([(go (e,x43))]:List bc).length 80 /\
 J (l4_2.length:Int) (fM (go (e,x43)) (l4_2.length:Int) m3_2) (l4_2 ++ ([(go (e,x43))]:List bc)))) (J ((fm (go (e,x43)) m3_2).getD (0:Int)) m3_2 l4_2)) /\
 (∀ x19 m3_3 l4_3,J x19 m3_3 l4_3 -> ∃ e_2,cq l11 x43=some e_2 /\
 (Inv_2 (wr (x43 + 1)) m3_3 l4_3 (l11.set (x43).toNat x19) /\ mu_2 (wr (x43 + 1)) m3_3 l4_3 (l11.set (x43).toNat x19) < mu_2 x43 m3_2 l4_2 l11))) (ed l8.length ([l11]:List (List Int)).length 24 /\
 (dommark e) /\
 ed l9.length ([(mark e)]:List Int).length 8 /\
 (Inv m3_2 l4_2 (l8 ++ ([l11]:List (List Int))) (l9 ++ ([(mark e)]:List Int)) /\ mu m3_2 l4_2 (l8 ++ ([l11]:List (List Int))) (l9 ++ ([(mark e)]:List Int)) < mu m3 l4 l8 l9)))) (Q ((bz.mk letters 0 l8 l9),true)))
abbrev lh := (.box [I 0,I 0, .v (.slice none 0 0), .v (.slice none 0 0)] 35 false:br)
abbrev o4 (letters:Int) (domgo:((bc × Int) -> Prop)) (go:((bc × Int) -> bc)) (dommark:(bc -> Prop)) (mark:(bc -> Int)) (limit:Int):=([bg 0 (I letters),bg 2 (fv5 domgo go),bg 3 (fv6 dommark mark),bg 4 (I limit),bg 10 (.ptr 1 0),bg 12 (.ptr 2 0),bg 13 (.own 3)]:List (Nat × SC))
abbrev om (letters:Int):=(.box [I letters,I 0, .own 8, .own 9] 35 false:br)
abbrev JD (letters:Int):=(.box [I letters,I 0, .v (.slice none 0 0), .v (.slice none 0 0)] 35 false:br)
abbrev sU := (List bc)
abbrev pG := sl 15 (.ptr 10 0)
abbrev vL := (List (List Int))
set_option maxHeartbeats 2000000 in
theorem mC (letters:Int) (start:bc) (domgo:((bc × Int) -> Prop)) (go:((bc × Int) -> bc)) (dommark:(bc -> Prop)) (mark:(bc -> Int)) (limit:Int) (Q:(bz × Bool) -> Prop) (h:jC letters start domgo go dommark mark limit Q):Ct 33 [.sv (.one (I letters)), .sv (.agg [I start.ai.aC,I start.ai.ap.aj,I start.ai.ap.aq,I start.ai.ap.aw,I start.ai.ap.ax,I start.ai.ak.aj,I start.ai.ak.aq,I start.ai.ak.aw,I start.ai.ak.ax,I start.ay]), .sv (.one (fv5 domgo go)), .sv (.one (fv6 dommark mark)), .sv (.one (I limit))] [] Q (fun (r:(bz × Bool))=>.tup [.agg [I r.1.ae,I r.1.af,LS (cB aZ) r.1.aa,LS aZ r.1.ay], .one (B r.2)]):=by
 have ht:=bA
 refine Ct.body Tryz.func33 rfl rfl rfl rfl (fun c hn=>?_)
 unfold jC at h
 refine bk hn ?_
 refine bp (cw ht hn 4 ⟨[ba 0 letters,bg 2 (fv5 domgo go),bg 3 (fv6 dommark mark),ba 4 limit,bu 6 0 0,bu 10 1 0,bu 12 2 0],[.box (bc.cl start) 81 false,lh,JD letters]⟩ ?_)
 refine bp (dg (K:=[]) (p:=some (3,d9 bc.enc aZ ([]:List (bc × Int)))) hn (by rfl) (o8 bc.enc aZ 3 rfl) (by rfl) (by rfl) (by rfl) ?_)
 refine bC ht hn 1 ⟨[ba 0 letters,bg 2 (fv5 domgo go),bg 3 (fv6 dommark mark),ba 4 limit,bu 6 0 0,bu 10 1 0,bu 12 2 0,bx 23 3,(24, .sv (.agg (bc.cl start)))],[.box (bc.cl start) 81 false,lh,JD letters,d9 bc.enc aZ ([]:List (bc × Int))]⟩ ?_
 refine lY (T:=aZ) bc.keyLaw (k:=start) (y:=0) hn (by rfl) (.inr rfl) Tryz.underlying106 (by rfl) (by rfl) (by rfl) (by rfl) (by rfl) (by rfl) ?_
 refine bM hn ?_
 refine bi (bp (bC ht hn 1 ⟨(26, .sv (.agg (bc.cl start))) :: (o4 letters domgo go dommark mark limit),[.gone,lh,JD letters,d9 bc.enc aZ (fM start 0 ([]:List (bc × Int)))]⟩ ?_))
 refine dg (K:=[]) (p:=some (4,bf 81 bc.ty ([start]:sU))) hn (by rfl) (lI (T:=bc.ty) ([start]:sU) 4 rfl) (by rfl) (by rfl) (by rfl) ?_
 refine cw ht hn 1 ⟨bx 14 4 :: (o4 letters domgo go dommark mark limit),[.gone,lh,JD letters,d9 bc.enc aZ (fM start 0 ([]:List (bc × Int))),bf 81 bc.ty ([start]:sU)]⟩ ?_
 refine bj (fA (T:=(cB aZ)) 2 2 8 22 (by rfl) (by rfl) (by rfl) (by rfl) ?_)
 refine fA (T:=aZ) 2 3 9 3 (by rfl) (by rfl) (by rfl) (by rfl) ?_
 refine DI h (fun zz=>⟨[ba 0 letters,bg 2 (fv5 domgo go),bg 3 (fv6 dommark mark),ba 4 limit,bu 10 1 0,bu 12 2 0,bx 13 3,bx 14 4],[.gone,lh,om letters,d9 bc.enc aZ zz.1,bf 81 bc.ty zz.2.1, .gone, .gone, .gone,bf 22 (cB aZ) zz.2.2.1,bf 3 aZ zz.2.2.2]⟩) fun Inv mu m3 l4 l8 l9 h=>?_
 refine bi (bk hn ?_)
 refine bv h (fun h=>?_) (fun h=>?_)
 refine bn (bj (bp (cN hn 4 ?_)))
 obtain ⟨e,he,h⟩:=h
 refine bT hn (iO (T:=bc.ty) rfl he) ?_
 refine bT hn (lO (T:=bc.ty) rfl (bs he).2.2) ?_
 refine bM hn ?_
 refine bp (bC ht hn 1 ⟨bx 14 4 :: pG :: ba 40 letters :: (o4 letters domgo go dommark mark limit),[.gone,lh,om letters,d9 bc.enc aZ m3,bf 81 bc.ty l4, .gone, .gone, .gone,bf 22 (cB aZ) l8,bf 3 aZ l9, .box (bc.cl e) 81 false]⟩ ?_)
 obtain ⟨hp,h⟩:=h
 refine dg (K:=[]) (p:=some (11,bf 3 aZ (List.replicate (letters).toNat (0:Int)))) hn (by rfl) (kN (T:=aZ) (0:Int) (zv:=(.int .i64 0)) 11 (l:=letters) (cp:=letters) ht rfl (by rfl) (by rfl) (by rfl) (by rfl) (by decide) (by rfl) (by rfl) hp.1 hp.2.1 hp.2.2 (hp.le (by decide)) rfl (fun _=>⟨rfl,trivial⟩)) (by rfl) (by rfl) (by rfl) ?_
 refine bM hn ?_
 refine bi (bk hn ?_)
 refine bj (DI h (fun zz=>⟨[ba 0 letters,bg 2 (fv5 domgo go),bg 3 (fv6 dommark mark),ba 4 limit,bu 10 1 0,bu 12 2 0,bx 13 3,bx 14 4,pG,bx 16 11,ba 42 letters,ba 43 zz.1],[.gone,lh,om letters,d9 bc.enc aZ zz.2.1,bf 81 bc.ty zz.2.2.1, .gone, .gone, .gone,bf 22 (cB aZ) l8,bf 3 aZ l9, .box (bc.cl e) 81 false,bf 3 aZ zz.2.2.2]⟩) fun Inv_2 mu_2 x43 m3_2 l4_2 l11 h=>?_)
 refine bk hn ?_
 refine bi (bv h (fun h=>?_) (fun h=>?_))
 refine bn (bi (bj (bk hn ?_)))
 refine bp (bC ht hn 3 ⟨bx 14 4 :: pG :: bx 16 11 :: ba 17 x43 :: ba 42 letters :: ba 43 x43 :: bg 46 (fv5 domgo go) :: (47, .sv (.agg (bc.cl e))) :: ba 48 x43 :: (o4 letters domgo go dommark mark limit),[.gone,lh,om letters,d9 bc.enc aZ m3_2,bf 81 bc.ty l4_2, .gone, .gone, .gone,bf 22 (cB aZ) l8,bf 3 aZ l9, .box (bc.cl e) 81 false,bf 3 aZ l11]⟩ ?_)
 obtain ⟨hp,h⟩:=h
 refine i9 hn (fG (e,x43) hp rfl (by rfl) (by rfl) (by rfl) (by rfl)) ?_
 refine bM hn ?_
 refine bp (bC ht hn 2 ⟨bx 14 4 :: pG :: bx 16 11 :: ba 17 x43 :: bu 18 12 0 :: ba 42 letters :: ba 43 x43 :: bx 51 3 :: (52, .sv (.agg (bc.cl (go (e,x43))))) :: (o4 letters domgo go dommark mark limit),[.gone,lh,om letters,d9 bc.enc aZ m3_2,bf 81 bc.ty l4_2, .gone, .gone, .gone,bf 22 (cB aZ) l8,bf 3 aZ l9, .box (bc.cl e) 81 false,bf 3 aZ l11, .box (bc.cl (go (e,x43))) 81 false]⟩ ?_)
 refine fe hn (mj (T:=aZ) (D:=m3_2) bc.keyLaw (k:=(go (e,x43))) (ok:=true) (0:Int) (zv:=(.int .i64 0)) rfl Tryz.underlying106 (fun _=>by kernel_rfl) (fun _=>⟨rfl,trivial⟩) (sI bc.enc aZ m3_2) (by rfl) (by rfl) (by rfl) (fun _=>rfl)) ?_
 refine bM hn ?_
 obtain ⟨J,h,hJ⟩:=h
 refine bS (σ:=Int × (List (bc × Int)) × sU) (fun zz=>J zz.1 zz.2.1 zz.2.2) (fun zz=>⟨[ba 0 letters,bg 2 (fv5 domgo go),bg 3 (fv6 dommark mark),ba 4 limit,bu 10 1 0,bu 12 2 0,bx 13 3,bx 14 4,pG,bx 16 11,ba 17 x43,ba 19 zz.1,ba 42 letters,ba 43 x43],[.gone,lh,om letters,d9 bc.enc aZ zz.2.1,bf 81 bc.ty zz.2.2, .gone, .gone, .gone,bf 22 (cB aZ) l8,bf 3 aZ l9, .box (bc.cl e) 81 false,bf 3 aZ l11, .gone]⟩) ?_ ?_
 refine bk hn ?_
 refine bv h (fun h=>?_) (fun h=>?_)
 refine bk hn ?_
 refine bi (bk hn ?_)
 refine bv h (fun h=>?_) (fun h=>?_)
 refine bp (cw ht hn 3 ⟨[bu 10 1 0,bG 11 false],[.gone,lh, .gone, .gone, .gone, .gone, .gone, .gone, .gone, .gone, .gone, .gone, .gone]⟩ ?_)
 refine cT (dn (T:=(cB aZ)) 1 2 (by rfl) (by rfl) ?_)
 refine dn (T:=aZ) 1 3 (by rfl) (by rfl) ?_
 exact eW ht ((bz.mk 0 0 [] []),false) h (by kernel_rfl) rfl
 refine bn (bp (bC ht hn 3 ⟨bx 14 4 :: pG :: bx 16 11 :: ba 17 x43 :: bu 18 12 0 :: ba 19 (l4_2.length:Int) :: ba 42 letters :: ba 43 x43 :: bx 64 3 :: (65, .sv (.agg (bc.cl (go (e,x43))))) :: ba 66 (l4_2.length:Int) :: (o4 letters domgo go dommark mark limit),[.gone,lh,om letters,d9 bc.enc aZ m3_2,bf 81 bc.ty l4_2, .gone, .gone, .gone,bf 22 (cB aZ) l8,bf 3 aZ l9, .box (bc.cl e) 81 false,bf 3 aZ l11, .box (bc.cl (go (e,x43))) 81 false]⟩ ?_))
 refine lY (T:=aZ) bc.keyLaw (k:=(go (e,x43))) (y:=(l4_2.length:Int)) hn (by rfl) (.inl rfl) Tryz.underlying106 (by rfl) (by rfl) (by rfl) (by rfl) (by rfl) (by rfl) ?_
 refine bH (bI (bC ht hn 2 ⟨(pG) :: bx 16 11 :: ba 17 x43 :: ba 19 (l4_2.length:Int) :: ba 42 letters :: ba 43 x43 :: bx 67 4 :: (68, .sv (.agg (bc.cl (go (e,x43))))) :: (o4 letters domgo go dommark mark limit),[.gone,lh,om letters,d9 bc.enc aZ (fM (go (e,x43)) (l4_2.length:Int) m3_2),bf 81 bc.ty l4_2, .gone, .gone, .gone,bf 22 (cB aZ) l8,bf 3 aZ l9, .box (bc.cl e) 81 false,bf 3 aZ l11, .gone]⟩ ?_))
 refine dg (K:=[]) (p:=some (13,bf 81 bc.ty ([go (e,x43)]:sU))) hn (by rfl) (lI (T:=bc.ty) ([go (e,x43)]:sU) 13 rfl) (by rfl) (by rfl) (by rfl) ?_
 refine dE (T:=bc.ty) (l:=([go (e,x43)]:sU)) (e:=81) 13 rfl ?_
 refine bC ht hn 0 ⟨(pG) :: bx 16 11 :: ba 17 x43 :: ba 19 (l4_2.length:Int) :: ba 42 letters :: ba 43 x43 :: bx 67 4 :: (68, .sv (.agg (bc.cl (go (e,x43))))) :: bg 69 (LS bc.ty ([go (e,x43)]:sU)) :: (o4 letters domgo go dommark mark limit),[.gone,lh,om letters,d9 bc.enc aZ (fM (go (e,x43)) (l4_2.length:Int) m3_2),bf 81 bc.ty l4_2, .gone, .gone, .gone,bf 22 (cB aZ) l8,bf 3 aZ l9, .box (bc.cl e) 81 false,bf 3 aZ l11, .gone, .gone]⟩ ?_
 obtain ⟨hp,h⟩:=h
 refine jF (S2:=⟨(pG) :: bx 16 11 :: ba 17 x43 :: ba 19 (l4_2.length:Int) :: ba 42 letters :: ba 43 x43 :: (68, .sv (.agg (bc.cl (go (e,x43))))) :: bg 69 (LS bc.ty ([go (e,x43)]:sU)) :: (o4 letters domgo go dommark mark limit),[.gone,lh,om letters,d9 bc.enc aZ (fM (go (e,x43)) (l4_2.length:Int) m3_2),bf 81 bc.ty l4_2, .gone, .gone, .gone,bf 22 (cB aZ) l8,bf 3 aZ l9, .box (bc.cl e) 81 false,bf 3 aZ l11, .gone, .gone]⟩) (K:=[4]) (p:=some (4,bf 81 bc.ty (l4_2 ++ ([go (e,x43)]:sU)))) hn (by rfl) (aP (T:=bc.ty) (l:=l4_2) (es:=([go (e,x43)]:sU)) rfl hp) (by kernel_rfl) (by rfl) (by rfl) (by rfl) ?_
 refine bM hn ?_
 exact bZ ((l4_2.length:Int),(fM (go (e,x43)) (l4_2.length:Int) m3_2),(l4_2 ++ ([go (e,x43)]:sU))) h
 exact bn (bZ (((fm (go (e,x43)) m3_2).getD (0:Int)),m3_2,l4_2) h)
 rintro ⟨x19,m3_3,l4_3⟩ h
 replace h:=hJ _ _ _ h
 refine bI (cN hn 3 ?_)
 obtain ⟨e_2,he_2,h⟩:=h
 refine bT hn (iO (T:=aZ) rfl he_2) ?_
 refine gg (T:=aZ) (y:=x19) hn rfl (dd he_2) ?_
 exact bH (cn hn ((wr (x43 + 1)),m3_3,l4_3,(l11.set (x43).toNat x19)) h)
 refine bD rfl (bp (bC ht hn 3 ⟨bx 14 4 :: pG :: bx 77 8 :: bx 78 11 :: (o4 letters domgo go dommark mark limit),[.gone,lh,om letters,d9 bc.enc aZ m3_2,bf 81 bc.ty l4_2, .gone, .gone, .gone,bf 22 (cB aZ) l8,bf 3 aZ l9, .box (bc.cl e) 81 false,bf 3 aZ l11]⟩ ?_))
 refine dE (T:=aZ) (l:=l11) (e:=3) 11 rfl ?_
 refine bC ht hn 0 ⟨bx 14 4 :: pG :: bx 77 8 :: bg 78 (LS aZ l11) :: (o4 letters domgo go dommark mark limit),[.gone,lh,om letters,d9 bc.enc aZ m3_2,bf 81 bc.ty l4_2, .gone, .gone, .gone,bf 22 (cB aZ) l8,bf 3 aZ l9, .box (bc.cl e) 81 false, .gone]⟩ ?_
 refine dg (K:=[]) (p:=some (12,bf 22 (cB aZ) ([l11]:vL))) hn (by rfl) (lI (T:=(cB aZ)) ([l11]:vL) 12 rfl) (by rfl) (by rfl) (by rfl) ?_
 refine dE (T:=(cB aZ)) (l:=([l11]:vL)) (e:=22) 12 rfl ?_
 refine bC ht hn 0 ⟨bx 14 4 :: pG :: bx 77 8 :: bg 78 (LS aZ l11) :: bg 79 (LS (cB aZ) ([l11]:vL)) :: (o4 letters domgo go dommark mark limit),[.gone,lh,om letters,d9 bc.enc aZ m3_2,bf 81 bc.ty l4_2, .gone, .gone, .gone,bf 22 (cB aZ) l8,bf 3 aZ l9, .box (bc.cl e) 81 false, .gone, .gone]⟩ ?_
 refine rh 2 2 (by rfl) ?_
 obtain ⟨hp,h⟩:=h
 refine jF (S2:=⟨bx 14 4 :: pG :: bg 78 (LS aZ l11) :: bg 79 (LS (cB aZ) ([l11]:vL)) :: (o4 letters domgo go dommark mark limit),[.gone,lh, .box [I letters,I 0, .junk, .own 9] 35 false,d9 bc.enc aZ m3_2,bf 81 bc.ty l4_2, .gone, .gone, .gone,bf 22 (cB aZ) l8,bf 3 aZ l9, .box (bc.cl e) 81 false, .gone, .gone]⟩) (K:=[8]) (p:=some (8,bf 22 (cB aZ) (l8 ++ ([l11]:vL)))) hn (by rfl) (aP (T:=(cB aZ)) (l:=l8) (es:=([l11]:vL)) rfl hp) (by kernel_rfl) (by rfl) (by rfl) (by rfl) ?_
 refine bM hn ?_
 obtain ⟨hp_2,h⟩:=h
 obtain ⟨hp_3,h⟩:=h
 refine DH ⟨bx 14 4 :: pG :: (o4 letters domgo go dommark mark limit),[cQ 2 3,cu 9,o1 (fv6 dommark mark), .sv (.agg (bc.cl e)),bq (mark e),o1 (LS aZ ([mark e]:List Int)),cu 13,cQ 2 3,bJ],[bU .gone,bU (lh),⟨(om letters),none,none,some (8, .box [I letters,I 0, .own 8, .own 13] 35 false)⟩,bU (d9 bc.enc aZ m3_2),bU (bf 81 bc.ty l4_2),bU .gone,bU .gone,bU .gone,bU (bf 22 (cB aZ) (l8 ++ ([l11]:vL))),⟨bf 3 aZ l9,none,some 6,none⟩,bU (.box (bc.cl e) 81 false),bU .gone,bU .gone,⟨bf 3 aZ (l9 ++ ([mark e]:List Int)),some 6,none,none⟩]⟩ ⟨bx 14 4 :: (o4 letters domgo go dommark mark limit),[.gone,lh, .box [I letters,I 0, .own 8, .own 13] 35 false,d9 bc.enc aZ m3_2,bf 81 bc.ty l4_2, .gone, .gone, .gone,bf 22 (cB aZ) (l8 ++ ([l11]:vL)), .gone, .gone, .gone, .gone,bf 3 aZ (l9 ++ ([mark e]:List Int))]⟩ hn ?_ ?_
 exact ⟨.e,
 .e,
 .e,
 .e,
 .v (cV (ins:=(fun (x:bc)=>[.sv (.agg (bc.cl x))])) (out:=(fun (r:Int)=>.sv (.one (I r)))) (dom:=dommark) (φ:=mark) e hp_2 rfl),
 .mt ⟨[ba 86 (mark e)],[]⟩ [] none (by kernel_rfl) (by rfl) (jV (q:=13) (e:=3) (lI (T:=aZ) ([mark e]:List Int) 13 rfl)) rfl rfl rfl rfl,
 .mt ⟨[bx 83 9,bg 87 (LS aZ ([mark e]:List Int))],[.gone, .gone, .gone, .gone, .gone, .gone, .gone, .gone, .gone,bf 3 aZ l9]⟩ [9] (some 13) (by kernel_rfl) (by rfl) (aP (T:=aZ) (l:=l9) (es:=([mark e]:List Int)) (p:=13) rfl hp_3) rfl rfl rfl rfl,
 .e,
 .mu ⟨[bx 88 13,bu 89 2 3],[.gone, .gone,om letters]⟩ 2 _ _ rfl rfl (by kernel_rfl) (by rfl) (eY ht rfl (by rfl) (by rfl) (by rfl) (by rfl) (fun h=>by cases h) (by rfl) (by rfl)) rfl rfl rfl rfl rfl rfl rfl,
 trivial⟩
 refine kV 13 9 (by rfl) (by rfl) ?_
 exact bZ (m3_2,l4_2,(l8 ++ ([l11]:vL)),(l9 ++ ([mark e]:List Int))) h
 refine bD rfl (bp (cw ht hn 3 ⟨[bu 10 1 0,bG 11 true],[.gone,om letters, .gone, .gone, .gone, .gone, .gone, .gone,bf 22 (cB aZ) l8,bf 3 aZ l9]⟩ ?_))
 refine cT (iZ (T:=(cB aZ)) (l:=l8) (e:=22) 8 rfl ?_)
 refine iZ (T:=aZ) (l:=l9) (e:=3) 9 rfl ?_
 exact eW ht ((bz.mk letters 0 l8 l9),true) h (by kernel_rfl) rfl
theorem NK : ∀ args w,(callFunc 33 args).run Tryz.prog w=.ok (.enter 33 args) w:=enters_of Tryz.func33 (by kernel_rfl) rfl
def oG (letters:Int) (start:Int) (domgo:((Int × Int) -> Prop)) (go:((Int × Int) -> Int)) (dommark:(Int -> Prop)) (mark:(Int -> Int)) (limit:Int) (Q:(bz × Bool) -> Prop):Prop:=
 ∃ (Inv:(List (Int × Int)) -> (List Int) -> (List (List Int)) -> (List Int) -> Prop) (mu:(List (Int × Int)) -> (List Int) -> (List (List Int)) -> (List Int) -> Nat),Inv (fM start 0 ([]:List (Int × Int))) ([start]:List Int) ([]:List (List Int)) ([]:List Int) /\
 ∀ m2 l3 l6 l7,Inv m2 l3 l6 l7 -> (cv (decide ((l6.length:Int) < (l3.length:Int))) (∃ e,cq l3 (l6.length:Int)=some e /\
 jM letters letters 8 /\
 ∃ (Inv_2:Int -> (List (Int × Int)) -> (List Int) -> (List Int) -> Prop) (mu_2:Int -> (List (Int × Int)) -> (List Int) -> (List Int) -> Nat),Inv_2 0 m2 l3 (List.replicate (letters).toNat (0:Int)) /\
 ∀ x43 m2_2 l3_2 l8,Inv_2 x43 m2_2 l3_2 l8 -> (cv (decide (x43 < letters)) ((domgo (e,x43)) /\
 ∃ J:Int -> (List (Int × Int)) -> (List Int) -> Prop,(cv (!(fm (go (e,x43)) m2_2).isSome) (cv ((l3_2.length:Int) == limit) (Q ((bz.mk 0 0 [] []),false)) (ed l3_2.length ([(go (e,x43))]:List Int).length 8 /\
 J (l3_2.length:Int) (fM (go (e,x43)) (l3_2.length:Int) m2_2) (l3_2 ++ ([(go (e,x43))]:List Int)))) (J ((fm (go (e,x43)) m2_2).getD (0:Int)) m2_2 l3_2)) /\
 (∀ x19 m2_3 l3_3,J x19 m2_3 l3_3 -> ∃ e_2,cq l8 x43=some e_2 /\
 (Inv_2 (wr (x43 + 1)) m2_3 l3_3 (l8.set (x43).toNat x19) /\ mu_2 (wr (x43 + 1)) m2_3 l3_3 (l8.set (x43).toNat x19) < mu_2 x43 m2_2 l3_2 l8))) (ed l6.length ([l8]:List (List Int)).length 24 /\
 (dommark e) /\
 ed l7.length ([(mark e)]:List Int).length 8 /\
 (Inv m2_2 l3_2 (l6 ++ ([l8]:List (List Int))) (l7 ++ ([(mark e)]:List Int)) /\ mu m2_2 l3_2 (l6 ++ ([l8]:List (List Int))) (l7 ++ ([(mark e)]:List Int)) < mu m2 l3 l6 l7)))) (Q ((bz.mk letters 0 l6 l7),true)))
abbrev ld := (.box [I 0,I 0, .v (.slice none 0 0), .v (.slice none 0 0)] 35 false:br)
abbrev oZ (letters:Int) (domgo:((Int × Int) -> Prop)) (go:((Int × Int) -> Int)) (dommark:(Int -> Prop)) (mark:(Int -> Int)) (limit:Int):=([bg 0 (I letters),bg 2 (fv7 domgo go),bg 3 (fv8 dommark mark),bg 4 (I limit),bg 10 (.ptr 0 0),bg 12 (.ptr 1 0),bg 13 (.own 2)]:List (Nat × SC))
abbrev ol (letters:Int):=(.box [I letters,I 0, .own 6, .own 7] 35 false:br)
abbrev JC (letters:Int):=(.box [I letters,I 0, .v (.slice none 0 0), .v (.slice none 0 0)] 35 false:br)
abbrev vK := (List (List Int))
set_option maxHeartbeats 2000000 in
theorem sZ (letters:Int) (start:Int) (domgo:((Int × Int) -> Prop)) (go:((Int × Int) -> Int)) (dommark:(Int -> Prop)) (mark:(Int -> Int)) (limit:Int) (Q:(bz × Bool) -> Prop) (h:oG letters start domgo go dommark mark limit Q):Ct 66 [.sv (.one (I letters)), .sv (.one (I start)), .sv (.one (fv7 domgo go)), .sv (.one (fv8 dommark mark)), .sv (.one (I limit))] [] Q (fun (r:(bz × Bool))=>.tup [.agg [I r.1.ae,I r.1.af,LS (cB aZ) r.1.aa,LS aZ r.1.ay], .one (B r.2)]):=by
 have ht:=bA
 refine Ct.body Tryz.func66 rfl rfl rfl rfl (fun c hn=>?_)
 unfold oG at h
 refine bk hn ?_
 refine bp (cw ht hn 4 ⟨[ba 0 letters,ba 1 start,bg 2 (fv7 domgo go),bg 3 (fv8 dommark mark),ba 4 limit,bu 10 0 0,bu 12 1 0],[ld,JC letters]⟩ ?_)
 refine bp (dg (K:=[]) (p:=some (2,d9 fJ aZ ([]:List (Int × Int)))) hn (by rfl) (o8 fJ aZ 2 rfl) (by rfl) (by rfl) (by rfl) ?_)
 refine bC ht hn 1 ⟨[ba 0 letters,ba 1 start,bg 2 (fv7 domgo go),bg 3 (fv8 dommark mark),ba 4 limit,bu 10 0 0,bu 12 1 0,bx 23 2,ba 24 start],[ld,JC letters,d9 fJ aZ ([]:List (Int × Int))]⟩ ?_
 refine lY (T:=aZ) Hm (k:=start) (y:=0) hn (by rfl) (.inr rfl) Tryz.underlying130 (by rfl) (by rfl) (by rfl) (by rfl) (by rfl) (by rfl) ?_
 refine bM hn ?_
 refine bi (bp (bC ht hn 1 ⟨ba 26 start :: (oZ letters domgo go dommark mark limit),[ld,JC letters,d9 fJ aZ (fM start 0 ([]:List (Int × Int)))]⟩ ?_))
 refine dg (K:=[]) (p:=some (3,bf 3 aZ ([start]:List Int))) hn (by rfl) (lI (T:=aZ) ([start]:List Int) 3 rfl) (by rfl) (by rfl) (by rfl) ?_
 refine cw ht hn 1 ⟨bx 14 3 :: (oZ letters domgo go dommark mark limit),[ld,JC letters,d9 fJ aZ (fM start 0 ([]:List (Int × Int))),bf 3 aZ ([start]:List Int)]⟩ ?_
 refine bj (fA (T:=(cB aZ)) 1 2 6 22 (by rfl) (by rfl) (by rfl) (by rfl) ?_)
 refine fA (T:=aZ) 1 3 7 3 (by rfl) (by rfl) (by rfl) (by rfl) ?_
 refine DI h (fun zz=>⟨[ba 0 letters,bg 2 (fv7 domgo go),bg 3 (fv8 dommark mark),ba 4 limit,bu 10 0 0,bu 12 1 0,bx 13 2,bx 14 3],[ld,ol letters,d9 fJ aZ zz.1,bf 3 aZ zz.2.1, .gone, .gone,bf 22 (cB aZ) zz.2.2.1,bf 3 aZ zz.2.2.2]⟩) fun Inv mu m2 l3 l6 l7 h=>?_
 refine bi (bk hn ?_)
 refine bv h (fun h=>?_) (fun h=>?_)
 refine bn (bj (bp (cN hn 4 ?_)))
 obtain ⟨e,he,h⟩:=h
 refine bT hn (iO (T:=aZ) rfl he) ?_
 refine bT hn (lO (T:=aZ) rfl (bs he).2.2) ?_
 refine bM hn ?_
 refine bp (bC ht hn 1 ⟨bx 14 3 :: ba 15 e :: ba 40 letters :: (oZ letters domgo go dommark mark limit),[ld,ol letters,d9 fJ aZ m2,bf 3 aZ l3, .gone, .gone,bf 22 (cB aZ) l6,bf 3 aZ l7]⟩ ?_)
 obtain ⟨hp,h⟩:=h
 refine dg (K:=[]) (p:=some (8,bf 3 aZ (List.replicate (letters).toNat (0:Int)))) hn (by rfl) (kN (T:=aZ) (0:Int) (zv:=(.int .i64 0)) 8 (l:=letters) (cp:=letters) ht rfl (by rfl) (by rfl) (by rfl) (by rfl) (by decide) (by rfl) (by rfl) hp.1 hp.2.1 hp.2.2 (hp.le (by decide)) rfl (fun _=>⟨rfl,trivial⟩)) (by rfl) (by rfl) (by rfl) ?_
 refine bM hn ?_
 refine bi (bk hn ?_)
 refine bj (DI h (fun zz=>⟨[ba 0 letters,bg 2 (fv7 domgo go),bg 3 (fv8 dommark mark),ba 4 limit,bu 10 0 0,bu 12 1 0,bx 13 2,bx 14 3,ba 15 e,bx 16 8,ba 42 letters,ba 43 zz.1],[ld,ol letters,d9 fJ aZ zz.2.1,bf 3 aZ zz.2.2.1, .gone, .gone,bf 22 (cB aZ) l6,bf 3 aZ l7,bf 3 aZ zz.2.2.2]⟩) fun Inv_2 mu_2 x43 m2_2 l3_2 l8 h=>?_)
 refine bk hn ?_
 refine bi (bv h (fun h=>?_) (fun h=>?_))
 refine bn (bi (bj (bk hn ?_)))
 refine bp (bC ht hn 3 ⟨bx 14 3 :: ba 15 e :: bx 16 8 :: ba 17 x43 :: ba 42 letters :: ba 43 x43 :: bg 46 (fv7 domgo go) :: ba 47 e :: ba 48 x43 :: (oZ letters domgo go dommark mark limit),[ld,ol letters,d9 fJ aZ m2_2,bf 3 aZ l3_2, .gone, .gone,bf 22 (cB aZ) l6,bf 3 aZ l7,bf 3 aZ l8]⟩ ?_)
 obtain ⟨hp,h⟩:=h
 refine i9 hn (fG (e,x43) hp rfl (by rfl) (by rfl) (by rfl) (by rfl)) ?_
 refine bM hn ?_
 refine bp (bC ht hn 2 ⟨bx 14 3 :: ba 15 e :: bx 16 8 :: ba 17 x43 :: ba 18 (go (e,x43)) :: ba 42 letters :: ba 43 x43 :: bx 51 2 :: ba 52 (go (e,x43)) :: (oZ letters domgo go dommark mark limit),[ld,ol letters,d9 fJ aZ m2_2,bf 3 aZ l3_2, .gone, .gone,bf 22 (cB aZ) l6,bf 3 aZ l7,bf 3 aZ l8]⟩ ?_)
 refine fe hn (mj (T:=aZ) (D:=m2_2) Hm (k:=(go (e,x43))) (ok:=true) (0:Int) (zv:=(.int .i64 0)) rfl Tryz.underlying130 (fun _=>by kernel_rfl) (fun _=>⟨rfl,trivial⟩) (sI fJ aZ m2_2) (by rfl) (by rfl) (by rfl) (fun _=>rfl)) ?_
 refine bM hn ?_
 obtain ⟨J,h,hJ⟩:=h
 refine bS (σ:=Int × (List (Int × Int)) × (List Int)) (fun zz=>J zz.1 zz.2.1 zz.2.2) (fun zz=>⟨[ba 0 letters,bg 2 (fv7 domgo go),bg 3 (fv8 dommark mark),ba 4 limit,bu 10 0 0,bu 12 1 0,bx 13 2,bx 14 3,ba 15 e,bx 16 8,ba 17 x43,ba 19 zz.1,ba 42 letters,ba 43 x43],[ld,ol letters,d9 fJ aZ zz.2.1,bf 3 aZ zz.2.2, .gone, .gone,bf 22 (cB aZ) l6,bf 3 aZ l7,bf 3 aZ l8]⟩) ?_ ?_
 refine bk hn ?_
 refine bv h (fun h=>?_) (fun h=>?_)
 refine bk hn ?_
 refine bi (bk hn ?_)
 refine bv h (fun h=>?_) (fun h=>?_)
 refine bp (cw ht hn 3 ⟨[bu 10 0 0,bG 11 false],[ld, .gone, .gone, .gone, .gone, .gone, .gone, .gone, .gone]⟩ ?_)
 refine cT (dn (T:=(cB aZ)) 0 2 (by rfl) (by rfl) ?_)
 refine dn (T:=aZ) 0 3 (by rfl) (by rfl) ?_
 exact eW ht ((bz.mk 0 0 [] []),false) h (by kernel_rfl) rfl
 refine bn (bp (bC ht hn 3 ⟨bx 14 3 :: ba 15 e :: bx 16 8 :: ba 17 x43 :: ba 18 (go (e,x43)) :: ba 19 (l3_2.length:Int) :: ba 42 letters :: ba 43 x43 :: bx 64 2 :: ba 65 (go (e,x43)) :: ba 66 (l3_2.length:Int) :: (oZ letters domgo go dommark mark limit),[ld,ol letters,d9 fJ aZ m2_2,bf 3 aZ l3_2, .gone, .gone,bf 22 (cB aZ) l6,bf 3 aZ l7,bf 3 aZ l8]⟩ ?_))
 refine lY (T:=aZ) Hm (k:=(go (e,x43))) (y:=(l3_2.length:Int)) hn (by rfl) (.inl rfl) Tryz.underlying130 (by rfl) (by rfl) (by rfl) (by rfl) (by rfl) (by rfl) ?_
 refine bH (bI (bC ht hn 2 ⟨ba 15 e :: bx 16 8 :: ba 17 x43 :: ba 19 (l3_2.length:Int) :: ba 42 letters :: ba 43 x43 :: bx 67 3 :: ba 68 (go (e,x43)) :: (oZ letters domgo go dommark mark limit),[ld,ol letters,d9 fJ aZ (fM (go (e,x43)) (l3_2.length:Int) m2_2),bf 3 aZ l3_2, .gone, .gone,bf 22 (cB aZ) l6,bf 3 aZ l7,bf 3 aZ l8]⟩ ?_))
 refine dg (K:=[]) (p:=some (9,bf 3 aZ ([go (e,x43)]:List Int))) hn (by rfl) (lI (T:=aZ) ([go (e,x43)]:List Int) 9 rfl) (by rfl) (by rfl) (by rfl) ?_
 refine dE (T:=aZ) (l:=([go (e,x43)]:List Int)) (e:=3) 9 rfl ?_
 refine bC ht hn 0 ⟨ba 15 e :: bx 16 8 :: ba 17 x43 :: ba 19 (l3_2.length:Int) :: ba 42 letters :: ba 43 x43 :: bx 67 3 :: ba 68 (go (e,x43)) :: bg 69 (LS aZ ([go (e,x43)]:List Int)) :: (oZ letters domgo go dommark mark limit),[ld,ol letters,d9 fJ aZ (fM (go (e,x43)) (l3_2.length:Int) m2_2),bf 3 aZ l3_2, .gone, .gone,bf 22 (cB aZ) l6,bf 3 aZ l7,bf 3 aZ l8, .gone]⟩ ?_
 obtain ⟨hp,h⟩:=h
 refine jF (S2:=⟨ba 15 e :: bx 16 8 :: ba 17 x43 :: ba 19 (l3_2.length:Int) :: ba 42 letters :: ba 43 x43 :: ba 68 (go (e,x43)) :: bg 69 (LS aZ ([go (e,x43)]:List Int)) :: (oZ letters domgo go dommark mark limit),[ld,ol letters,d9 fJ aZ (fM (go (e,x43)) (l3_2.length:Int) m2_2),bf 3 aZ l3_2, .gone, .gone,bf 22 (cB aZ) l6,bf 3 aZ l7,bf 3 aZ l8, .gone]⟩) (K:=[3]) (p:=some (3,bf 3 aZ (l3_2 ++ ([go (e,x43)]:List Int)))) hn (by rfl) (aP (T:=aZ) (l:=l3_2) (es:=([go (e,x43)]:List Int)) rfl hp) (by kernel_rfl) (by rfl) (by rfl) (by rfl) ?_
 refine bM hn ?_
 exact bZ ((l3_2.length:Int),(fM (go (e,x43)) (l3_2.length:Int) m2_2),(l3_2 ++ ([go (e,x43)]:List Int))) h
 exact bn (bZ (((fm (go (e,x43)) m2_2).getD (0:Int)),m2_2,l3_2) h)
 rintro ⟨x19,m2_3,l3_3⟩ h
 replace h:=hJ _ _ _ h
 refine bI (cN hn 3 ?_)
 obtain ⟨e_2,he_2,h⟩:=h
 refine bT hn (iO (T:=aZ) rfl he_2) ?_
 refine gg (T:=aZ) (y:=x19) hn rfl (dd he_2) ?_
 exact bH (cn hn ((wr (x43 + 1)),m2_3,l3_3,(l8.set (x43).toNat x19)) h)
 refine bD rfl (bp (bC ht hn 3 ⟨bx 14 3 :: ba 15 e :: bx 77 6 :: bx 78 8 :: (oZ letters domgo go dommark mark limit),[ld,ol letters,d9 fJ aZ m2_2,bf 3 aZ l3_2, .gone, .gone,bf 22 (cB aZ) l6,bf 3 aZ l7,bf 3 aZ l8]⟩ ?_))
 refine dE (T:=aZ) (l:=l8) (e:=3) 8 rfl ?_
 refine bC ht hn 0 ⟨bx 14 3 :: ba 15 e :: bx 77 6 :: bg 78 (LS aZ l8) :: (oZ letters domgo go dommark mark limit),[ld,ol letters,d9 fJ aZ m2_2,bf 3 aZ l3_2, .gone, .gone,bf 22 (cB aZ) l6,bf 3 aZ l7, .gone]⟩ ?_
 refine dg (K:=[]) (p:=some (9,bf 22 (cB aZ) ([l8]:vK))) hn (by rfl) (lI (T:=(cB aZ)) ([l8]:vK) 9 rfl) (by rfl) (by rfl) (by rfl) ?_
 refine dE (T:=(cB aZ)) (l:=([l8]:vK)) (e:=22) 9 rfl ?_
 refine bC ht hn 0 ⟨bx 14 3 :: ba 15 e :: bx 77 6 :: bg 78 (LS aZ l8) :: bg 79 (LS (cB aZ) ([l8]:vK)) :: (oZ letters domgo go dommark mark limit),[ld,ol letters,d9 fJ aZ m2_2,bf 3 aZ l3_2, .gone, .gone,bf 22 (cB aZ) l6,bf 3 aZ l7, .gone, .gone]⟩ ?_
 refine rh 1 2 (by rfl) ?_
 obtain ⟨hp,h⟩:=h
 refine jF (S2:=⟨bx 14 3 :: ba 15 e :: bg 78 (LS aZ l8) :: bg 79 (LS (cB aZ) ([l8]:vK)) :: (oZ letters domgo go dommark mark limit),[ld, .box [I letters,I 0, .junk, .own 7] 35 false,d9 fJ aZ m2_2,bf 3 aZ l3_2, .gone, .gone,bf 22 (cB aZ) l6,bf 3 aZ l7, .gone, .gone]⟩) (K:=[6]) (p:=some (6,bf 22 (cB aZ) (l6 ++ ([l8]:vK)))) hn (by rfl) (aP (T:=(cB aZ)) (l:=l6) (es:=([l8]:vK)) rfl hp) (by kernel_rfl) (by rfl) (by rfl) (by rfl) ?_
 refine bM hn ?_
 obtain ⟨hp_2,h⟩:=h
 obtain ⟨hp_3,h⟩:=h
 refine DH ⟨bx 14 3 :: ba 15 e :: (oZ letters domgo go dommark mark limit),[cQ 1 3,cu 7,o1 (fv8 dommark mark),bq e,bq (mark e),o1 (LS aZ ([mark e]:List Int)),cu 10,cQ 1 3,bJ],[bU (ld),⟨(ol letters),none,none,some (8, .box [I letters,I 0, .own 6, .own 10] 35 false)⟩,bU (d9 fJ aZ m2_2),bU (bf 3 aZ l3_2),bU .gone,bU .gone,bU (bf 22 (cB aZ) (l6 ++ ([l8]:vK))),⟨bf 3 aZ l7,none,some 6,none⟩,bU .gone,bU .gone,⟨bf 3 aZ (l7 ++ ([mark e]:List Int)),some 6,none,none⟩]⟩ ⟨bx 14 3 :: (oZ letters domgo go dommark mark limit),[ld, .box [I letters,I 0, .own 6, .own 10] 35 false,d9 fJ aZ m2_2,bf 3 aZ l3_2, .gone, .gone,bf 22 (cB aZ) (l6 ++ ([l8]:vK)), .gone, .gone, .gone,bf 3 aZ (l7 ++ ([mark e]:List Int))]⟩ hn ?_ ?_
 exact ⟨.e,
 .e,
 .e,
 .e,
 .v (cV (ins:=(fun (x:Int)=>[bq x])) (out:=(fun (r:Int)=>.sv (.one (I r)))) (dom:=dommark) (φ:=mark) e hp_2 rfl),
 .mt ⟨[ba 86 (mark e)],[]⟩ [] none (by kernel_rfl) (by rfl) (jV (q:=10) (e:=3) (lI (T:=aZ) ([mark e]:List Int) 10 rfl)) rfl rfl rfl rfl,
 .mt ⟨[bx 83 7,bg 87 (LS aZ ([mark e]:List Int))],[.gone, .gone, .gone, .gone, .gone, .gone, .gone,bf 3 aZ l7]⟩ [7] (some 10) (by kernel_rfl) (by rfl) (aP (T:=aZ) (l:=l7) (es:=([mark e]:List Int)) (p:=10) rfl hp_3) rfl rfl rfl rfl,
 .e,
 .mu ⟨[bx 88 10,bu 89 1 3],[.gone,ol letters]⟩ 1 _ _ rfl rfl (by kernel_rfl) (by rfl) (eY ht rfl (by rfl) (by rfl) (by rfl) (by rfl) (fun h=>by cases h) (by rfl) (by rfl)) rfl rfl rfl rfl rfl rfl rfl,
 trivial⟩
 refine kV 10 7 (by rfl) (by rfl) ?_
 exact bZ (m2_2,l3_2,(l6 ++ ([l8]:vK)),(l7 ++ ([mark e]:List Int))) h
 refine bD rfl (bp (cw ht hn 3 ⟨[bu 10 0 0,bG 11 true],[ol letters, .gone, .gone, .gone, .gone, .gone,bf 22 (cB aZ) l6,bf 3 aZ l7]⟩ ?_))
 refine cT (iZ (T:=(cB aZ)) (l:=l6) (e:=22) 6 rfl ?_)
 refine iZ (T:=aZ) (l:=l7) (e:=3) 7 rfl ?_
 exact eW ht ((bz.mk letters 0 l6 l7),true) h (by kernel_rfl) rfl
theorem Nj : ∀ args w,(callFunc 66 args).run Tryz.prog w=.ok (.enter 66 args) w:=enters_of Tryz.func66 (by kernel_rfl) rfl
def pl (d:bz) (Q:(List Int) -> Prop):Prop:=
 d.aa.length <= 9223372036854775807 ->
 d.ay.length <= 9223372036854775807 ->
 ((d.ay.length * 8 <= 140737488355328) /\
 ∃ (Inv:Int -> (List Int) -> Prop) (mu:Int -> (List Int) -> Nat),Inv 0 (d.ay) /\
 ∀ x4 l1,Inv x4 l1 -> (jM (l1.length:Int) (l1.length:Int) 8 /\
 ∃ (Inv_2:Int -> (List (bN × Int)) -> (List Int) -> Prop) (mu_2:Int -> (List (bN × Int)) -> (List Int) -> Nat),Inv_2 0 ([]:List (bN × Int)) (List.replicate ((l1.length:Int)).toNat (0:Int)) /\
 ∀ x25 m2 l3,Inv_2 x25 m2 l3 -> (cv (decide (x25 < (d.aa.length:Int))) (∃ e,cq d.aa x25=some e /\
 ∃ (Inv_3:Int -> (List Int) -> Prop) (mu_3:Int -> (List Int) -> Nat),Inv_3 0 ([]:List Int) /\
 ∀ x32 l4,Inv_3 x32 l4 -> (cv (decide (x32 < (e.length:Int))) (∃ e_2,cq e x32=some e_2 /\
 ∃ e_3,cq l1 e_2=some e_3 /\
 ∃ e_4,cq l1 e_2=some e_4 /\
 ed l4.length ([(IntKind.wrap .u8 e_3),(IntKind.wrap .u8 (Int.fdiv e_4 (2 ^ (min 8 64))))]:List Int).length 1 /\
 (Inv_3 (wr (x32 + 1)) (l4 ++ ([(IntKind.wrap .u8 e_3),(IntKind.wrap .u8 (Int.fdiv e_4 (2 ^ (min 8 64))))]:List Int)) /\ mu_3 (wr (x32 + 1)) (l4 ++ ([(IntKind.wrap .u8 e_3),(IntKind.wrap .u8 (Int.fdiv e_4 (2 ^ (min 8 64))))]:List Int)) < mu_3 x32 l4)) (∃ e_5,cq l1 x25=some e_5 /\
 ∃ J:(List (bN × Int)) -> Prop,(cv (!(fm (bN.mk e_5 (d5 l4)) m2).isSome) (J (fM (bN.mk e_5 (d5 l4)) (m2.length:Int) m2)) (J m2)) /\
 (∀ m2_2,J m2_2 -> ∃ e_6,cq l3 x25=some e_6 /\
 (Inv_2 (wr (x25 + 1)) m2_2 (l3.set (x25).toNat ((fm (bN.mk e_5 (d5 l4)) m2_2).getD (0:Int))) /\ mu_2 (wr (x25 + 1)) m2_2 (l3.set (x25).toNat ((fm (bN.mk e_5 (d5 l4)) m2_2).getD (0:Int))) < mu_2 x25 m2 l3))))) (cv ((m2.length:Int) == x4) (Q l3) ((Inv (m2.length:Int) l3 /\ mu (m2.length:Int) l3 < mu x4 l1))))))
abbrev oi (d:bz):=(.box [I d.ae,I d.af,LS (cB aZ) d.aa,LS aZ d.ay] 35 false:br)
abbrev BC (d:bz) (y0) (y1):=([bg 1 (.ptr 0 0),bg 3 (.own 1),bg 4 (I y0),bg 5 (.own 2),bg 6 (.own 3),bg 23 (LS (cB aZ) d.aa),bg 24 (I (d.aa.length:Int)),bg 25 (I y1)]:List (Nat × SC))
abbrev yf (y0):=(IntKind.wrap .u8 (Int.fdiv y0 (2 ^ (min 8 64))))
abbrev JB (y0) (y1):=(.box [I y0, .v (.string (d5 y1))] 129 false:br)
abbrev ye (y0):=(IntKind.wrap .u8 y0)
set_option maxHeartbeats 2000000 in
theorem yZ (d:bz) (Q:(List Int) -> Prop) (h:pl d Q):Ct 65 [.sv (.agg [I d.ae,I d.af,LS (cB aZ) d.aa,LS aZ d.ay])] [] Q (fun (r:List Int)=>.sv (.one (LS aZ r))):=by
 have ht:=bA
 refine Ct.body Tryz.func65 rfl rfl rfl rfl (fun c hn=>?_)
 unfold pl at h
 refine bQ 0 2 (by rfl) (by rfl) (fun hl=>?_)
 replace h:=h hl
 clear hl
 refine bQ 0 3 (by rfl) (by rfl) (fun hl=>?_)
 replace h:=h hl
 clear hl
 refine bk hn ?_
 refine bp (bC ht hn 2 ⟨[bu 1 0 0,bg 16 (LS aZ d.ay)],[oi d]⟩ ?_)
 obtain ⟨hp,h⟩:=h
 refine dg (K:=[]) (p:=some (1,bf 3 aZ d.ay)) hn (by rfl) (iK 1 (ir d.ay hp) Fe (caps:=[]) [] rfl rfl (by rfl) (by kernel_rfl) (by kernel_rfl) (by rfl) (by rfl)) (by rfl) (by rfl) (by rfl) ?_
 refine bM hn ?_
 refine bk hn ?_
 refine bj (dV h (fun zz=>⟨[bu 1 0 0,bx 3 1,ba 4 zz.1],[oi d,bf 3 aZ zz.2]⟩) fun Inv mu x4 l1 h=>?_)
 refine bj (bp (dg (K:=[]) (p:=some (2,d9 bN.enc aZ ([]:List (bN × Int)))) hn (by rfl) (o8 bN.enc aZ 2 rfl) (by rfl) (by rfl) (by rfl) ?_))
 refine bM hn ?_
 refine bp (bC ht hn 2 ⟨[bu 1 0 0,bx 3 1,ba 4 x4,bx 5 2,ba 20 (l1.length:Int)],[oi d,bf 3 aZ l1,d9 bN.enc aZ ([]:List (bN × Int))]⟩ ?_)
 obtain ⟨hp,h⟩:=h
 refine dg (K:=[]) (p:=some (3,bf 3 aZ (List.replicate (l1.length:Int).toNat (0:Int)))) hn (by rfl) (kN (T:=aZ) (0:Int) (zv:=(.int .i64 0)) 3 (l:=(l1.length:Int)) (cp:=(l1.length:Int)) ht rfl (by rfl) (by rfl) (by rfl) (by rfl) (by decide) (by rfl) (by rfl) hp.1 hp.2.1 hp.2.2 (hp.le (by decide)) rfl (fun _=>⟨rfl,trivial⟩)) (by rfl) (by rfl) (by rfl) ?_
 refine bM hn ?_
 refine bi (bk hn ?_)
 refine bj (ma h (fun zz=>⟨[bu 1 0 0,bx 3 1,ba 4 x4,bx 5 2,bx 6 3,bg 23 (LS (cB aZ) d.aa),ba 24 (d.aa.length:Int),ba 25 zz.1],[oi d,bf 3 aZ l1,d9 bN.enc aZ zz.2.1,bf 3 aZ zz.2.2]⟩) fun Inv_2 mu_2 x25 m2 l3 h=>?_)
 refine bk hn ?_
 refine bi (bv h (fun h=>?_) (fun h=>?_))
 refine bn (bi (bj (bp (cN hn 1 ?_))))
 obtain ⟨e,he,h⟩:=h
 refine bT hn (iX (T:=(cB aZ)) rfl he) ?_
 refine bT hn (lD (s:=.one (LS aZ e)) rfl) ?_
 refine bM hn ?_
 refine bk hn ?_
 refine bi (bp (cw ht hn 3 ⟨ba 7 x25 :: bg 9 (.v (.slice none 0 0)) :: bg 30 (LS aZ e) :: ba 31 (e.length:Int) :: ba 32 0 :: (BC d x4 x25),[oi d,bf 3 aZ l1,d9 bN.enc aZ m2,bf 3 aZ l3]⟩ ?_))
 refine bj (iw 9 4 5 (ky .u8) (by rfl) (by rfl) ?_)
 refine dV h (fun zz=>⟨[bu 1 0 0,bx 3 1,ba 4 x4,bx 5 2,bx 6 3,ba 7 x25,bx 9 4,bg 23 (LS (cB aZ) d.aa),ba 24 (d.aa.length:Int),ba 25 x25,bg 30 (LS aZ e),ba 31 (e.length:Int),ba 32 zz.1],[oi d,bf 3 aZ l1,d9 bN.enc aZ m2,bf 3 aZ l3,bf 5 (ky .u8) zz.2]⟩) fun Inv_3 mu_3 x32 l4 h=>?_
 refine bk hn ?_
 refine bi (bv h (fun h=>?_) (fun h=>?_))
 refine bn (bi (bj (bp ?_)))
 obtain ⟨e_2,he_2,h⟩:=h
 refine bT hn (iX (T:=aZ) rfl he_2) ?_
 refine bT hn (lD (s:=.one (I e_2)) rfl) ?_
 refine bM hn ?_
 obtain ⟨e_3,he_3,h⟩:=h
 obtain ⟨e_4,he_4,h⟩:=h
 obtain ⟨hp_2,h⟩:=h
 refine da ⟨ba 7 x25 :: bx 9 4 :: ba 11 e_2 :: bg 30 (LS aZ e) :: ba 31 (e.length:Int) :: ba 32 x32 :: (BC d x4 x25),[cu 4,cu 1,bq e_2,o1 (.oe 1 (e_2).toNat 1),bq e_3,o1 (.v (.int .u8 (ye e_3))),cu 1,bq e_2,o1 (.oe 1 (e_2).toNat 1),bq e_4,bq (Int.fdiv e_4 (2 ^ (min 8 64))),o1 (.v (.int .u8 (yf e_4))),o1 (LS (ky .u8) ([ye e_3,yf e_4]:List Int)),cu 5,cu 5],[bU (oi d),bU (bf 3 aZ l1),bU (d9 bN.enc aZ m2),bU (bf 3 aZ l3),⟨bf 5 (ky .u8) l4,none,some 13,none⟩,⟨bf 5 (ky .u8) (l4 ++ ([ye e_3,yf e_4]:List Int)),some 13,none,none⟩]⟩ hn ?_ ?_
 exact ⟨.e,
 .e,
 .e,
 .i (T:=aZ) rfl he_3,
 .l (T:=aZ) rfl (bs he_3).2.2,
 .e,
 .e,
 .e,
 .i (T:=aZ) rfl he_4,
 .l (T:=aZ) rfl (bs he_4).2.2,
 .e,
 .e,
 .mt ⟨[bg 41 (.v (.int .u8 (ye e_3))),bg 47 (.v (.int .u8 (yf e_4)))],[]⟩ [] none (by kernel_rfl) (by rfl) (jV (q:=5) (e:=5) (lI (T:=(ky .u8)) ([ye e_3,yf e_4]:List Int) 5 rfl)) rfl rfl rfl rfl,
 .mt ⟨[bx 36 4,bg 48 (LS (ky .u8) ([ye e_3,yf e_4]:List Int))],[.gone, .gone, .gone, .gone,bf 5 (ky .u8) l4]⟩ [4] (some 5) (by kernel_rfl) (by rfl) (aP (T:=(ky .u8)) (l:=l4) (es:=([ye e_3,yf e_4]:List Int)) (p:=5) rfl hp_2) rfl rfl rfl rfl,
 .e,
 trivial⟩
 refine bI (cw ht hn 2 ⟨ba 7 x25 :: bx 9 5 :: bg 30 (LS aZ e) :: ba 31 (e.length:Int) :: ba 32 (wr (x32 + 1)) :: (BC d x4 x25),[oi d,bf 3 aZ l1,d9 bN.enc aZ m2,bf 3 aZ l3, .gone,bf 5 (ky .u8) (l4 ++ ([ye e_3,yf e_4]:List Int))]⟩ ?_)
 refine kV 5 4 (by rfl) (by rfl) ?_
 exact bZ ((wr (x32 + 1)),(l4 ++ ([ye e_3,yf e_4]:List Int))) h
 refine bD rfl (bi ?_)
 obtain ⟨e_5,he_5,h⟩:=h
 refine da ⟨ba 7 x25 :: bx 9 4 :: (BC d x4 x25),[cu 1,bq x25,o1 (.oe 1 (x25).toNat 1),bq e_5,cu 4,o1 (.v (.string (d5 l4))), .sv (.agg [I e_5, .v (.string (d5 l4))]),cQ 5 0,bJ],[bU (oi d),bU (bf 3 aZ l1),bU (d9 bN.enc aZ m2),bU (bf 3 aZ l3),bU (bf 5 (ky .u8) l4),⟨.box [I 0, .v (.string ByteArray.empty)] 129 false,some 7,none,some (8,(JB e_5 l4))⟩]⟩ hn ?_ ?_
 exact ⟨.e,
 .e,
 .i (T:=aZ) rfl he_5,
 .l (T:=aZ) rfl (bs he_5).2.2,
 .e,
 .vl ⟨[bx 55 4],[.gone, .gone, .gone, .gone,bf 5 (ky .u8) l4]⟩ (bX (IK rfl Tryz.underlying127 Tryz.underlying5 Tryz.underlying9 (Lb (T:=ky .u8) (es:=l4) (fun _ h=>by cases h) (by rfl) (by rfl)))),
 .e,
 .mt ⟨[],[]⟩ [] (some 5) (by kernel_rfl) (by rfl) (rT 5 129 ht rfl (by rfl) (by rfl)) rfl rfl rfl rfl,
 .mu ⟨[bu 12 5 0,(57, .sv (.agg [I e_5, .v (.string (d5 l4))]))],[.gone, .gone, .gone, .gone, .gone, .box [I 0, .v (.string ByteArray.empty)] 129 false]⟩ 5 _ _ rfl rfl (by kernel_rfl) (by rfl) (eY ht rfl (by rfl) (by rfl) (by rfl) (by rfl) (fun h=>by cases h) (by rfl) (by rfl)) rfl rfl rfl rfl rfl rfl rfl,
 trivial⟩
 obtain ⟨J,h,hJ⟩:=h
 refine bS (σ:=(List (bN × Int))) (fun zz=>J zz) (fun zz=>⟨[bu 1 0 0,bx 3 1,ba 4 x4,bx 5 2,bx 6 3,ba 7 x25,bu 12 5 0,bg 23 (LS (cB aZ) d.aa),ba 24 (d.aa.length:Int),ba 25 x25],[oi d,bf 3 aZ l1,d9 bN.enc aZ zz,bf 3 aZ l3, .gone,JB e_5 l4]⟩) ?_ ?_
 refine bp (bC ht hn 2 ⟨ba 7 x25 :: bu 12 5 0 :: bx 59 2 :: (60, .sv (.agg [I e_5, .v (.string (d5 l4))])) :: (BC d x4 x25),[oi d,bf 3 aZ l1,d9 bN.enc aZ m2,bf 3 aZ l3, .gone,JB e_5 l4]⟩ ?_)
 refine fe hn (mj (T:=aZ) (D:=m2) bN.keyLaw (k:=(bN.mk e_5 (d5 l4))) (ok:=true) (0:Int) (zv:=(.int .i64 0)) rfl Tryz.underlying126 (fun _=>by kernel_rfl) (fun _=>⟨rfl,trivial⟩) (sI bN.enc aZ m2) (by rfl) (by rfl) (by rfl) (fun _=>rfl)) ?_
 refine bM hn ?_
 refine bk hn ?_
 refine bv h (fun h=>?_) (fun h=>?_)
 refine bI (bC ht hn 3 ⟨ba 7 x25 :: bu 12 5 0 :: bx 66 2 :: (67, .sv (.agg [I e_5, .v (.string (d5 l4))])) :: bx 68 2 :: (BC d x4 x25),[oi d,bf 3 aZ l1,d9 bN.enc aZ m2,bf 3 aZ l3, .gone,JB e_5 l4]⟩ ?_)
 refine fe hn (tZ (enc:=bN.enc) (T:=aZ) (D:=m2) rfl Tryz.underlying126 (by rfl) (by rfl) (sI _ _ _)) ?_
 refine lY (T:=aZ) bN.keyLaw (k:=(bN.mk e_5 (d5 l4))) (y:=(m2.length:Int)) hn (by rfl) (.inl rfl) Tryz.underlying126 (by rfl) (by rfl) (by rfl) (by rfl) (by rfl) (by rfl) ?_
 exact bH (bZ (fM (bN.mk e_5 (d5 l4)) (m2.length:Int) m2) h)
 exact bn (bZ m2 h)
 intro m2_2 h
 replace h:=hJ _ h
 refine bI (bC ht hn 4 ⟨bx 70 3 :: ba 71 x25 :: bx 72 2 :: (73, .sv (.agg [I e_5, .v (.string (d5 l4))])) :: (BC d x4 x25),[oi d,bf 3 aZ l1,d9 bN.enc aZ m2_2,bf 3 aZ l3, .gone, .gone]⟩ ?_)
 refine fe hn (mj (T:=aZ) (D:=m2_2) bN.keyLaw (k:=(bN.mk e_5 (d5 l4))) (ok:=false) (0:Int) (zv:=(.int .i64 0)) rfl Tryz.underlying126 (fun _=>by kernel_rfl) (fun _=>⟨rfl,trivial⟩) (sI bN.enc aZ m2_2) (by rfl) (by rfl) (by rfl) (fun _=>rfl)) ?_
 obtain ⟨e_6,he_6,h⟩:=h
 refine bT hn (iO (T:=aZ) rfl he_6) ?_
 refine gg (T:=aZ) (y:=((fm (bN.mk e_5 (d5 l4)) m2_2).getD (0:Int))) hn rfl (dd he_6) ?_
 exact bH (cn hn ((wr (x25 + 1)),m2_2,(l3.set (x25).toNat ((fm (bN.mk e_5 (d5 l4)) m2_2).getD (0:Int)))) h)
 refine bD rfl (bk hn ?_)
 refine bi (bp (bC ht hn 1 ⟨[bu 1 0 0,bx 3 3,ba 4 x4,bx 5 2,bx 78 2],[oi d, .gone,d9 bN.enc aZ m2,bf 3 aZ l3]⟩ ?_))
 refine fe hn (tZ (enc:=bN.enc) (T:=aZ) (D:=m2) rfl Tryz.underlying126 (by rfl) (by rfl) (sI _ _ _)) ?_
 refine bM hn ?_
 refine bv h (fun h=>?_) (fun h=>?_)
 refine bp (cw ht hn 2 ⟨[bx 2 3],[.gone, .gone, .gone,bf 3 aZ l3]⟩ ?_)
 refine cT (iZ (T:=aZ) (l:=l3) (e:=3) 3 rfl ?_)
 exact eW ht l3 h (by kernel_rfl) rfl
 refine bn (bI (bC ht hn 1 ⟨[bu 1 0 0,bx 3 3,bx 83 2],[oi d, .gone,d9 bN.enc aZ m2,bf 3 aZ l3]⟩ ?_))
 refine fe hn (tZ (enc:=bN.enc) (T:=aZ) (D:=m2) rfl Tryz.underlying126 (by rfl) (by rfl) (sI _ _ _)) ?_
 refine cw ht hn 1 ⟨[bu 1 0 0,bx 3 3,ba 4 (m2.length:Int)],[oi d, .gone, .gone,bf 3 aZ l3]⟩ ?_
 refine kV 3 1 (by rfl) (by rfl) ?_
 exact bZ ((m2.length:Int),l3) h
theorem Nk : ∀ args w,(callFunc 65 args).run Tryz.prog w=.ok (.enter 65 args) w:=enters_of Tryz.func65 (by kernel_rfl) rfl
section
variable {K:Type} [DecidableEq K] {go:K -> Nat -> K} {mark:K -> Int} {L:Nat} {k0:K} {P:K -> Prop}
theorem sL {k:K} {l:List K} {a:Nat}:∀ {b:Nat},a <= b -> ∃ r,dw go k b l=dw go k a l ++ r
 | 0,h=>by
  obtain rfl:a=0:=by omega
  exact ⟨[],by simp⟩
 | b + 1,h=>by
  by_cases e:a=b + 1
  ·subst e; exact ⟨[],by simp⟩
  ·obtain ⟨r,hr⟩:=sL (k:=k) (l:=l) (a:=a) (b:=b) (by omega)
   rw [dw]
   split
   ·exact ⟨r,hr⟩
   ·exact ⟨r ++ [go k b],by rw [hr,fE]⟩
theorem BR {i a:Nat} {e:K} {limit:Int} (he:(dH go L k0 i)[i]? = some e) (ha:a < L) (hn:go e a ∉ dw go e a (dH go L k0 i)) (hl:((dw go e a (dH go L k0 i)).length:Int)=limit):¬ ∃ n:Nat,(dH go L k0 n).length=n /\ (n:Int) <= limit:=by
 rintro ⟨n,h1,h2⟩
 have hi:=(cg.1 he).1
 have h3:dH go L k0 (i + 1)=dw go e L (dH go L k0 i):=by rw [dH,he]
 have h4:dw go e (a + 1) (dH go L k0 i)=dw go e a (dH go L k0 i) ++ [go e a]:=by rw [dw,if_neg hn]
 obtain ⟨r,hr⟩:=sL (go:=go) (k:=e) (l:=dH go L k0 i) (show a + 1 <= L from ha)
 have h5:(dH go L k0 (i + 1)).length=(dw go e a (dH go L k0 i)).length + 1 + r.length:=by
  rw [h3,hr,h4]
  simp
  omega
 rcases dA n (i + 1) with h | h
 ·have:=ke (go:=go) (L:=L) (k0:=k0) (i:=n) (by omega) (j:=i) (by omega)
  rw [this] at hi
  omega
 ·have:=wT (go:=go) (L:=L) (k0:=k0) h
  omega
def rk (m:List (K × Int)) (l:List K):Prop:=∀ k,fm k m=if k ∈ l then some (l.idxOf k:Int) else none
theorem rk.one : rk (fM k0 0 ([]:List (K × Int))) [k0]:=fun k=>by
 rw [kx]
 by_cases h:k=k0
 ·subst h; simp
 ·simp [h,fm]
theorem uT {l:List K} {k:K} (h:k ∉ l):(l ++ [k]).idxOf k=l.length:=by
 induction l with
 | nil=>simp
 | cons x l ih =>
  have h1:x ≠ k:=fun e=>h (e ▸ fD)
  have h2:k ∉ l:=fun e=>h (d7 _ e)
  rw [List.cons_append,List.idxOf_cons,ih h2,show (x == k)=false by simpa using h1]
  simp
theorem rk.push {m:List (K × Int)} {l:List K} (h:rk m l) {k:K} (hk:k ∉ l):rk (fM k (l.length:Int) m) (l ++ [k]):=fun q=>by
 rw [kx]
 by_cases e:q=k
 ·subst e
  simp [uT hk]
 ·rw [if_neg e,h q]
  by_cases hq:q ∈ l
  ·rw [if_pos hq,if_pos (kp _ hq),mA hq]
  ·rw [if_neg hq,if_neg (by simp [hq,e])]
theorem Bt {l r:List K} {k:K} (h:∀ a,a < L -> go k a ∈ l):jQ go L (l ++ r) k=jQ go L l k:=by
 unfold jQ
 refine jc fun a ha=>?_
 rw [mA (h a (d6.1 ha))]
theorem IY {α:Type} (f:Nat -> α) (z:α) {a L:Nat} (h:a < L):(((List.range a).map f) ++ List.replicate (L - a) z).set a (f a)=(List.range (a + 1)).map f ++ List.replicate (L - (a + 1)) z:=by
 refine mX fun i=>?_
 rw [dT]
 by_cases e:a=i
 ·subst e
  rw [if_pos rfl,if_pos (by simp; omega),mV (by simp),cY,List.getElem?_range (by omega)]
  rfl
 ·rw [if_neg e]
  by_cases h1:i < a
  ·rw [mV (by simpa using h1),mV (by simp; omega),cY,cY,List.getElem?_range h1,List.getElem?_range (by omega)]
  ·rw [oC (by simp; omega),oC (by simp; omega),mh,mh]
   simp only [df,g8]
   by_cases h2:i < L
   ·rw [if_pos (by omega),if_pos (by omega)]
   ·rw [if_neg (by omega),if_neg (by omega)]
end
theorem oE {K:Type} [DecidableEq K] (letters:Int) (start:K) (domgo:(K × Int) -> Prop) (go:(K × Int) -> K) (dommark:K -> Prop) (mark:K -> Int) (limit:Int) (b:Nat) (Q:(bz × Bool) -> Prop)
  (P:K -> Prop) (h0:P start) (hP:∀ k (a:Nat),P k -> (a:Int) < letters -> domgo (k,(a:Int)) /\ P (go (k,(a:Int)))) (hm:∀ k,P k -> dommark k) (hl:0 <= letters /\ letters <= 1000) (hlim:1 <= limit /\ limit <= 2097152) (hb:b <= 128)
  (hQ:Q (dh (fun k (a:Nat)=>go (k,(a:Int))) mark letters.toNat start limit)) :
 ∃ (Inv:(List (K × Int)) -> (List K) -> (List (List Int)) -> (List Int) -> Prop) (mu:(List (K × Int)) -> (List K) -> (List (List Int)) -> (List Int) -> Nat),Inv (fM start 0 ([]:List (K × Int))) ([start]:List K) ([]:List (List Int)) ([]:List Int) /\
 ∀ m2 l3 l6 l7,Inv m2 l3 l6 l7 -> (cv (decide ((l6.length:Int) < (l3.length:Int))) (∃ e,cq l3 (l6.length:Int)=some e /\
 jM letters letters 8 /\
 ∃ (Inv_2:Int -> (List (K × Int)) -> (List K) -> (List Int) -> Prop) (mu_2:Int -> (List (K × Int)) -> (List K) -> (List Int) -> Nat),Inv_2 0 m2 l3 (List.replicate (letters).toNat (0:Int)) /\
 ∀ x43 m2_2 l3_2 l8,Inv_2 x43 m2_2 l3_2 l8 -> (cv (decide (x43 < letters)) ((domgo (e,x43)) /\
 ∃ J:Int -> (List (K × Int)) -> (List K) -> Prop,(cv (!(fm (go (e,x43)) m2_2).isSome) (cv ((l3_2.length:Int) == limit) (Q ((bz.mk 0 0 [] []),false)) (ed l3_2.length ([(go (e,x43))]:List K).length b /\
 J (l3_2.length:Int) (fM (go (e,x43)) (l3_2.length:Int) m2_2) (l3_2 ++ ([(go (e,x43))]:List K)))) (J ((fm (go (e,x43)) m2_2).getD (0:Int)) m2_2 l3_2)) /\
 (∀ x19 m2_3 l3_3,J x19 m2_3 l3_3 -> ∃ e_2,cq l8 x43=some e_2 /\
 (Inv_2 (wr (x43 + 1)) m2_3 l3_3 (l8.set (x43).toNat x19) /\ mu_2 (wr (x43 + 1)) m2_3 l3_3 (l8.set (x43).toNat x19) < mu_2 x43 m2_2 l3_2 l8))) (ed l6.length ([l8]:List (List Int)).length 24 /\
 (dommark e) /\
 ed l7.length ([(mark e)]:List Int).length 8 /\
 (Inv m2_2 l3_2 (l6 ++ ([l8]:List (List Int))) (l7 ++ ([(mark e)]:List Int)) /\ mu m2_2 l3_2 (l6 ++ ([l8]:List (List Int))) (l7 ++ ([(mark e)]:List Int)) < mu m2 l3 l6 l7)))) (Q ((bz.mk letters 0 l6 l7),true))):=by
 obtain ⟨L,rfl⟩:∃ L:Nat,letters=L:=⟨letters.toNat,by omega⟩
 rw [bE] at hQ ⊢
 generalize hg:(fun (k:K) (a:Nat)=>go (k,(a:Int)))=g at hQ
 have hgo:∀ k (a:Nat),go (k,(a:Int))=g k a:=fun k a=>by rw [<- hg]
 have hPg:∀ k a,P k -> a < L -> P (g k a):=fun k a hk ha=>by rw [<- hgo]; exact (hP k a hk (by omega)).2
 have hin:∀ i k,k ∈ dH g L start i -> P k:=fun i k hk=>jZ h0 hPg hk
 refine ⟨fun m2 l3 l6 l7=>∃ i:Nat,l6.length=i /\ l7.length=i /\ l3=dH g L start i /\ i <= l3.length /\ (l3.length:Int) <= limit /\ rk m2 l3 /\ l6=(l3.take i).map (jQ g L l3) /\ l7=(l3.take i).map mark /\ ∀ k ∈ l3.take i,∀ a,a < L -> g k a ∈ l3,
  fun m2 l3 l6 l7=>(limit + 1).toNat - l6.length,⟨0,rfl,rfl,rfl,by simp,by simp; omega,rk.one,rfl,rfl,fun k hk=>by simp at hk⟩,?_⟩
 rintro m2 l3 l6 l7 ⟨i,hi1,hi1',hl3,hi2,hi3,hmap,hl6,hl7,hcl⟩
 refine ⟨fun hlt=>?_,fun hge=>?_⟩
 ·have hlt:i < l3.length:=by
   have:=ca hlt
   omega
  have he:l3[i]? = some l3[i]:=cO hlt
  generalize l3[i]=e at he
  have hPe:P e:=hin i e (hl3 ▸ dC he)
  refine ⟨e,by simp [cq,hi1,he],⟨by omega,by omega,by omega⟩,fun x m l row=>∃ a:Nat,x=a /\ a <= L /\ l=dw g e a l3 /\ rk m l /\ (l.length:Int) <= limit /\ row=(List.range a).map (fun c=>(l.idxOf (g e c):Int)) ++ List.replicate (L - a) 0,fun x _ _ _=>L - x.toNat,
   ⟨0,rfl,cy _,rfl,hmap,hi3,by simp⟩,?_⟩
  rintro x m l row ⟨a,rfl,ha,hlg,hm2,hl2,hrow⟩
  refine ⟨fun hlt2=>?_,fun hge2=>?_⟩
  ·have ha:a < L:=by
    have:=ca hlt2
    omega
   refine ⟨(hP e a hPe (by omega)).1,fun x19 m3 l4=>l4=dw g e (a + 1) l3 /\ rk m3 l4 /\ (l4.length:Int) <= limit /\ x19=(l4.idxOf (g e a):Int) /\ ∃ r,l4=l ++ r,?_,?_⟩
   ·rw [hgo]
    by_cases hmem:g e a ∈ l
    ·have h1:fm (g e a) m=some (l.idxOf (g e a):Int):=by rw [hm2,if_pos hmem]
     rw [h1]
     refine ⟨fun h=>(by cases h),fun _=>⟨?_,hm2,hl2,rfl,[],by simp⟩⟩
     rw [dw,<- hlg,if_pos hmem]
    ·have h1:fm (g e a) m=none:=by rw [hm2,if_neg hmem]
     rw [h1]
     refine ⟨fun _=>⟨fun hfull=>?_,fun hroom=>⟨?_,?_,hm2.push hmem,?_,?_,[g e a],rfl⟩⟩,fun h=>(by cases h)⟩
     ·have hfull:(l.length:Int)=limit:=by simpa using hfull
      have hf:=BR (go:=g) (L:=L) (k0:=start) (i:=i) (a:=a) (e:=e) (limit:=limit) (by rw [<- hl3]; exact he) ha (by rw [<- hl3,<- hlg]; exact hmem) (by rw [<- hl3,<- hlg]; exact hfull)
      have:dh g mark L start limit=(⟨0,0,[],[]⟩,false):=by
       unfold dh
       rw [if_neg hf]
      rw [this] at hQ
      exact hQ
     ·unfold ed
      simp only [dq,dI]
      have h64:(l.length + (0 + 1)) * b <= (l.length + 1) * 128:=py _ hb
      omega
     ·rw [dw,<- hlg,if_neg hmem]
     ·have hne:(l.length:Int) ≠ limit:=by simpa using hroom
      rw [di]
      simp only [dq,dI]
      omega
     ·rw [uT hmem]
   ·rintro x19 m3 l4 ⟨hl4,hm4,hl5,rfl,r,hr⟩
    have hlen:row.length=L:=by
     rw [hrow]
     simp
     omega
    refine ⟨row[a]'(by omega),by simp [cq,hlen,ha],⟨a + 1,?_,by omega,hl4,hm4,hl5,?_⟩,?_⟩
    ·rw [bL (by omega) (by omega)]
     omega
    ·rw [bE]
     have hst:∀ c,c < a -> l4.idxOf (g e c)=l.idxOf (g e c):=fun c hc=>by
      rw [hr,mA]
      rw [hlg]
      exact jm.2 (.inr ⟨c,hc,rfl⟩)
     have:row=(List.range a).map (fun c=>(l4.idxOf (g e c):Int)) ++ List.replicate (L - a) 0:=by
      rw [hrow]
      congr 1
      refine jc fun c hc=>?_
      rw [hst c (d6.1 hc)]
     rw [this]
     exact IY (fun c=>(l4.idxOf (g e c):Int)) 0 ha
    ·rw [bL (by omega) (by omega)]
     simp only
     omega
  ·obtain rfl:a=L:=by
    have:=cx hge2
    omega
   have hnext:l=dH g a start (i + 1):=by rw [dH,<- hl3,he,hlg]
   obtain ⟨r,hr⟩:=pb (go:=g) e a l3
   rw [<- hlg] at hr
   have htake:l.take (i + 1)=l3.take i ++ [e]:=by
    rw [hr,List.take_append_of_le_length (by omega),ia,he]
    rfl
   have hrow':row=jQ g a l e:=by
    rw [hrow]
    simp [jQ]
   have hcl':∀ k ∈ l.take (i + 1),∀ c,c < a -> g k c ∈ l:=fun k hk c hc=>by
    rw [htake,gO,et] at hk
    rcases hk with hk | rfl
    ·rw [hr]
     exact kp _ (hcl k hk c hc)
    ·rw [hlg]
     exact jm.2 (.inr ⟨c,hc,rfl⟩)
   have hge:i + 1 <= l.length:=by
    rw [hr,di]
    omega
   refine ⟨?_,hm e hPe,?_,⟨i + 1,by simp [hi1],by simp [hi1'],hnext,hge,hl2,hm2,?_,?_,hcl'⟩,?_⟩
   ·unfold ed
    simp only [dq,dI]
    omega
   ·unfold ed
    simp only [dq,dI]
    omega
   ·rw [htake,jJ,hl6,hrow',gu,List.map_nil]
    congr 1
    refine jc fun k hk=>?_
    rw [hr]
    exact (Bt (hcl k hk)).symm
   ·rw [htake,jJ,hl7]
    rfl
   ·simp only [di,dq,dI]
    omega
 ·have hge:l3.length=i:=by
   have:=cx hge
   omega
  have hdone:(dH g L start i).length=i:=by rw [<- hl3]; exact hge
  have:dh g mark L start limit=(⟨L,0,l6,l7⟩,true):=by
   unfold dh
   rw [if_pos ⟨i,hdone,by omega⟩]
   unfold iR
   rw [pZ hdone,<- hl3]
   have ht:l3.take i=l3:=by rw [<- hge]; exact kH
   rw [ht] at hl6 hl7
   rw [hl6,hl7]
   rfl
  rw [this] at hQ
  exact hQ
end
end Go.Proofs.YtmdbjpljlniloaaGreat
