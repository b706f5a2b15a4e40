/- Lemmas towards the statement: mirrors of functions, and plain laws. No condition. -/
import Derived.Test.YtmdbjpljlniloaaGreatPackSafraTwice6
set_option linter.unusedSimpArgs false
set_option linter.unusedVariables false
namespace Go.Proofs.YtmdbjpljlniloaaGreat
open Go.RowKit Go.MapKept
set_option maxRecDepth 100000
noncomputable section
def zb (l:List Int) (x:Int) (Q:Int -> Prop):Prop:=
 l.length <= 9223372036854775807 ->
 (∃ (Inv:Int -> Prop) (mu:Int -> Nat),Inv 0 /\
 ∀ x8,Inv x8 -> (cv (decide (x8 < (l.length:Int))) (∃ e,cq l x8=some e /\
 cv (x == e) (Q x8) ((Inv (wr (x8 + 1)) /\ mu (wr (x8 + 1)) < mu x8))) (Q (-1))))
theorem Fo (l:List Int) (x:Int) (Q:Int -> Prop) (h:zb l x Q):Ct 57 [.sv (.one (LS aZ l)), .sv (.one (I x))] [] Q (fun (r:Int)=>.sv (.one (I r))):=by
 have ht:=bA
 refine Ct.body Tryz.func57 rfl rfl rfl rfl (fun c hn=>?_)
 unfold zb at h
 refine de 0 (by rfl) (fun hl=>?_)
 replace h:=h hl
 clear hl
 refine bk hn ?_
 refine bi (bk hn ?_)
 refine bj (fC h (fun zz=>⟨[bg 0 (LS aZ l),ba 1 x,ba 7 (l.length:Int),ba 8 zz],[]⟩) fun Inv mu x8 h=>?_)
 refine bk hn ?_
 refine bi (bv h (fun h=>?_) (fun h=>?_))
 refine bn (bi (bj (bk hn ?_)))
 refine bp (cN hn 3 ?_)
 obtain ⟨e,he,h⟩:=h
 refine bT hn (iX (T:=aZ) rfl he) ?_
 refine bT hn (lD (s:=.one (I e)) rfl) ?_
 refine bM hn ?_
 refine bv h (fun h=>?_) (fun h=>?_)
 exact cD hn x8 h
 exact bn (cn hn (wr (x8 + 1)) h)
 exact bD rfl (cD hn (-1) h)
theorem Ns : ∀ args w,(callFunc 57 args).run Tryz.prog w=.ok (.enter 57 args) w:=enters_of Tryz.func57 (by kernel_rfl) rfl
theorem Kf (l:List Int) (x:Int)  : Ct 57 [.sv (.one (LS aZ l)), .sv (.one (I x))] [] (fun (_:Unit)=>True) (fun _=>.sv (.one (I (fI (fun y_=>y_ == x) l)))):=by
 refine (Fo l x (fun res_=>res_=(fI (fun y_=>y_ == x) l)) ?_).fun
 unfold zb
 intro _
 refine ⟨fun x8=>∃ k:Nat,x8=k /\ k <= l.length /\ ∀ j,j < k -> (l.getD j 0 == x)=false,fun x8=>l.length - x8.toNat,⟨0,rfl,cy _,fun j hj=>absurd hj (e9 _)⟩,?_⟩
 rintro x8 ⟨k,rfl,hk,hI⟩
 refine ⟨fun hb=>?_,fun hb=>?_⟩
 ·have hlt:=dlt hb
  have hd:l.getD k 0=l[k]:=by rw [er,cO hlt]; rfl
  refine ⟨_,eP hlt,fun h=>?_,fun h=>⟨⟨k + 1,dj (by omega),hlt,fun j hj=>?_⟩,dQ hlt (by omega)⟩⟩
  ·refine (wM 0 hlt ?_ hI).symm
   have h:x=l[k]:=by simpa using h
   rw [hd,<- h]
   exact beq_iff_eq.2 rfl
  ·rcases cU.1 hj with c | rfl
   ·exact hI j c
   ·rw [hd]
    have h:¬ x=l[j]:=by simpa using h
    simp only [beq_eq_false_iff_ne]
    exact fun e=>h e.symm
 ·exact (uS 0 fun j hj=>hI j (by have:=dge hb; omega)).symm
def zd (l:List Int) (x:Int) (Q:Bool -> Prop):Prop:=
 l.length <= 9223372036854775807 ->
 (Q (decide ((fI (fun y_=>y_ == x) l) >= 0)))
theorem Fp (l:List Int) (x:Int) (Q:Bool -> Prop) (h:zd l x Q):Ct 25 [.sv (.one (LS aZ l)), .sv (.one (I x))] [] Q (fun (r:Bool)=>.sv (.one (B r))):=by
 have ht:=bA
 refine Ct.body Tryz.func25 rfl rfl rfl rfl (fun c hn=>?_)
 unfold zd at h
 refine de 0 (by rfl) (fun hl=>?_)
 replace h:=h hl
 clear hl
 refine bk hn ?_
 refine bp (cN hn 2 ?_)
 refine fK hn (cL (Kf l x) Ns rfl) ?_
 refine bM hn ?_
 exact fL ht (decide ((fI (fun y_=>y_ == x) l) >= 0)) h
theorem Kb : ∀ args w,(callFunc 25 args).run Tryz.prog w=.ok (.enter 25 args) w:=enters_of Tryz.func25 (by kernel_rfl) rfl
theorem tQ (l:List Int) (x:Int)  : Ct 25 [.sv (.one (LS aZ l)), .sv (.one (I x))] [] (fun (_:Unit)=>True) (fun _=>.sv (.one (B (l.contains x)))):=by
 refine (Fp l x (fun res_=>res_=(l.contains x)) ?_).fun
 unfold zd
 intro _
 show decide (fI (fun y_=>y_ == x) l >= 0)=l.contains x
 have h:=jX (fun y_=>y_ == x) l
 rw [show decide (fI (fun y_=>y_ == x) l >= 0)=decide (0 <= fI (fun y_=>y_ == x) l) from rfl,h]
 rw [Bool.eq_iff_iff,jH,gN]
 exact ⟨fun ⟨y,hy,e⟩=>by obtain rfl:=beq_iff_eq.1 e; exact hy,fun hx=>⟨x,hx,beq_iff_eq.2 rfl⟩⟩
def HY (p:Int) (q:Int) (turn:Int) (b:bd) (Q:Int -> Prop):Prop:=
 Q (wr ((wr ((wr ((wr (p * b.ac)) + q)) * 2)) + turn))
theorem HX (p:Int) (q:Int) (turn:Int) (b:bd) (Q:Int -> Prop) (h:HY p q turn b Q):Ct 24 [.sv (.one (I p)), .sv (.one (I q)), .sv (.one (I turn)), .sv (.one (.ptr 0 0))] [.box [I b.ae,I b.ac,LS aZ b.af,LS aY.ty b.ar,LS aZ b.av] 25 true] Q (fun (r:Int)=>.sv (.one (I r))):=by
 have ht:=bA
 refine Ct.body Tryz.func24 rfl rfl rfl rfl (fun c hn=>?_)
 unfold HY at h
 refine bk hn ?_
 exact cD hn (wr ((wr ((wr ((wr (p * b.ac)) + q)) * 2)) + turn)) h
theorem NN : ∀ args w,(callFunc 24 args).run Tryz.prog w=.ok (.enter 24 args) w:=enters_of Tryz.func24 (by kernel_rfl) rfl
def fP (b:bd) (z:Int × Int × Int):Int:=wr (wr (wr (wr (z.1 * b.ac) + z.2.1) * 2) + z.2.2)
theorem LN (p:Int) (q:Int) (turn:Int) (b:bd)  : Ct 24 [.sv (.one (I p)), .sv (.one (I q)), .sv (.one (I turn)), .sv (.one (.ptr 0 0))] [.box [I b.ae,I b.ac,LS aZ b.af,LS aY.ty b.ar,LS aZ b.av] 25 true] (fun (_:Unit)=>True) (fun _=>.sv (.one (I (fP b (p,q,turn))))):=by
 refine (HX p q turn b (fun res_=>res_=(fP b (p,q,turn))) ?_).fun
 exact rfl
def zq (a:bd) (b:bd) (Q:(bd × Int) -> Prop):Prop:=
 a.af.length <= 9223372036854775807 ->
 a.ar.length <= 9223372036854775807 ->
 a.av.length <= 9223372036854775807 ->
 b.af.length <= 9223372036854775807 ->
 b.ar.length <= 9223372036854775807 ->
 b.av.length <= 9223372036854775807 ->
 (cv ((oU a b) != 0) (Q ((bd.mk 0 0 [] [] []),(oU a b))) (∃ (Inv:Int -> (List Int) -> Prop) (mu:Int -> (List Int) -> Nat),Inv 0 ([]:List Int) /\
 ∀ x42 l7,Inv x42 l7 -> (cv (decide (x42 < (a.af.length:Int))) (∃ e,cq a.af x42=some e /\
 ∃ (Inv_2:Int -> (List Int) -> Prop) (mu_2:Int -> (List Int) -> Nat),Inv_2 0 l7 /\
 ∀ x49 l7_2,Inv_2 x49 l7_2 -> (cv (decide (x49 < (b.af.length:Int))) (∃ e_2,cq b.af x49=some e_2 /\
 ((fun _=>True) (e,e_2,0)) /\
 ed l7_2.length ([((fP b) (e,e_2,0))]:List Int).length 8 /\
 (Inv_2 (wr (x49 + 1)) (l7_2 ++ ([((fP b) (e,e_2,0))]:List Int)) /\ mu_2 (wr (x49 + 1)) (l7_2 ++ ([((fP b) (e,e_2,0))]:List Int)) < mu_2 x49 l7_2)) ((Inv (wr (x42 + 1)) l7_2 /\ mu (wr (x42 + 1)) l7_2 < mu x42 l7)))) (∃ (Inv_3:Int -> (List aY) -> Prop) (mu_3:Int -> (List aY) -> Nat),Inv_3 0 ([]:List aY) /\
 ∀ x67 l8,Inv_3 x67 l8 -> (cv (decide (x67 < (a.ar.length:Int))) (∃ e_3,cq a.ar x67=some e_3 /\
 ∃ (Inv_4:Int -> (List aY) -> Prop) (mu_4:Int -> (List aY) -> Nat),Inv_4 0 l8 /\
 ∀ x74 l8_2,Inv_4 x74 l8_2 -> (cv (decide (x74 < (b.ar.length:Int))) (∃ J:(List aY) -> Prop,(∃ e_4,cq b.ar x74=some e_4 /\
 cv (e_3.az != e_4.az) (J l8_2) (∃ (Inv_5:Int -> (List aY) -> Prop) (mu_5:Int -> (List aY) -> Nat),Inv_5 0 l8_2 /\
 ∀ x83 l8_4,Inv_5 x83 l8_4 -> (cv (decide (x83 < 2)) (∃ J_2:Int -> Prop,(∃ J_3:Bool -> Prop,(cv (x83 == 0) (cv (a.av.contains e_3.am) (J_3 true) (cv (x83 == 1) (J_3 (b.av.contains e_4.am)) (J_3 false))) (cv (x83 == 1) (J_3 (b.av.contains e_4.am)) (J_3 false))) /\
 (∀ x106,J_3 x106 -> cv x106 (J_2 (wr (1 - x83))) (J_2 x83))) /\
 (∀ x18,J_2 x18 -> ((fun _=>True) (e_3.am,e_4.am,x83)) /\
 ((fun _=>True) (e_3.aA,e_4.aA,x18)) /\
 ed l8_4.length ([(aY.mk ((fP b) (e_3.am,e_4.am,x83)) e_3.az ((fP b) (e_3.aA,e_4.aA,x18)))]:List aY).length 24 /\
 (Inv_5 (wr (x83 + 1)) (l8_4 ++ ([(aY.mk ((fP b) (e_3.am,e_4.am,x83)) e_3.az ((fP b) (e_3.aA,e_4.aA,x18)))]:List aY)) /\ mu_5 (wr (x83 + 1)) (l8_4 ++ ([(aY.mk ((fP b) (e_3.am,e_4.am,x83)) e_3.az ((fP b) (e_3.aA,e_4.aA,x18)))]:List aY)) < mu_5 x83 l8_4))) (J l8_4)))) /\
 (∀ l8_3,J l8_3 -> (Inv_4 (wr (x74 + 1)) l8_3 /\ mu_4 (wr (x74 + 1)) l8_3 < mu_4 x74 l8_2))) ((Inv_3 (wr (x67 + 1)) l8_2 /\ mu_3 (wr (x67 + 1)) l8_2 < mu_3 x67 l8)))) (∃ (Inv_6:Int -> (List Int) -> Prop) (mu_6:Int -> (List Int) -> Nat),Inv_6 0 ([]:List Int) /\
 ∀ x137 l9,Inv_6 x137 l9 -> (cv (decide (x137 < (a.av.length:Int))) (∃ e_5,cq a.av x137=some e_5 /\
 ∃ (Inv_7:Int -> (List Int) -> Prop) (mu_7:Int -> (List Int) -> Nat),Inv_7 0 l9 /\
 ∀ x143 l9_2,Inv_7 x143 l9_2 -> (cv (decide (x143 < b.ac)) (((fun _=>True) (e_5,x143,0)) /\
 ed l9_2.length ([((fP b) (e_5,x143,0))]:List Int).length 8 /\
 (Inv_7 (wr (x143 + 1)) (l9_2 ++ ([((fP b) (e_5,x143,0))]:List Int)) /\ mu_7 (wr (x143 + 1)) (l9_2 ++ ([((fP b) (e_5,x143,0))]:List Int)) < mu_7 x143 l9_2)) ((Inv_6 (wr (x137 + 1)) l9_2 /\ mu_6 (wr (x137 + 1)) l9_2 < mu_6 x137 l9)))) ((zA l7 l9 l8) /\
 ∀ r:bd,(FK a.ae (wr ((wr (2 * a.ac)) * b.ac)) l7 l9 l8) r ->
 (Q (r,0))))))))))
abbrev pE (a:bd) (b:bd):=(.box [I a.ae,I (wr ((wr (2 * a.ac)) * b.ac)), .own 7, .own 8, .own 9] 25 false:br)
abbrev Ah (a:bd):=([bg 2 (.ptr 0 0),bg 3 (.ptr 1 0),bg 4 (.ptr 2 0),bg 8 (.ptr 3 0),bg 40 (LS aZ a.af),bg 41 (I (a.af.length:Int))]:List (Nat × SC))
abbrev lN := (.box [I 0,I 0, .own 4, .own 5, .own 6] 25 false:br)
abbrev rG (a:bd) (b:bd):=(wr ((wr (2 * a.ac)) * b.ac))
abbrev gG := (List aY)
abbrev L6 (a:bd) (b:bd) (y0) (y1) (y2) (y3):=([.box (bd.cl a) 25 false, .box (bd.cl b) 25 true,(lN),(pE a b),bf 3 aZ ([]:List Int),bf 29 aY.ty ([]:(gG)),bf 3 aZ ([]:List Int),bf 3 aZ y0,bf 29 aY.ty y1,bf 3 aZ ([]:List Int), .box (aY.cl y2) 29 false, .box (aY.cl y3) 29 false]:List br)
abbrev L5 (a:bd) (b:bd) (y0):=([.box (bd.cl a) 25 false, .box (bd.cl b) 25 true,(lN),(pE a b),bf 3 aZ ([]:List Int),bf 29 aY.ty ([]:(gG)),bf 3 aZ ([]:List Int),bf 3 aZ y0,bf 29 aY.ty ([]:(gG)),bf 3 aZ ([]:List Int)]:List br)
abbrev Lj (a:bd) (b:bd):=(.box [I a.ae,I (rG a b), .v (.slice none 0 0), .v (.slice none 0 0), .v (.slice none 0 0)] 25 false:br)
abbrev mq := sl 4 (.ptr 2 0)
abbrev Ag (a:bd):=sl 66 (I (a.ar.length:Int))
abbrev sF (a:bd):=sl 65 (LS aY.ty a.ar)
abbrev ut (b:bd):=sl 73 (I (b.ar.length:Int))
abbrev KF (b:bd) (a:bd) (y0) (y1) (y2):=([.gone, .box (bd.cl b) 25 true,(lN),(pE a b),bf 3 aZ ([]:List Int),bf 29 aY.ty ([]:(gG)),bf 3 aZ ([]:List Int),bf 3 aZ y0,bf 29 aY.ty y1,bf 3 aZ y2]:List br)
abbrev ur (b:bd):=sl 72 (LS aY.ty b.ar)
abbrev kL := sl 3 (.ptr 1 0)
abbrev kK := sl 8 (.ptr 3 0)
set_option maxHeartbeats 2000000 in
theorem FF (a:bd) (b:bd) (Q:(bd × Int) -> Prop) (h:zq a b Q):Ct 9 [.sv (.agg [I a.ae,I a.ac,LS aZ a.af,LS aY.ty a.ar,LS aZ a.av]), .sv (.agg [I b.ae,I b.ac,LS aZ b.af,LS aY.ty b.ar,LS aZ b.av])] [] Q (fun (r:(bd × Int))=>.tup [.agg [I r.1.ae,I r.1.ac,LS aZ r.1.af,LS aY.ty r.1.ar,LS aZ r.1.av], .one (I r.2)]):=by
 have ht:=bA
 refine Ct.body Tryz.func9 rfl rfl rfl rfl (fun c hn=>?_)
 unfold zq at h
 refine bQ 0 2 (by rfl) (by rfl) (fun hl=>?_)
 replace h:=h hl
 clear hl
 refine bQ 0 3 (by rfl) (by rfl) (fun hl=>?_)
 replace h:=h hl
 clear hl
 refine bQ 0 4 (by rfl) (by rfl) (fun hl=>?_)
 replace h:=h hl
 clear hl
 refine bQ 1 2 (by rfl) (by rfl) (fun hl=>?_)
 replace h:=h hl
 clear hl
 refine bQ 1 3 (by rfl) (by rfl) (fun hl=>?_)
 replace h:=h hl
 clear hl
 refine bQ 1 4 (by rfl) (by rfl) (fun hl=>?_)
 replace h:=h hl
 clear hl
 refine bk hn ?_
 refine bi (bp (cN hn 2 ?_))
 refine fK hn (cL (Dw a b) Mw rfl) ?_
 refine bM hn ?_
 refine bk hn ?_
 refine bv h (fun h=>?_) (fun h=>?_)
 refine bp (cw ht hn 4 ⟨[mq,ba 5 (oU a b)],[.gone, .gone, .box [I 0,I 0, .v (.slice none 0 0), .v (.slice none 0 0), .v (.slice none 0 0)] 25 false]⟩ ?_)
 refine cT (dn (T:=aZ) 2 2 (by rfl) (by rfl) ?_)
 refine dn (T:=aY.ty) 2 3 (by rfl) (by rfl) ?_
 refine dn (T:=aZ) 2 4 (by rfl) (by rfl) ?_
 exact eW ht ((bd.mk 0 0 [] [] []),(oU a b)) h (by kernel_rfl) rfl
 refine bn (bk hn ?_)
 refine bk hn ?_
 refine bi (bp (cw ht hn 4 ⟨sl 7 (.fn 24 [1]) :: ba 42 0 :: (Ah a),[.box (bd.cl a) 25 false, .box (bd.cl b) 25 false, .box [I 0,I 0, .v (.slice none 0 0), .v (.slice none 0 0), .v (.slice none 0 0)] 25 false,Lj a b]⟩ ?_))
 refine bj (fA (T:=aZ) 2 2 4 3 (by rfl) (by rfl) (by rfl) (by rfl) ?_)
 refine fA (T:=aY.ty) 2 3 5 29 (by rfl) (by rfl) (by rfl) (by rfl) ?_
 refine mI ⟨sl 7 (.fn 24 [1]) :: ba 42 0 :: (Ah a),[.box (bd.cl a) 25 false, .box (bd.cl b) 25 false, .box [I 0,I 0, .own 4, .own 5, .v (.slice none 0 0)] 25 false,Lj a b,bf 3 aZ ([]:List Int),bf 29 aY.ty ([]:gG)]⟩ (by kernel_rfl) ?_
 refine fA (T:=aZ) 2 4 6 3 (by rfl) (by rfl) (by rfl) (by rfl) ?_
 refine mI ⟨sl 7 (.fn 24 [1]) :: ba 42 0 :: (Ah a),[.box (bd.cl a) 25 false, .box (bd.cl b) 25 false,lN,Lj a b,bf 3 aZ ([]:List Int),bf 29 aY.ty ([]:gG),bf 3 aZ ([]:List Int)]⟩ (by kernel_rfl) ?_
 refine fA (T:=aZ) 3 2 7 3 (by rfl) (by rfl) (by rfl) (by rfl) ?_
 refine mI ⟨sl 7 (.fn 24 [1]) :: ba 42 0 :: (Ah a),[.box (bd.cl a) 25 false, .box (bd.cl b) 25 false,lN, .box [I a.ae,I (rG a b), .own 7, .v (.slice none 0 0), .v (.slice none 0 0)] 25 false,bf 3 aZ ([]:List Int),bf 29 aY.ty ([]:gG),bf 3 aZ ([]:List Int),bf 3 aZ ([]:List Int)]⟩ (by kernel_rfl) ?_
 refine fA (T:=aY.ty) 3 3 8 29 (by rfl) (by rfl) (by rfl) (by rfl) ?_
 refine mI ⟨sl 7 (.fn 24 [1]) :: ba 42 0 :: (Ah a),[.box (bd.cl a) 25 false, .box (bd.cl b) 25 false,lN, .box [I a.ae,I (rG a b), .own 7, .own 8, .v (.slice none 0 0)] 25 false,bf 3 aZ ([]:List Int),bf 29 aY.ty ([]:gG),bf 3 aZ ([]:List Int),bf 3 aZ ([]:List Int),bf 29 aY.ty ([]:gG)]⟩ (by kernel_rfl) ?_
 refine fA (T:=aZ) 3 4 9 3 (by rfl) (by rfl) (by rfl) (by rfl) ?_
 refine mI ⟨sl 7 (.fn 24 [1]) :: ba 42 0 :: (Ah a),[.box (bd.cl a) 25 false, .box (bd.cl b) 25 false,lN,pE a b,bf 3 aZ ([]:List Int),bf 29 aY.ty ([]:gG),bf 3 aZ ([]:List Int),bf 3 aZ ([]:List Int),bf 29 aY.ty ([]:gG),bf 3 aZ ([]:List Int)]⟩ (by kernel_rfl) ?_
 refine iz [1] (by rfl) ?_
 refine Bc 7 (o1 (ln (fun _=>True) (fP b))) (by rfl) (gV (M:=[.box (bd.cl b) 25 true]) (caps:=[1]) (fun x_ _=>LN x_.1 x_.2.1 x_.2.2 b) NN rfl (by kernel_rfl) (by rfl) (fun _=>rfl)) ?_
 refine dV h (fun zz=>⟨[bu 2 0 0,kL,mq,bg 7 (ln (fun _=>True) (fP b)),kK,bg 40 (LS aZ a.af),ba 41 (a.af.length:Int),ba 42 zz.1],(L5 a b zz.2)⟩) fun Inv mu x42 l7 h=>?_
 refine bk hn ?_
 refine bi (bv h (fun h=>?_) (fun h=>?_))
 refine bn (bi (bj (bp ?_)))
 obtain ⟨e,he,h⟩:=h
 refine bT hn (iX (T:=aZ) rfl he) ?_
 refine bT hn (lD (s:=.one (I e)) rfl) ?_
 refine bM hn ?_
 refine bk hn ?_
 refine bj (dV h (fun zz=>⟨[bu 2 0 0,kL,mq,bg 7 (ln (fun _=>True) (fP b)),kK,ba 10 e,bg 40 (LS aZ a.af),ba 41 (a.af.length:Int),ba 42 x42,bg 47 (LS aZ b.af),ba 48 (b.af.length:Int),ba 49 zz.1],(L5 a b zz.2)⟩) fun Inv_2 mu_2 x49 l7_2 h=>?_)
 refine bk hn ?_
 refine bi (bv h (fun h=>?_) (fun h=>?_))
 refine bn (bi (bj (bp ?_)))
 obtain ⟨e_2,he_2,h⟩:=h
 refine bT hn (iX (T:=aZ) rfl he_2) ?_
 refine bT hn (lD (s:=.one (I e_2)) rfl) ?_
 refine bM hn ?_
 obtain ⟨hp_2,h⟩:=h
 obtain ⟨hp_3,h⟩:=h
 refine da ⟨sl 7 (ln (fun _=>True) (fP b)) :: ba 10 e :: ba 12 e_2 :: ba 42 x42 :: bg 47 (LS aZ b.af) :: ba 48 (b.af.length:Int) :: ba 49 x49 :: (Ah a),[cQ 3 2,cu 7,o1 (ln (fun _=>True) (fP b)),bq e,bq e_2,bq ((fP b) (e,e_2,0)),o1 (LS aZ ([((fP b) (e,e_2,0))]:List Int)),cu 10,cQ 3 2,bJ],[bU (.box (bd.cl a) 25 false),bU (.box (bd.cl b) 25 true),bU (lN),⟨(pE a b),none,none,some (9, .box [I a.ae,I (rG a b), .own 10, .own 8, .own 9] 25 false)⟩,bU (bf 3 aZ ([]:List Int)),bU (bf 29 aY.ty ([]:gG)),bU (bf 3 aZ ([]:List Int)),⟨bf 3 aZ l7_2,none,some 7,none⟩,bU (bf 29 aY.ty ([]:gG)),bU (bf 3 aZ ([]:List Int)),⟨bf 3 aZ (l7_2 ++ ([((fP b) (e,e_2,0))]:List Int)),some 7,none,none⟩]⟩ hn ?_ ?_
 exact ⟨.e,
 .e,
 .e,
 .e,
 .e,
 .v (cV (ins:=(fun (x_:(Int × Int × Int))=>[bq x_.1,bq x_.2.1,bq x_.2.2])) (out:=(fun (r:Int)=>.sv (.one (I r)))) (dom:=(fun _=>True)) (φ:=(fP b)) (e,e_2,0) hp_2 rfl),
 .mt ⟨[ba 58 ((fP b) (e,e_2,0))],[]⟩ [] none (by kernel_rfl) (by rfl) (jV (q:=10) (e:=3) (lI (T:=aZ) ([((fP b) (e,e_2,0))]:List Int) 10 rfl)) rfl rfl rfl rfl,
 .mt ⟨[bx 54 7,bg 59 (LS aZ ([((fP b) (e,e_2,0))]:List Int))],[.gone, .gone, .gone, .gone, .gone, .gone, .gone,bf 3 aZ l7_2]⟩ [7] (some 10) (by kernel_rfl) (by rfl) (aP (T:=aZ) (l:=l7_2) (es:=([((fP b) (e,e_2,0))]:List Int)) (p:=10) rfl hp_3) rfl rfl rfl rfl,
 .e,
 .mu ⟨[bx 60 10,bu 61 3 2],[.gone, .gone, .gone,pE a b]⟩ 3 _ _ rfl rfl (by kernel_rfl) (by rfl) (eY ht rfl (by rfl) (by rfl) (by rfl) (by rfl) (fun h=>by cases h) (by rfl) (by rfl)) rfl rfl rfl rfl rfl rfl rfl,
 trivial⟩
 refine bI (cw ht hn 2 ⟨sl 7 (ln (fun _=>True) (fP b)) :: ba 10 e :: ba 42 x42 :: bg 47 (LS aZ b.af) :: ba 48 (b.af.length:Int) :: ba 49 (wr (x49 + 1)) :: (Ah a),[.box (bd.cl a) 25 false, .box (bd.cl b) 25 true,lN, .box [I a.ae,I (rG a b), .own 10, .own 8, .own 9] 25 false,bf 3 aZ ([]:List Int),bf 29 aY.ty ([]:gG),bf 3 aZ ([]:List Int), .gone,bf 29 aY.ty ([]:gG),bf 3 aZ ([]:List Int),bf 3 aZ (l7_2 ++ ([((fP b) (e,e_2,0))]:List Int))]⟩ ?_)
 refine kV 10 7 (by rfl) (by rfl) ?_
 exact bZ ((wr (x49 + 1)),(l7_2 ++ ([((fP b) (e,e_2,0))]:List Int))) h
 exact bD rfl (cn hn ((wr (x42 + 1)),l7_2) h)
 refine bD rfl (bi (bk hn ?_))
 refine bj (dV h (fun zz=>⟨[bu 2 0 0,kL,mq,bg 7 (ln (fun _=>True) (fP b)),kK,sF a,Ag a,ba 67 zz.1],[.box (bd.cl a) 25 false, .box (bd.cl b) 25 true,lN,pE a b,bf 3 aZ ([]:List Int),bf 29 aY.ty ([]:gG),bf 3 aZ ([]:List Int),bf 3 aZ l7,bf 29 aY.ty zz.2,bf 3 aZ ([]:List Int)]⟩) fun Inv_3 mu_3 x67 l8 h=>?_)
 refine bk hn ?_
 refine bi (bv h (fun h=>?_) (fun h=>?_))
 refine bn (bi (bj (bp ?_)))
 obtain ⟨e_3,he_3,h⟩:=h
 refine bT hn (iX (T:=aY.ty) rfl he_3) ?_
 refine bT hn (lD (s:=.agg (aY.cl e_3)) rfl) ?_
 refine bM hn ?_
 refine bk hn ?_
 refine bj (dV h (fun zz=>⟨[bu 2 0 0,kL,mq,bg 7 (ln (fun _=>True) (fP b)),kK,bu 14 10 0,sF a,Ag a,ba 67 x67,ur b,ut b,ba 74 zz.1],[.box (bd.cl a) 25 false, .box (bd.cl b) 25 true,lN,pE a b,bf 3 aZ ([]:List Int),bf 29 aY.ty ([]:gG),bf 3 aZ ([]:List Int),bf 3 aZ l7,bf 29 aY.ty zz.2,bf 3 aZ ([]:List Int), .box (aY.cl e_3) 29 false]⟩) fun Inv_4 mu_4 x74 l8_2 h=>?_)
 refine bk hn ?_
 refine bi (bv h (fun h=>?_) (fun h=>?_))
 refine bn ?_
 obtain ⟨J,h,hJ⟩:=h
 refine bS (σ:=gG) (fun zz=>J zz) (fun zz=>⟨[bu 2 0 0,kL,mq,bg 7 (ln (fun _=>True) (fP b)),kK,bu 14 10 0,sF a,Ag a,ba 67 x67,ur b,ut b,ba 74 x74],[.box (bd.cl a) 25 false, .box (bd.cl b) 25 true,lN,pE a b,bf 3 aZ ([]:List Int),bf 29 aY.ty ([]:gG),bf 3 aZ ([]:List Int),bf 3 aZ l7,bf 29 aY.ty zz,bf 3 aZ ([]:List Int), .box (aY.cl e_3) 29 false, .gone]⟩) ?_ ?_
 refine bj (bp ?_)
 obtain ⟨e_4,he_4,h⟩:=h
 refine bT hn (iX (T:=aY.ty) rfl he_4) ?_
 refine bT hn (lD (s:=.agg (aY.cl e_4)) rfl) ?_
 refine bM hn ?_
 refine bi (bk hn ?_)
 refine bv h (fun h=>?_) (fun h=>?_)
 exact bD rfl (bZ l8_2 h)
 refine bn (bk hn ?_)
 refine bj (dV h (fun zz=>⟨[bu 2 0 0,kL,mq,bg 7 (ln (fun _=>True) (fP b)),kK,bu 14 10 0,bu 16 11 0,sF a,Ag a,ba 67 x67,ur b,ut b,ba 74 x74,ba 83 zz.1],[.box (bd.cl a) 25 false, .box (bd.cl b) 25 true,lN,pE a b,bf 3 aZ ([]:List Int),bf 29 aY.ty ([]:gG),bf 3 aZ ([]:List Int),bf 3 aZ l7,bf 29 aY.ty zz.2,bf 3 aZ ([]:List Int), .box (aY.cl e_3) 29 false, .box (aY.cl e_4) 29 false]⟩) fun Inv_5 mu_5 x83 l8_4 h=>?_)
 refine bk hn ?_
 refine bi (bv h (fun h=>?_) (fun h=>?_))
 refine bn (bi (bj (bk hn ?_)))
 refine bk hn ?_
 obtain ⟨J_2,h,hJ_2⟩:=h
 refine bS (σ:=Int) (fun zz=>J_2 zz) (fun zz=>⟨[bu 2 0 0,kL,mq,bg 7 (ln (fun _=>True) (fP b)),kK,bu 14 10 0,bu 16 11 0,ba 17 x83,ba 18 zz,sF a,Ag a,ba 67 x67,ur b,ut b,ba 74 x74,ba 83 x83],(L6 a b l7 l8_4 e_3 e_4)⟩) ?_ ?_
 obtain ⟨J_3,h,hJ_3⟩:=h
 refine bS (σ:=Bool) (fun zz=>J_3 zz) (fun zz=>⟨[bu 2 0 0,kL,mq,bg 7 (ln (fun _=>True) (fP b)),kK,bu 14 10 0,bu 16 11 0,ba 17 x83,ba 18 x83,sF a,Ag a,ba 67 x67,ur b,ut b,ba 74 x74,ba 83 x83,bG 106 zz],(L6 a b l7 l8_4 e_3 e_4)⟩) ?_ ?_
 refine bI (cN hn 3 ?_)
 refine cz (x83 == 0) (fun hb=>?_) (fun hb=>?_)
 replace h:=h.1 hb
 refine cf 89 hb ?_
 refine cN hn 4 ?_
 refine fK hn (cL (tQ a.av e_3.am) Kb rfl) ?_
 refine cN hn 2 ?_
 refine cz (a.av.contains e_3.am) (fun hb=>?_) (fun hb=>?_)
 replace h:=h.1 hb
 refine cf 96 hb ?_
 refine bM hn ?_
 exact bZ true h
 replace h:=h.2 hb
 refine cf 96 hb ?_
 refine cN hn 3 ?_
 refine cz (x83 == 1) (fun hb=>?_) (fun hb=>?_)
 replace h:=h.1 hb
 refine cf 99 hb ?_
 refine cN hn 4 ?_
 refine fK hn (cL (tQ b.av e_4.am) Kb rfl) ?_
 refine bM hn ?_
 exact bZ (b.av.contains e_4.am) h
 replace h:=h.2 hb
 refine cf 99 hb ?_
 refine bM hn ?_
 exact bZ false h
 replace h:=h.2 hb
 refine cf 89 hb ?_
 refine cN hn 10 ?_
 refine cz (x83 == 1) (fun hb=>?_) (fun hb=>?_)
 replace h:=h.1 hb
 refine cf 99 hb ?_
 refine cN hn 4 ?_
 refine fK hn (cL (tQ b.av e_4.am) Kb rfl) ?_
 refine bM hn ?_
 exact bZ (b.av.contains e_4.am) h
 replace h:=h.2 hb
 refine cf 99 hb ?_
 refine bM hn ?_
 exact bZ false h
 intro x106 h
 replace h:=hJ_3 _ h
 refine bv h (fun h=>?_) (fun h=>?_)
 exact cn hn (wr (1 - x83)) h
 exact bn (bZ x83 h)
 intro x18 h
 replace h:=hJ_2 _ h
 obtain ⟨hp_4,h⟩:=h
 obtain ⟨hp_5,h⟩:=h
 obtain ⟨hp_6,h⟩:=h
 refine da ⟨ba 17 x83 :: ba 18 x18 :: ba 83 x83 :: [bu 2 0 0,kL,mq,bg 7 (ln (fun _=>True) (fP b)),kK,bu 14 10 0,bu 16 11 0,sF a,Ag a,ba 67 x67,ur b,ut b,ba 74 x74],[cQ 3 3,cu 8,o1 (ln (fun _=>True) (fP b)),cQ 10 0,bq e_3.am,cQ 11 0,bq e_4.am,bq x83,bq ((fP b) (e_3.am,e_4.am,x83)),cQ 10 1,bq e_3.az,o1 (ln (fun _=>True) (fP b)),cQ 10 2,bq e_3.aA,cQ 11 2,bq e_4.aA,bq x18,bq ((fP b) (e_3.aA,e_4.aA,x18)), .sv (.agg [I ((fP b) (e_3.am,e_4.am,x83)),I e_3.az,I ((fP b) (e_3.aA,e_4.aA,x18))]),o1 (LS aY.ty ([aY.mk ((fP b) (e_3.am,e_4.am,x83)) e_3.az ((fP b) (e_3.aA,e_4.aA,x18))]:gG)),cu 12,cQ 3 3,bJ],[bU (.box (bd.cl a) 25 false),bU (.box (bd.cl b) 25 true),bU (lN),⟨(pE a b),none,none,some (22, .box [I a.ae,I (rG a b), .own 7, .own 12, .own 9] 25 false)⟩,bU (bf 3 aZ ([]:List Int)),bU (bf 29 aY.ty ([]:gG)),bU (bf 3 aZ ([]:List Int)),bU (bf 3 aZ l7),⟨bf 29 aY.ty l8_4,none,some 20,none⟩,bU (bf 3 aZ ([]:List Int)),bU (.box (aY.cl e_3) 29 false),bU (.box (aY.cl e_4) 29 false),⟨bf 29 aY.ty (l8_4 ++ ([aY.mk ((fP b) (e_3.am,e_4.am,x83)) e_3.az ((fP b) (e_3.aA,e_4.aA,x18))]:gG)),some 20,none,none⟩]⟩ hn ?_ ?_
 exact ⟨.e,
 .e,
 .e,
 .e,
 .e,
 .e,
 .e,
 .e,
 .v (cV (ins:=(fun (x_:(Int × Int × Int))=>[bq x_.1,bq x_.2.1,bq x_.2.2])) (out:=(fun (r:Int)=>.sv (.one (I r)))) (dom:=(fun _=>True)) (φ:=(fP b)) (e_3.am,e_4.am,x83) hp_4 rfl),
 .e,
 .e,
 .e,
 .e,
 .e,
 .e,
 .e,
 .e,
 .v (cV (ins:=(fun (x_:(Int × Int × Int))=>[bq x_.1,bq x_.2.1,bq x_.2.2])) (out:=(fun (r:Int)=>.sv (.one (I r)))) (dom:=(fun _=>True)) (φ:=(fP b)) (e_3.aA,e_4.aA,x18) hp_5 rfl),
 .e,
 .mt ⟨[(127, .sv (.agg [I ((fP b) (e_3.am,e_4.am,x83)),I e_3.az,I ((fP b) (e_3.aA,e_4.aA,x18))]))],[]⟩ [] none (by kernel_rfl) (by rfl) (jV (q:=12) (e:=29) (lI (T:=aY.ty) ([aY.mk ((fP b) (e_3.am,e_4.am,x83)) e_3.az ((fP b) (e_3.aA,e_4.aA,x18))]:gG) 12 rfl)) rfl rfl rfl rfl,
 .mt ⟨[bx 110 8,bg 128 (LS aY.ty ([aY.mk ((fP b) (e_3.am,e_4.am,x83)) e_3.az ((fP b) (e_3.aA,e_4.aA,x18))]:gG))],[.gone, .gone, .gone, .gone, .gone, .gone, .gone, .gone,bf 29 aY.ty l8_4]⟩ [8] (some 12) (by kernel_rfl) (by rfl) (aP (T:=aY.ty) (l:=l8_4) (es:=([aY.mk ((fP b) (e_3.am,e_4.am,x83)) e_3.az ((fP b) (e_3.aA,e_4.aA,x18))]:gG)) (p:=12) rfl hp_6) rfl rfl rfl rfl,
 .e,
 .mu ⟨[bx 129 12,bu 130 3 3],[.gone, .gone, .gone,pE a b]⟩ 3 _ _ rfl rfl (by kernel_rfl) (by rfl) (eY ht rfl (by rfl) (by rfl) (by rfl) (by rfl) (fun h=>by cases h) (by rfl) (by rfl)) rfl rfl rfl rfl rfl rfl rfl,
 trivial⟩
 refine bI (cw ht hn 2 ⟨ba 83 (wr (x83 + 1)) :: [bu 2 0 0,kL,mq,bg 7 (ln (fun _=>True) (fP b)),kK,bu 14 10 0,bu 16 11 0,sF a,Ag a,ba 67 x67,ur b,ut b,ba 74 x74],[.box (bd.cl a) 25 false, .box (bd.cl b) 25 true,lN, .box [I a.ae,I (rG a b), .own 7, .own 12, .own 9] 25 false,bf 3 aZ ([]:List Int),bf 29 aY.ty ([]:gG),bf 3 aZ ([]:List Int),bf 3 aZ l7, .gone,bf 3 aZ ([]:List Int), .box (aY.cl e_3) 29 false, .box (aY.cl e_4) 29 false,bf 29 aY.ty (l8_4 ++ ([aY.mk ((fP b) (e_3.am,e_4.am,x83)) e_3.az ((fP b) (e_3.aA,e_4.aA,x18))]:gG))]⟩ ?_)
 refine kV 12 8 (by rfl) (by rfl) ?_
 exact bZ ((wr (x83 + 1)),(l8_4 ++ ([aY.mk ((fP b) (e_3.am,e_4.am,x83)) e_3.az ((fP b) (e_3.aA,e_4.aA,x18))]:gG))) h
 exact bD rfl (bZ l8_4 h)
 intro l8_3 h
 replace h:=hJ _ h
 exact cn hn ((wr (x74 + 1)),l8_3) h
 exact bD rfl (cn hn ((wr (x67 + 1)),l8_2) h)
 refine bD rfl (bi (bk hn ?_))
 refine bj (dV h (fun zz=>⟨[kL,mq,bg 7 (ln (fun _=>True) (fP b)),kK,bg 135 (LS aZ a.av),ba 136 (a.av.length:Int),ba 137 zz.1],(KF b a l7 l8 zz.2)⟩) fun Inv_6 mu_6 x137 l9 h=>?_)
 refine bk hn ?_
 refine bi (bv h (fun h=>?_) (fun h=>?_))
 refine bn (bi (bj (bp ?_)))
 obtain ⟨e_5,he_5,h⟩:=h
 refine bT hn (iX (T:=aZ) rfl he_5) ?_
 refine bT hn (lD (s:=.one (I e_5)) rfl) ?_
 refine bM hn ?_
 refine bk hn ?_
 refine bj (dV h (fun zz=>⟨[kL,mq,bg 7 (ln (fun _=>True) (fP b)),kK,ba 20 e_5,bg 135 (LS aZ a.av),ba 136 (a.av.length:Int),ba 137 x137,ba 142 b.ac,ba 143 zz.1],(KF b a l7 l8 zz.2)⟩) fun Inv_7 mu_7 x143 l9_2 h=>?_)
 refine bk hn ?_
 refine bi (bv h (fun h=>?_) (fun h=>?_))
 refine bn (bi (bj (bk hn ?_)))
 obtain ⟨hp_7,h⟩:=h
 obtain ⟨hp_8,h⟩:=h
 refine da ⟨ba 21 x143 :: ba 143 x143 :: [kL,mq,bg 7 (ln (fun _=>True) (fP b)),kK,ba 20 e_5,bg 135 (LS aZ a.av),ba 136 (a.av.length:Int),ba 137 x137,ba 142 b.ac],[cQ 3 4,cu 9,o1 (ln (fun _=>True) (fP b)),bq e_5,bq x143,bq ((fP b) (e_5,x143,0)),o1 (LS aZ ([((fP b) (e_5,x143,0))]:List Int)),cu 10,cQ 3 4,bJ],[bU .gone,bU (.box (bd.cl b) 25 true),bU (lN),⟨(pE a b),none,none,some (9, .box [I a.ae,I (rG a b), .own 7, .own 8, .own 10] 25 false)⟩,bU (bf 3 aZ ([]:List Int)),bU (bf 29 aY.ty ([]:gG)),bU (bf 3 aZ ([]:List Int)),bU (bf 3 aZ l7),bU (bf 29 aY.ty l8),⟨bf 3 aZ l9_2,none,some 7,none⟩,⟨bf 3 aZ (l9_2 ++ ([((fP b) (e_5,x143,0))]:List Int)),some 7,none,none⟩]⟩ hn ?_ ?_
 exact ⟨.e,
 .e,
 .e,
 .e,
 .e,
 .v (cV (ins:=(fun (x_:(Int × Int × Int))=>[bq x_.1,bq x_.2.1,bq x_.2.2])) (out:=(fun (r:Int)=>.sv (.one (I r)))) (dom:=(fun _=>True)) (φ:=(fP b)) (e_5,x143,0) hp_7 rfl),
 .mt ⟨[ba 151 ((fP b) (e_5,x143,0))],[]⟩ [] none (by kernel_rfl) (by rfl) (jV (q:=10) (e:=3) (lI (T:=aZ) ([((fP b) (e_5,x143,0))]:List Int) 10 rfl)) rfl rfl rfl rfl,
 .mt ⟨[bx 147 9,bg 152 (LS aZ ([((fP b) (e_5,x143,0))]:List Int))],[.gone, .gone, .gone, .gone, .gone, .gone, .gone, .gone, .gone,bf 3 aZ l9_2]⟩ [9] (some 10) (by kernel_rfl) (by rfl) (aP (T:=aZ) (l:=l9_2) (es:=([((fP b) (e_5,x143,0))]:List Int)) (p:=10) rfl hp_8) rfl rfl rfl rfl,
 .e,
 .mu ⟨[bx 153 10,bu 154 3 4],[.gone, .gone, .gone,pE a b]⟩ 3 _ _ rfl rfl (by kernel_rfl) (by rfl) (eY ht rfl (by rfl) (by rfl) (by rfl) (by rfl) (fun h=>by cases h) (by rfl) (by rfl)) rfl rfl rfl rfl rfl rfl rfl,
 trivial⟩
 refine bI (cw ht hn 2 ⟨ba 143 (wr (x143 + 1)) :: [kL,mq,bg 7 (ln (fun _=>True) (fP b)),kK,ba 20 e_5,bg 135 (LS aZ a.av),ba 136 (a.av.length:Int),ba 137 x137,ba 142 b.ac],[.gone, .box (bd.cl b) 25 true,lN, .box [I a.ae,I (rG a b), .own 7, .own 8, .own 10] 25 false,bf 3 aZ ([]:List Int),bf 29 aY.ty ([]:gG),bf 3 aZ ([]:List Int),bf 3 aZ l7,bf 29 aY.ty l8, .gone,bf 3 aZ (l9_2 ++ ([((fP b) (e_5,x143,0))]:List Int))]⟩ ?_)
 refine kV 10 9 (by rfl) (by rfl) ?_
 exact bZ ((wr (x143 + 1)),(l9_2 ++ ([((fP b) (e_5,x143,0))]:List Int))) h
 exact bD rfl (cn hn ((wr (x137 + 1)),l9_2) h)
 refine bD rfl (bp (bC ht hn 1 ⟨[mq,(157, .sv (.agg [I a.ae,I (rG a b), .own 7, .own 8, .own 9]))],[.gone, .gone,lN, .gone,bf 3 aZ ([]:List Int),bf 29 aY.ty ([]:gG),bf 3 aZ ([]:List Int),bf 3 aZ l7,bf 29 aY.ty l8,bf 3 aZ l9]⟩ ?_))
 refine dE (T:=aZ) (l:=l7) (e:=3) 7 rfl ?_
 refine bC ht hn 0 ⟨[mq,(157, .sv (.agg [I a.ae,I (rG a b),LS aZ l7, .own 8, .own 9]))],[.gone, .gone,lN, .gone,bf 3 aZ ([]:List Int),bf 29 aY.ty ([]:gG),bf 3 aZ ([]:List Int), .gone,bf 29 aY.ty l8,bf 3 aZ l9]⟩ ?_
 refine dE (T:=aZ) (l:=l9) (e:=3) 9 rfl ?_
 refine bC ht hn 0 ⟨[mq,(157, .sv (.agg [I a.ae,I (rG a b),LS aZ l7, .own 8,LS aZ l9]))],[.gone, .gone,lN, .gone,bf 3 aZ ([]:List Int),bf 29 aY.ty ([]:gG),bf 3 aZ ([]:List Int), .gone,bf 29 aY.ty l8, .gone]⟩ ?_
 obtain ⟨hp,h⟩:=h
 refine dz [mq] (Dx a.ae (rG a b) l7 l9 l8 hp) Mv (caps:=[]) [8] hn (by rfl) rfl (by rfl) (eR (by kernel_rfl) (by rfl)) (by kernel_rfl) (by decide) (by kernel_rfl) (by rfl) (by rfl) (fun r hr_2=>⟨by rfl,_,by rfl,?_⟩)
 replace h:=h r hr_2
 refine bM hn ?_
 exact fL ht (r,0) h
theorem en9 : ∀ args w,(callFunc 9 args).run Tryz.prog w=.ok (.enter 9 args) w:=enters_of Tryz.func9 (by kernel_rfl) rfl
def atI (n p q t:Int):Int:=(p * n + q) * 2 + t
theorem LO {b:bd} {p q t:Int} (hs:1 <= b.ac /\ b.ac <= 8) (hp:0 <= p /\ p < 8) (hq:0 <= q /\ q < b.ac) (ht:0 <= t /\ t < 2):fP b (p,q,t)=atI b.ac p q t:=by
 have h1:0 <= p * b.ac:=mi hp.1 (by omega)
 have h2:p * b.ac <= p * 8:=rt hs.2 hp.1
 unfold fP atI
 show wr (wr (wr (wr (p * b.ac) + q) * 2) + t)=_
 rw [bL (n:=p * b.ac) (by omega) (by omega),bL (n:=p * b.ac + q) (by omega) (by omega),bL (n:=(p * b.ac + q) * 2) (by omega) (by omega),bL (by omega) (by omega)]
theorem od {n p q t p' q' t':Int} (hq:0 <= q /\ q < n) (hq':0 <= q' /\ q' < n) (ht:0 <= t /\ t < 2) (ht':0 <= t' /\ t' < 2) (h:atI n p q t=atI n p' q' t'):p=p' /\ q=q' /\ t=t':=by
 unfold atI at h
 have e1:t=t':=by omega
 have e2:p * n + q=p' * n + q':=by omega
 have e3:p=p':=by
  rcases Int.lt_trichotomy p p' with c | c | c
  ·have:=tg (show p + 1 <= p' by omega) (show 0 <= n by omega)
   rw [Int.add_mul] at this
   omega
  ·exact c
  ·have:=tg (show p' + 1 <= p by omega) (show 0 <= n by omega)
   rw [Int.add_mul] at this
   omega
 subst e3
 exact ⟨rfl,by omega,e1⟩
theorem HZ {n p q t p' q' t':Int} (hq:0 <= q /\ q < n) (hq':0 <= q' /\ q' < n) (h:p < p' \/ (p=p' /\ q < q')) (ht:t=0 /\ t'=0):atI n p q t < atI n p' q' t':=by
 unfold atI
 rcases h with c | ⟨rfl,c⟩
 ·have:=tg (show p + 1 <= p' by omega) (show 0 <= n by omega)
  rw [Int.add_mul] at this
  omega
 ·omega
def vj (a b:bd):List Int:=a.af.flatMap fun p=>b.af.map fun q=>atI b.ac p q 0
def pn (a b:bd):List Int:=a.av.flatMap fun p=>(List.range b.ac.toNat).map fun (q:Nat)=>atI b.ac p (q:Int) 0
def lB (a b:bd) (x y:aY) (t:Int):Int:=if (t == 0) && a.av.contains x.am || (t == 1) && b.av.contains y.am then 1 - t else t
def xL (a b:bd) (x y:aY) (t:Int):aY:=aY.mk (atI b.ac x.am y.am t) x.az (atI b.ac x.aA y.aA (lB a b x y t))
def mN (a b:bd) (x y:aY):List aY:=if x.az ≠ y.az then [] else [xL a b x y 0,xL a b x y 1]
def vi (a b:bd):List aY:=a.ar.flatMap fun x=>b.ar.flatMap fun y=>mN a b x y
theorem m5 {a b:bd} {x y:aY} {t:Int} (h:t=0 \/ t=1):0 <= lB a b x y t /\ lB a b x y t < 2:=by
 unfold lB
 split <;> omega
structure KW (a b r:bd):Prop where
 two:Ic a b
 sor:FK a.ae (2 * a.ac * b.ac) (vj a b) (pn a b) (vi a b) r
 rs:Ris (vj a b)
 rf:Ris (pn a b)
def KA (a b:bd) (r:bd × Int):Prop:=r.2=0 -> KW a b r.1
def FH : List aY:=(List.range 8).flatMap fun (p:Nat)=>(List.range 4).flatMap fun (l:Nat)=>(List.range 8).map fun (q:Nat)=>aY.mk p l q
theorem v8 {a:bd} (h:oK a) (hs:a.ac <= 8):a.ar.length <= 256:=by
 have h1:a.ar.length <= FH.length:=iJ h.rx.nodup fun x hx=>by
  obtain ⟨⟨k1,k2⟩,⟨k3,k4⟩,k5,k6⟩:=h.steps x hx
  have:=h.letters
  unfold FH
  refine ib.2 ⟨x.am.toNat,d6.2 (by omega),ib.2 ⟨x.az.toNat,d6.2 (by omega),cP.2 ⟨x.aA.toNat,d6.2 (by omega),?_⟩⟩⟩
  rw [dB k1,dB k3,dB k5]
 have h2:FH.length=256:=by kernel_rfl
 omega
theorem Ab {l m:List Int} {n:Int} (hl:Ris l) (hm:Ris m) (h:∀ q ∈ m,0 <= q /\ q < n):Ris (l.flatMap fun p=>m.map fun q=>atI n p q 0):=by
 rw [ng,List.pairwise_flatMap]
 refine ⟨fun p _=>?_,(ng.1 hl).imp fun {p p'} hpp x hx y hy=>?_⟩
 ·refine List.pairwise_map.2 ?_
  have hm:=ng.1 hm
  refine hm.imp_of_mem fun {q q'} hq hq' hqq=>HZ (h q hq) (h q' hq') (.inr ⟨rfl,hqq⟩) ⟨rfl,rfl⟩
 ·obtain ⟨q,hq,rfl⟩:=cP.1 hx
  obtain ⟨q',hq',rfl⟩:=cP.1 hy
  exact HZ (h q hq) (h q' hq') (.inl hpp) ⟨rfl,rfl⟩
theorem Ev (n:Nat):Ris ((List.range n).map fun (q:Nat)=>(q:Int)):=by
 rw [ng]
 refine List.pairwise_map.2 (List.pairwise_lt_range.imp fun {x y} h=>by omega)
theorem FC (a b:bd):pn a b=a.av.flatMap fun p=>((List.range b.ac.toNat).map fun (q:Nat)=>(q:Int)).map fun q=>atI b.ac p q 0:=by
 unfold pn
 congr
 funext p
 rw [kk]
 rfl
theorem pN {a b:bd} {x y z:aY} (h:z ∈ mN a b x y):x.az=y.az /\ ∃ t:Int,(t=0 \/ t=1) /\ z=xL a b x y t:=by
 unfold mN at h
 split at h
 ·cases h
 ·rename_i c
  refine ⟨jp.1 c,?_⟩
  rcases eh.1 h with rfl | h
  ·exact ⟨0, .inl rfl,rfl⟩
  ·exact ⟨1, .inr rfl,et.1 h⟩
theorem t6 {a b:bd} {x y x' y':aY} {t t':Int} (hy:0 <= y.am /\ y.am < b.ac) (hy':0 <= y'.am /\ y'.am < b.ac) (gy:0 <= y.aA /\ y.aA < b.ac) (gy':0 <= y'.aA /\ y'.aA < b.ac) (ht:t=0 \/ t=1) (ht':t'=0 \/ t'=1) (hl:x.az=y.az) (hl':x'.az=y'.az) (h:xL a b x y t=xL a b x' y' t'):x=x' /\ y=y' /\ t=t':=by
 unfold xL at h
 simp only [aY.mk.injEq] at h
 obtain ⟨h1,h2,h3⟩:=h
 obtain ⟨e1,e2,e3⟩:=od hy hy' (by omega) (by omega) h1
 obtain ⟨e4,e5,_⟩:=od gy gy' (m5 ht) (m5 ht') h3
 refine ⟨?_,?_,e3⟩
 ·cases x
  cases x'
  simp only [aY.mk.injEq] at *
  exact ⟨e1,h2,e4⟩
 ·cases y
  cases y'
  simp only [aY.mk.injEq] at *
  exact ⟨e2,by omega,e5⟩
theorem zg {a b:bd} (hA:oK a) (hB:oK b):(vi a b).Nodup:=by
 unfold vi
 have rg:∀ y ∈ b.ar,(0 <= y.am /\ y.am < b.ac) /\ (0 <= y.aA /\ y.aA < b.ac):=fun y hy=>⟨(hB.steps y hy).1,(hB.steps y hy).2.1⟩
 refine List.pairwise_flatMap.2 ⟨fun x hx=>List.pairwise_flatMap.2 ⟨fun y hy=>?_,?_⟩,?_⟩
 ·unfold mN
  split
  ·exact List.Pairwise.nil
  ·refine List.pairwise_cons.2 ⟨fun z hz e=>?_,List.pairwise_singleton _ _⟩
   rw [et.1 hz] at e
   have hl:x.az=y.az:=jp.1 ‹_›
   obtain ⟨g1,g2⟩:=rg y hy
   exact absurd (t6 g1 g1 g2 g2 (.inl rfl) (.inr rfl) hl hl e).2.2 (by decide)
 ·refine (hB.rx.nodup).imp_of_mem fun {y y'} hy hy' hne z hz z' hz' e=>?_
  obtain ⟨l1,t,ht,rfl⟩:=pN hz
  obtain ⟨l2,t',ht',rfl⟩:=pN hz'
  obtain ⟨g1,g2⟩:=rg y hy
  obtain ⟨g3,g4⟩:=rg y' hy'
  exact hne (t6 g1 g3 g2 g4 ht ht' l1 l2 e).2.1
 ·refine (hA.rx.nodup).imp_of_mem fun {x x'} hx hx' hne z hz z' hz' e=>?_
  obtain ⟨y,hy,hz⟩:=ib.1 hz
  obtain ⟨y',hy',hz'⟩:=ib.1 hz'
  obtain ⟨l1,t,ht,rfl⟩:=pN hz
  obtain ⟨l2,t',ht',rfl⟩:=pN hz'
  obtain ⟨g1,g2⟩:=rg y hy
  obtain ⟨g3,g4⟩:=rg y' hy'
  exact hne (t6 g1 g3 g2 g4 ht ht' l1 l2 e).1
theorem gU {α β:Type} {f:α -> List β} {n:Nat}:∀ {l:List α},(∀ x ∈ l,(f x).length <= n) -> (l.flatMap f).length <= l.length * n
 | [],_=>cy _
 | x :: l,h=>by
  rw [jP,di,dq,fk]
  have h1:=h x (fD ..)
  have h2:=gU (f:=f) (n:=n) fun y hy=>h y (d7 x hy)
  omega
theorem mB {α β:Type} {f:α -> List β} {l:List α} {k:Nat} (h:k < l.length):(l.take (k + 1)).flatMap f=(l.take k).flatMap f ++ f l[k]:=by
 rw [ia,List.flatMap_append,cO h]
 simp
theorem Kn (a:bd) (b:bd)  : Ct 9 [.sv (.agg [I a.ae,I a.ac,LS aZ a.af,LS aY.ty a.ar,LS aZ a.av]), .sv (.agg [I b.ae,I b.ac,LS aZ b.af,LS aY.ty b.ar,LS aZ b.av])] [] (KA a b) (fun (r:(bd × Int))=>.tup [.agg [I r.1.ae,I r.1.ac,LS aZ r.1.af,LS aY.ty r.1.ar,LS aZ r.1.av], .one (I r.2)]):=by
 refine FF a b (KA a b) ?_
 unfold zq
 intro _ _ _ _ _ _
 refine ⟨fun h e=>absurd e (by simpa using h),fun h=>?_⟩
 have h:oU a b=0:=by simpa using h
 have h2:=Cs h
 obtain ⟨hA,hB,hs,sa,sb⟩:=h2
 have la:=iD hA.rs hA.start (by omega)
 have lf:=iD hA.rf hA.final (by omega)
 have lb:=iD hB.rs hB.start (by omega)
 have h3:=v8 hA sa
 have h4:=v8 hB sb
 have h5:=hA.states
 have h6:=hB.states
 have hat:∀ p q t,(0 <= p /\ p < a.ac) -> (0 <= q /\ q < b.ac) -> (0 <= t /\ t < 2) -> fP b (p,q,t)=atI b.ac p q t:=fun p q t hp hq ht=>LO ⟨by omega,sb⟩ ⟨by omega,by omega⟩ hq ht
 refine ⟨fun x l=>∃ k:Nat,x=k /\ k <= a.af.length /\ l=(a.af.take k).flatMap fun p=>b.af.map fun q=>atI b.ac p q 0,fun x _=>a.af.length - x.toNat,⟨0,rfl,cy _,rfl⟩,?_⟩
 rintro x l ⟨k,rfl,hk,rfl⟩
 refine ⟨fun hb=>?_,fun hb=>?_⟩
 ·have hlt:=dlt hb
  have hp:=hA.start _ (dK hlt)
  have hl1:((a.af.take k).flatMap fun p=>b.af.map fun q=>atI b.ac p q 0).length <= 300 * 300:=dp (gU (n:=300) fun p _=>by rw [df]; exact lb) (dL _ (by rw [eU]; omega))
  obtain ⟨L,hL⟩:∃ L,L=(a.af.take k).flatMap fun p=>b.af.map fun q=>atI b.ac p q 0:=⟨_,rfl⟩
  rw [<- hL] at hl1 ⊢
  refine ⟨_,eP hlt,fun y m=>∃ j:Nat,y=j /\ j <= b.af.length /\ m=L ++ (b.af.take j).map fun q=>atI b.ac a.af[k] q 0,fun y _=>b.af.length - y.toNat,⟨0,rfl,cy _,by simp⟩,?_⟩
  rintro y m ⟨j,rfl,hj,rfl⟩
  refine ⟨fun hb2=>?_,fun hb2=>?_⟩
  ·have hlt2:=dlt hb2
   refine ⟨_,eP hlt2,trivial,eI (by simp only [di,df,eU,dq,dI]; omega),⟨j + 1,dj (by omega),hlt2,?_⟩,dQ hlt2 (by omega)⟩
   rw [hat _ _ _ hp (hB.start _ (dK hlt2)) ⟨eN _,by decide⟩,ia,cO hlt2,jJ,fE]
   rfl
  ·rw [f8 (dge hb2),hL]
   exact ⟨⟨k + 1,dj (by omega),hlt,(mB hlt).symm⟩,dQ hlt (by omega)⟩
 rw [f8 (dge hb)]
 clear hb hk
 refine ⟨fun x l=>∃ k:Nat,x=k /\ k <= a.ar.length /\ l=(a.ar.take k).flatMap fun x=>b.ar.flatMap fun y=>mN a b x y,fun x _=>a.ar.length - x.toNat,⟨0,rfl,cy _,rfl⟩,?_⟩
 have l2:∀ x y,(mN a b x y).length <= 2:=fun x y=>by unfold mN; split <;> simp
 rintro x l ⟨k,rfl,hk,rfl⟩
 refine ⟨fun hb=>?_,fun hb=>?_⟩
 ·have hlt:=dlt hb
  obtain ⟨x1,x2,x3⟩:=hA.steps _ (dK hlt)
  have hl1:((a.ar.take k).flatMap fun x=>b.ar.flatMap fun y=>mN a b x y).length <= 256 * 512:=dp (gU (n:=512) fun x _=>dp (gU (n:=2) fun y _=>l2 x y) (by omega)) (dL _ (by rw [eU]; omega))
  obtain ⟨L,hL⟩:∃ L,L=(a.ar.take k).flatMap fun x=>b.ar.flatMap fun y=>mN a b x y:=⟨_,rfl⟩
  rw [<- hL] at hl1 ⊢
  obtain ⟨xx,hxx⟩:∃ xx,xx=a.ar[k]:=⟨_,rfl⟩
  rw [<- hxx] at x1 x2 x3
  refine ⟨xx,by rw [hxx]; exact eP hlt,fun y m=>∃ j:Nat,y=j /\ j <= b.ar.length /\ m=L ++ (b.ar.take j).flatMap fun y=>mN a b xx y,fun y _=>b.ar.length - y.toNat,⟨0,rfl,cy _,by simp⟩,?_⟩
  rintro y m ⟨j,rfl,hj,rfl⟩
  refine ⟨fun hb2=>?_,fun hb2=>?_⟩
  rotate_left
  ·rw [f8 (dge hb2),hL]
   exact ⟨⟨k + 1,dj (by omega),hlt,by rw [mB hlt,<- hxx]⟩,dQ hlt (by omega)⟩
  have hlt2:=dlt hb2
  obtain ⟨y1,y2,y3⟩:=hB.steps _ (dK hlt2)
  have hl2:((b.ar.take j).flatMap fun y=>mN a b xx y).length <= 256 * 2:=dp (gU (n:=2) fun y _=>l2 _ y) (dL _ (by rw [eU]; omega))
  obtain ⟨L2,hL2⟩:∃ L2,L2=(b.ar.take j).flatMap fun y=>mN a b xx y:=⟨_,rfl⟩
  obtain ⟨yy,hyy⟩:∃ yy,yy=b.ar[j]:=⟨_,rfl⟩
  rw [<- hL2] at hl2 ⊢
  rw [<- hyy] at y1 y2 y3
  refine ⟨fun m=>m=L ++ L2 ++ mN a b xx yy,⟨yy,by rw [hyy]; exact eP hlt2,fun he=>?_,fun he=>?_⟩,?_⟩
  ·show _=_
   have he:xx.az ≠ yy.az:=by simpa using he
   unfold mN
   rw [if_pos he,List.append_nil]
  ·have he:xx.az=yy.az:=by simpa using he
   have e2:mN a b xx yy=[xL a b xx yy 0,xL a b xx yy 1]:=by unfold mN; rw [if_neg (by simp [he])]
   refine ⟨fun t m=>∃ i:Nat,t=i /\ i <= 2 /\ m=L ++ L2 ++ (mN a b xx yy).take i,fun t _=>2 - t.toNat,⟨0,rfl,cy _,by simp⟩,?_⟩
   rintro t m ⟨i,rfl,hi,rfl⟩
   refine ⟨fun hb3=>?_,fun hb3=>?_⟩
   rotate_left
   ·have hb3:=cx hb3
    obtain rfl:i=2:=by omega
    show _=_
    rw [e2]
    rfl
   have hb3:=ca hb3
   have hi2:i=0 \/ i=1:=by omega
   have ht:(i:Int)=0 \/ (i:Int)=1:=by omega
   refine ⟨fun z=>z=lB a b xx yy i,⟨fun c=>c=((((i:Int) == 0) && a.av.contains xx.am) || (((i:Int) == 1) && b.av.contains yy.am)),⟨fun g=>⟨fun g2=>?_,fun g2=>⟨fun g3=>?_,fun g3=>?_⟩⟩,fun g=>⟨fun g3=>?_,fun g3=>?_⟩⟩,?_⟩,?_⟩
   ·show true=_
    rw [g,g2]
    rfl
   ·show _=_
    rw [g,g2,g3]
    rfl
   ·show false=_
    rw [g,g2,g3]
    rfl
   ·show _=_
    rw [g,g3]
    rfl
   ·show false=_
    rw [g,g3]
    rfl
   ·rintro _ rfl
    refine ⟨fun g=>?_,fun g=>?_⟩
    ·show wr (1 - (i:Int))=lB a b xx yy i
     unfold lB
     rw [if_pos g,bL (by omega) (by omega)]
    ·show (i:Int)=lB a b xx yy i
     unfold lB
     rw [if_neg (by rw [g]; decide)]
   rintro _ rfl
   refine ⟨trivial,trivial,eI ?_,⟨i + 1,dj (by omega),by omega,?_⟩,dQ (by omega) (by omega)⟩
   ·simp only [di,eU,dq,dI,e2]
    omega
   ·rw [hat _ _ _ x1 y1 (by omega),hat _ _ _ x2 y2 (m5 ht),fE]
    congr 1
    rw [e2]
    rcases hi2 with rfl | rfl <;> rfl
  ·rintro _ rfl
   refine ⟨⟨j + 1,dj (by omega),hlt2,?_⟩,dQ hlt2 (by omega)⟩
   rw [mB hlt2,<- hyy,<- hL2,fE]
 rw [f8 (dge hb)]
 clear hb hk
 refine ⟨fun x l=>∃ k:Nat,x=k /\ k <= a.av.length /\ l=(a.av.take k).flatMap fun p=>(List.range b.ac.toNat).map fun (q:Nat)=>atI b.ac p (q:Int) 0,fun x _=>a.av.length - x.toNat,⟨0,rfl,cy _,rfl⟩,?_⟩
 rintro x l ⟨k,rfl,hk,rfl⟩
 refine ⟨fun hb=>?_,fun hb=>?_⟩
 ·have hlt:=dlt hb
  have hp:=hA.final _ (dK hlt)
  have hl1:((a.av.take k).flatMap fun p=>(List.range b.ac.toNat).map fun (q:Nat)=>atI b.ac p (q:Int) 0).length <= 300 * 8:=dp (gU (n:=8) fun p _=>by rw [df,g8]; omega) (dL _ (by rw [eU]; omega))
  obtain ⟨L,hL⟩:∃ L,L=(a.av.take k).flatMap fun p=>(List.range b.ac.toNat).map fun (q:Nat)=>atI b.ac p (q:Int) 0:=⟨_,rfl⟩
  rw [<- hL] at hl1 ⊢
  refine ⟨_,eP hlt,fun y m=>∃ j:Nat,y=j /\ j <= b.ac.toNat /\ m=L ++ (List.range j).map fun (q:Nat)=>atI b.ac a.av[k] (q:Int) 0,fun y _=>b.ac.toNat - y.toNat,⟨0,rfl,cy _,by simp⟩,?_⟩
  rintro y m ⟨j,rfl,hj,rfl⟩
  refine ⟨fun hb2=>?_,fun hb2=>?_⟩
  ·have hlt2:=ca hb2
   refine ⟨trivial,eI (by simp only [di,df,g8,dq,dI]; omega),⟨j + 1,dj (by omega),by omega,?_⟩,dQ (by omega) (by omega)⟩
   rw [hat _ _ _ hp ⟨by omega,hlt2⟩ ⟨eN _,by decide⟩,List.range_succ,jJ,fE]
   rfl
  ·have hb2:=cx hb2
   obtain rfl:j=b.ac.toNat:=by omega
   rw [hL]
   exact ⟨⟨k + 1,dj (by omega),hlt,(mB hlt).symm⟩,dQ hlt (by omega)⟩
 rw [f8 (dge hb)]
 have rs:Ris (vj a b):=Ab hA.rs hB.rs fun q hq=>hB.start q hq
 have rf:Ris (pn a b):=by
  rw [FC]
  refine Ab hA.rf (Ev _) fun q hq=>?_
  obtain ⟨z,hz,rfl⟩:=cP.1 hq
  have:=d6.1 hz
  omega
 have nd:=zg hA hB
 have e1:(vj a b).length <= 300 * 300:=dp (gU (n:=300) fun p _=>by rw [df]; exact lb) (dL _ la)
 have e2:(pn a b).length <= 300 * 8:=dp (gU (n:=8) fun p _=>by rw [df,g8]; omega) (dL _ lf)
 have e3:(vi a b).length <= 256 * 512:=dp (gU (n:=512) fun x _=>dp (gU (n:=2) fun y _=>l2 x y) (by omega)) (dL _ h3)
 refine ⟨⟨rs,rf,by show (vj a b).length <= _; omega,by show (pn a b).length <= _; omega,by show (vi a b).length <= _; omega,nd⟩,fun r hr _=>⟨⟨hA,hB,hs,sa,sb⟩,?_,rs,rf⟩⟩
 have hm:2 * a.ac * b.ac <= 2 * a.ac * 8:=rt sb (by omega)
 have hm0:0 <= 2 * a.ac * b.ac:=mi (by omega) (by omega)
 rw [bL (n:=2 * a.ac) (by omega) (by omega),bL (by omega) (by omega)] at hr
 exact hr
structure zO (p:bF):Prop where
 st:1 <= p.au.ac /\ p.au.ac <= 4
 len:(p.aa.length:Int)=p.au.ac * (p.aB.aa.length:Int)
 size:p.aB.aa.length <= 20000
 marks:p.aB.ay.length=p.aB.aa.length
 next:∀ row ∈ p.aa,∀ e ∈ row,0 <= e.aj /\ e.aj < (p.aa.length:Int)
 rows:∀ row ∈ p.aa,row.length <= 1000000000
def InP (p:bF) (x:Int):Prop:=zO p /\ 0 <= x /\ x < (p.aa.length:Int)
def mkP (p:bF) (x:Int):Int:=p.aB.ay.getD (Int.tdiv x p.au.ac).toNat 0
def jS (p:bF) (f x:Int):Bool:=Int.tmod x p.au.ac == f
open Classical in
def ji (p:bF) (x y:Int) (may:Int -> Bool):Bool:=decide (∃ w,PWk p may x w y)
theorem zO.path {p:bF} (h:zO p) {l:List Int} (hl:∀ q ∈ l,0 <= q /\ q < (p.aa.length:Int)) (hf:l.length <= 1000000) {dm dk:Int -> Prop} (hd:∀ q,0 <= q /\ q < (p.aa.length:Int) -> dm q /\ dk q):hY p l dm dk:=by
 refine ⟨?_,h.next,h.rows,hl,hf,hd⟩
 have h1:=h.len
 have h2:=h.st
 have h3:=h.size
 have h4:p.au.ac * (p.aB.aa.length:Int) <= 4 * 20000:=Int.mul_le_mul (by omega) (by omega) (by omega) (by omega)
 omega
theorem PWk.in_ {p:bF} {may:Int -> Bool} (hn:∀ row ∈ p.aa,∀ e ∈ row,0 <= e.aj /\ e.aj < (p.aa.length:Int)) {x y:Int} {w:List Int} (h:PWk p may x w y):0 <= y /\ y < (p.aa.length:Int):=by
 cases h with
 | one a _=>exact a.in_ hn
 | step _ a _=>exact a.in_ hn
def MI (p:bF) (x:Int):Prop:=∃ s ∈ p.au.af,x=p.aB.af * p.au.ac + s \/ ∃ w,PWk p (fun _=>true) (p.aB.af * p.au.ac + s) w x
def Im (p:bF) (m:Int) (r:bt × Bool):Prop:=r.2=true -> ∃ x:Nat,mkP p x=m /\ MI p x /\ ∃ y f,f ∈ p.au.av /\ jS p f y=true /\ (y=(x:Int) \/ ∃ w,PWk p (fun x=>decide (mkP p x >= m)) x w y) /\ ∃ w,PWk p (fun x=>decide (mkP p x >= m)) y w x
def zK (p:bF):Prop:=zO p /\ (0 <= p.aB.af /\ p.aB.af < (p.aB.aa.length:Int)) /\ (∀ q ∈ p.au.af,0 <= q /\ q < p.au.ac) /\ p.au.af.length <= 1000 /\ (∀ q ∈ p.au.av,0 <= q /\ q < p.au.ac) /\ p.au.av.length <= 1000
theorem InP.div {p:bF} {x:Int} (h:InP p x):0 <= Int.tdiv x p.au.ac /\ Int.tdiv x p.au.ac < (p.aB.aa.length:Int):=by
 obtain ⟨h0,h1,h2⟩:=h
 have hs:=h0.st
 have hl:=h0.len
 rw [nN h1]
 exact ⟨Int.ediv_nonneg h1 (by omega),Int.ediv_lt_of_lt_mul (by omega) (by rw [Int.mul_comm,<- hl]; exact h2)⟩
def Ga (x:Int) (y:Int) (Q:Bool -> Prop):Prop:=
 Q (x == y)
theorem F9 (x:Int) (y:Int) (Q:Bool -> Prop) (h:Ga x y Q):Ct 70 [.sv (.one (I x)), .sv (.one (.ptr 0 0))] [.box [I y] 3 true] Q (fun (r:Bool)=>.sv (.one (B r))):=by
 have ht:=bA
 refine Ct.body Tryz.func70 rfl rfl rfl rfl (fun c hn=>?_)
 unfold Ga at h
 refine bk hn ?_
 exact cD hn (x == y) h
theorem Nf : ∀ args w,(callFunc 70 args).run Tryz.prog w=.ok (.enter 70 args) w:=enters_of Tryz.func70 (by kernel_rfl) rfl
theorem K3 (x:Int) (y:Int)  : Ct 70 [.sv (.one (I x)), .sv (.one (.ptr 0 0))] [.box [I y] 3 true] (fun (_:Unit)=>True) (fun _=>.sv (.one (B (x == y)))):=by
 refine (F9 x y (fun res_=>res_=(x == y)) ?_).fun
 rfl
def xy (p:bF) (x:Int) (y:Int) (dommay:(Int -> Prop)) (may:(Int -> Bool)) (Q:Bool -> Prop):Prop:=
 (hY p ([x]:List Int) dommay (fun _=>True)) /\
 ∀ r:((List Int) × Int × Bool),(oI p ([x]:List Int) may (fun x=>x == y)) r ->
 (Q r.2.2)
abbrev Li (p:bF):=([bg 13 (.pe (eu (.agg [I p.au.ae,I p.au.ac,LS aZ p.au.af,LS aY.ty p.au.ar,LS aZ p.au.av,I p.aB.ae,I p.aB.af,LS (cB aZ) p.aB.aa,LS aZ p.aB.ay,LS (cB cm.ty) p.aa])) 10)]:List (Nat × SC))
theorem DU (p:bF) (x:Int) (y:Int) (dommay:(Int -> Prop)) (may:(Int -> Bool)) (Q:Bool -> Prop) (h:xy p x y dommay may Q):Ct 45 [.sv (.one (.pe (eu (.agg [I p.au.ae,I p.au.ac,LS aZ p.au.af,LS aY.ty p.au.ar,LS aZ p.au.av,I p.aB.ae,I p.aB.af,LS (cB aZ) p.aB.aa,LS aZ p.aB.ay,LS (cB cm.ty) p.aa])) 10)), .sv (.one (I x)), .sv (.one (I y)), .sv (.one (fv2 dommay may))] [] Q (fun (r:Bool)=>.sv (.one (B r))):=by
 have ht:=bA
 refine Ct.body Tryz.func45 rfl rfl rfl rfl (fun c hn=>?_)
 unfold xy at h
 refine bk hn ?_
 refine bp (bC ht hn 2 ⟨sl 3 (fv2 dommay may) :: bu 6 0 0 :: ba 14 x :: (Li p),[.box [I y] 3 false]⟩ ?_)
 refine dg (K:=[]) (p:=some (1,bf 3 aZ ([x]:List Int))) hn (by rfl) (lI (T:=aZ) ([x]:List Int) 1 rfl) (by rfl) (by rfl) (by rfl) ?_
 refine bC ht hn 2 ⟨bx 15 1 :: bg 16 (fv2 dommay may) :: bg 17 (.fn 70 [0]) :: (Li p),[.box [I y] 3 false,bf 3 aZ ([x]:List Int)]⟩ ?_
 refine dE (T:=aZ) (l:=([x]:List Int)) (e:=3) 1 rfl ?_
 refine bC ht hn 0 ⟨sl 15 (LS aZ ([x]:List Int)) :: bg 16 (fv2 dommay may) :: bg 17 (.fn 70 [0]) :: (Li p),[.box [I y] 3 false, .gone]⟩ ?_
 refine iu [0] (by rfl) ?_
 refine gX 17 (o1 (fv3 (fun _=>True) (fun x=>x == y))) (by rfl) (gV (M:=[.box [I y] 3 true]) (caps:=[0]) (fun x_ _=>K3 x_ y) Nf rfl (by kernel_rfl) (by rfl) (fun _=>rfl)) ?_
 obtain ⟨hp,h⟩:=h
 refine fw (Q:=oI p ([x]:List Int) may (fun x=>x == y)) (x:=fun (r:((List Int) × Int × Bool))=>.tup [.one (.own 2), .one (I r.2.1), .one (B r.2.2)]) (p:=fun r=>some (2,bf 3 aZ r.1)) hn (by rfl) (n3 2 (tj p ([x]:List Int) dommay may (fun _=>True) (fun x=>x == y) hp) J9 (caps:=[]) [] (fun _=>rfl) (fun _=>rfl) rfl (by rfl) (by kernel_rfl) (by kernel_rfl) (by rfl) (by rfl)) (fun r hr_2=>⟨by rfl,_,by rfl,?_⟩)
 replace h:=h r hr_2
 refine bM hn ?_
 exact cD hn r.2.2 h
theorem NA : ∀ args w,(callFunc 45 args).run Tryz.prog w=.ok (.enter 45 args) w:=enters_of Tryz.func45 (by kernel_rfl) rfl
theorem IB (p:bF) (x:Int) (y:Int) (dommay:(Int -> Prop)) (may:(Int -> Bool)) (hp:hY p [x] dommay (fun _=>True))  : Ct 45 [.sv (.one (.pe (eu (.agg [I p.au.ae,I p.au.ac,LS aZ p.au.af,LS aY.ty p.au.ar,LS aZ p.au.av,I p.aB.ae,I p.aB.af,LS (cB aZ) p.aB.aa,LS aZ p.aB.ay,LS (cB cm.ty) p.aa])) 10)), .sv (.one (I x)), .sv (.one (I y)), .sv (.one (fv2 dommay may))] [] (fun (_:Unit)=>True) (fun _=>.sv (.one (B (ji p x y may)))):=by
 refine (DU p x y dommay may (fun res_=>res_=(ji p x y may)) ?_).fun
 classical
 unfold xy
 refine ⟨hp,fun r hr=>?_⟩
 show r.2.2=ji p x y may
 unfold ji
 cases c:r.2.2 with
 | true =>
  obtain ⟨f,hf,hw,he⟩:=hr.1 c
  have hf:=et.1 hf
  subst hf
  have he:r.2.1=y:=by simpa using he
  rw [he] at hw
  exact (decide_eq_true ⟨_,hw⟩).symm
 | false =>
  refine (decide_eq_false fun ⟨w,hw⟩=>?_).symm
  have:=hr.2.1 c x (et.2 rfl) w y hw
  simp at this
def Bi (x:Int) (p:bF) (Q:Int -> Prop):Prop:=
 (p.au.ac ≠ 0) /\
 ∃ e,cq p.aB.ay (wr (Int.tdiv x p.au.ac))=some e /\
 Q e
abbrev vG (p:bF):=(eu (.agg [I p.au.ae,I p.au.ac,LS aZ p.au.af,LS aY.ty p.au.ar,LS aZ p.au.av,I p.aB.ae,I p.aB.af,LS (cB aZ) p.aB.aa,LS aZ p.aB.ay,LS (cB cm.ty) p.aa]))
abbrev L4 (x:Int) (p:bF):=([bg 0 (I x),bg 1 (.ptr 0 0),bg 4 (.pe (vG p) 10),bg 5 (.pe (vG p) 10),bg 6 (.pe (eu (.agg [I p.aB.ae,I p.aB.af,LS (cB aZ) p.aB.aa,LS aZ p.aB.ay])) 4),bg 7 (.pe (eu (.one (LS aZ p.aB.ay))) 1),bg 8 (LS aZ p.aB.ay),bg 9 (I x),bg 10 (.pe (vG p) 10),bg 11 (.pe (vG p) 10)]:List (Nat × SC))
theorem F8 (x:Int) (p:bF) (Q:Int -> Prop) (h:Bi x p Q):Ct 38 [.sv (.one (I x)), .sv (.one (.ptr 0 0))] [.box [.pe (eu (.agg [I p.au.ae,I p.au.ac,LS aZ p.au.af,LS aY.ty p.au.ar,LS aZ p.au.av,I p.aB.ae,I p.aB.af,LS (cB aZ) p.aB.aa,LS aZ p.aB.ay,LS (cB cm.ty) p.aa])) 10] 47 true] Q (fun (r:Int)=>.sv (.one (I r))):=by
 have ht:=bA
 refine Ct.body Tryz.func38 rfl rfl rfl rfl (fun c hn=>?_)
 unfold Bi at h
 refine bp (cw ht hn 1 ⟨[ba 0 x,bu 1 0 0],[.box [.pe (vG p) 10] 47 true]⟩ ?_)
 refine bi (fU (by kernel_rfl) (by kernel_rfl) ?_)
 refine eV ht hn 2 ⟨[ba 0 x,bu 1 0 0,bg 4 (.pe (vG p) 10),bg 5 (.pe (vG p) 10)],[.box [.pe (vG p) 10] 47 true]⟩ (by kernel_rfl) ?_
 refine dr hn (by rfl) (rv (l:=[I p.au.ae,I p.au.ac,LS aZ p.au.af,LS aY.ty p.au.ar,LS aZ p.au.av,I p.aB.ae,I p.aB.af,LS (cB aZ) p.aB.aa,LS aZ p.aB.ay,LS (cB cm.ty) p.aa]) (r:=.agg [I p.aB.ae,I p.aB.af,LS (cB aZ) p.aB.aa,LS aZ p.aB.ay]) ht rfl) (by rfl) ?_
 refine dr hn (by rfl) (rv (l:=[I p.aB.ae,I p.aB.af,LS (cB aZ) p.aB.aa,LS aZ p.aB.ay]) (r:=.one (LS aZ p.aB.ay)) ht rfl) (by rfl) ?_
 refine dr hn (by rfl) (fQ (s:=.one (LS aZ p.aB.ay)) ht rfl) (by rfl) ?_
 refine eV ht hn 3 ⟨(L4 x p),[.box [.pe (vG p) 10] 47 true]⟩ (by kernel_rfl) ?_
 refine dr hn (by rfl) (rv (l:=[I p.au.ae,I p.au.ac,LS aZ p.au.af,LS aY.ty p.au.ar,LS aZ p.au.av,I p.aB.ae,I p.aB.af,LS (cB aZ) p.aB.aa,LS aZ p.aB.ay,LS (cB cm.ty) p.aa]) (r:=.agg (bd.cl p.au)) ht rfl) (by rfl) ?_
 refine dr hn (by rfl) (rv (l:=(bd.cl p.au)) (r:=.one (I p.au.ac)) ht rfl) (by rfl) ?_
 refine dr hn (by rfl) (fQ (s:=.one (I p.au.ac)) ht rfl) (by rfl) ?_
 have hz:=h.1
 replace h:=h.2
 refine dr hn (by rfl) (Cp (u:=x) (v:=p.au.ac) rfl (by rfl) (by rfl) hz (.inl ⟨rfl,rfl⟩)) (by rfl) ?_
 obtain ⟨e,he,h⟩:=h
 refine dr hn (by rfl) (gQ (T:=aZ) (l:=p.aB.ay) (i:=(wr (Int.tdiv x p.au.ac))) ht rfl he) (by rfl) ?_
 refine dr hn (by rfl) (fQ (s:=.one (I e)) ht rfl) (by rfl) ?_
 refine eV ht hn 1 ⟨ba 3 e :: bg 12 (.pe (eu (.agg (bd.cl p.au))) 5) :: bg 13 (.pe (eu (.one (I p.au.ac))) 1) :: ba 14 p.au.ac :: ba 15 (wr (Int.tdiv x p.au.ac)) :: bg 16 (.pe (eu (.one (I e))) 1) :: ba 17 e :: (L4 x p),[.box [.pe (vG p) 10] 47 true]⟩ (by kernel_rfl) ?_
 refine lu ⟨by kernel_rfl,?_⟩
 exact fL ht e h
theorem NF : ∀ args w,(callFunc 38 args).run Tryz.prog w=.ok (.enter 38 args) w:=enters_of Tryz.func38 (by kernel_rfl) rfl
theorem K2 (x:Int) (p:bF) (hd:InP p x):Ct 38 [.sv (.one (I x)), .sv (.one (.ptr 0 0))] [.box [.pe (eu (.agg [I p.au.ae,I p.au.ac,LS aZ p.au.af,LS aY.ty p.au.ar,LS aZ p.au.av,I p.aB.ae,I p.aB.af,LS (cB aZ) p.aB.aa,LS aZ p.aB.ay,LS (cB cm.ty) p.aa])) 10] 47 true] (fun (_:Unit)=>True) (fun _=>.sv (.one (I (mkP p x)))):=by
 refine (F8 x p (fun res_=>res_=(mkP p x)) ?_).fun
 unfold Bi
 obtain ⟨d0,d1⟩:=hd.div
 have hs:=hd.1.st
 have hz:=hd.1.size
 have hm:=hd.1.marks
 rw [bL (by omega) (by omega)]
 exact ⟨by omega,_,yG 0 d0 (by omega),rfl⟩
def F7 (x:Int) (dommark:(Int -> Prop)) (mark:(Int -> Int)) (m:Int) (Q:Bool -> Prop):Prop:=
 (dommark x) /\
 Q (decide ((mark x) >= m))
theorem F6 (x:Int) (dommark:(Int -> Prop)) (mark:(Int -> Int)) (m:Int) (Q:Bool -> Prop) (h:F7 x dommark mark m Q):Ct 39 [.sv (.one (I x)), .sv (.one (.ptr 0 0)), .sv (.one (.ptr 1 0))] [.box [fv8 dommark mark] 92 true, .box [I m] 3 true] Q (fun (r:Bool)=>.sv (.one (B r))):=by
 have ht:=bA
 refine Ct.body Tryz.func39 rfl rfl rfl rfl (fun c hn=>?_)
 unfold F7 at h
 refine bk hn ?_
 refine bi ?_
 obtain ⟨hp_2,h⟩:=h
 refine da ⟨[ba 0 x,bu 1 0 0,bu 2 1 0],[o1 (fv8 dommark mark),bq x,bq (mark x),bq m,cH (decide ((mark x) >= m)),cH (decide ((mark x) >= m))],[bU (.box [fv8 dommark mark] 92 true),bU (.box [I m] 3 true)]⟩ hn ?_ ?_
 exact ⟨.e,
 .e,
 .v (cV (ins:=(fun (x:Int)=>[bq x])) (out:=(fun (r:Int)=>.sv (.one (I r)))) (dom:=dommark) (φ:=mark) x hp_2 rfl),
 .e,
 .e,
 .e,
 trivial⟩
 exact fL ht (decide ((mark x) >= m)) h
theorem NE : ∀ args w,(callFunc 39 args).run Tryz.prog w=.ok (.enter 39 args) w:=enters_of Tryz.func39 (by kernel_rfl) rfl
theorem K1 (x:Int) (dommark:(Int -> Prop)) (mark:(Int -> Int)) (m:Int) (hd:dommark x):Ct 39 [.sv (.one (I x)), .sv (.one (.ptr 0 0)), .sv (.one (.ptr 1 0))] [.box [fv8 dommark mark] 92 true, .box [I m] 3 true] (fun (_:Unit)=>True) (fun _=>.sv (.one (B (decide (mark x >= m))))):=by
 refine (F6 x dommark mark m (fun res_=>res_=(decide (mark x >= m))) ?_).fun
 exact ⟨hd,rfl⟩
def F5 (x:Int) (Q:Bool -> Prop):Prop:=
 Q true
theorem F4 (x:Int) (Q:Bool -> Prop) (h:F5 x Q):Ct 40 [.sv (.one (I x))] [] Q (fun (r:Bool)=>.sv (.one (B r))):=by
 have ht:=bA
 refine Ct.body Tryz.func40 rfl rfl rfl rfl (fun c hn=>?_)
 unfold F5 at h
 refine bk hn ?_
 exact cD hn true h
theorem ND : ∀ args w,(callFunc 40 args).run Tryz.prog w=.ok (.enter 40 args) w:=enters_of Tryz.func40 (by kernel_rfl) rfl
theorem K0 (x:Int)  : Ct 40 [.sv (.one (I x))] [] (fun (_:Unit)=>True) (fun _=>.sv (.one (B (true)))):=by
 refine (F4 x (fun res_=>res_=(true)) ?_).fun
 rfl
def F3 (x:Int) (y:Int) (Q:Bool -> Prop):Prop:=
 Q (x == y)
theorem FZ (x:Int) (y:Int) (Q:Bool -> Prop) (h:F3 x y Q):Ct 42 [.sv (.one (I x)), .sv (.one (.ptr 0 0))] [.box [I y] 3 true] Q (fun (r:Bool)=>.sv (.one (B r))):=by
 have ht:=bA
 refine Ct.body Tryz.func42 rfl rfl rfl rfl (fun c hn=>?_)
 unfold F3 at h
 refine bk hn ?_
 exact cD hn (x == y) h
theorem NC : ∀ args w,(callFunc 42 args).run Tryz.prog w=.ok (.enter 42 args) w:=enters_of Tryz.func42 (by kernel_rfl) rfl
def FT (x:Int) (y:Int) (Q:Bool -> Prop):Prop:=
 Q (x == y)
theorem FS (x:Int) (y:Int) (Q:Bool -> Prop) (h:FT x y Q):Ct 46 [.sv (.one (I x)), .sv (.one (.ptr 0 0))] [.box [I y] 3 true] Q (fun (r:Bool)=>.sv (.one (B r))):=by
 have ht:=bA
 refine Ct.body Tryz.func46 rfl rfl rfl rfl (fun c hn=>?_)
 unfold FT at h
 refine bk hn ?_
 exact cD hn (x == y) h
theorem Nz : ∀ args w,(callFunc 46 args).run Tryz.prog w=.ok (.enter 46 args) w:=enters_of Tryz.func46 (by kernel_rfl) rfl
theorem KZ (x:Int) (y:Int)  : Ct 42 [.sv (.one (I x)), .sv (.one (.ptr 0 0))] [.box [I y] 3 true] (fun (_:Unit)=>True) (fun _=>.sv (.one (B (x == y)))):=by
 refine (FZ x y (fun res_=>res_=(x == y)) ?_).fun
 rfl
theorem KX (x:Int) (y:Int)  : Ct 46 [.sv (.one (I x)), .sv (.one (.ptr 0 0))] [.box [I y] 3 true] (fun (_:Unit)=>True) (fun _=>.sv (.one (B (x == y)))):=by
 refine (FS x y (fun res_=>res_=(x == y)) ?_).fun
 rfl
def FX (x:Int) (p:bF) (f:Int) (Q:Bool -> Prop):Prop:=
 (p.au.ac ≠ 0) /\
 Q ((Int.tmod x p.au.ac) == f)
abbrev Bz (p:bF):=(eu (.agg [I p.au.ae,I p.au.ac,LS aZ p.au.af,LS aY.ty p.au.ar,LS aZ p.au.av,I p.aB.ae,I p.aB.af,LS (cB aZ) p.aB.aa,LS aZ p.aB.ay,LS (cB cm.ty) p.aa]))
theorem FW (x:Int) (p:bF) (f:Int) (Q:Bool -> Prop) (h:FX x p f Q):Ct 43 [.sv (.one (I x)), .sv (.one (.ptr 0 0)), .sv (.one (.ptr 1 0))] [.box [.pe (eu (.agg [I p.au.ae,I p.au.ac,LS aZ p.au.af,LS aY.ty p.au.ar,LS aZ p.au.av,I p.aB.ae,I p.aB.af,LS (cB aZ) p.aB.aa,LS aZ p.aB.ay,LS (cB cm.ty) p.aa])) 10] 47 true, .box [I f] 3 true] Q (fun (r:Bool)=>.sv (.one (B r))):=by
 have ht:=bA
 refine Ct.body Tryz.func43 rfl rfl rfl rfl (fun c hn=>?_)
 unfold FX at h
 refine bp (cw ht hn 1 ⟨[ba 0 x,bu 1 0 0,bu 2 1 0],[.box [.pe (Bz p) 10] 47 true, .box [I f] 3 true]⟩ ?_)
 refine bi (fU (by kernel_rfl) (by kernel_rfl) ?_)
 refine eV ht hn 3 ⟨[ba 0 x,bu 1 0 0,bu 2 1 0,ba 5 x,bg 6 (.pe (Bz p) 10),bg 7 (.pe (Bz p) 10)],[.box [.pe (Bz p) 10] 47 true, .box [I f] 3 true]⟩ (by kernel_rfl) ?_
 refine dr hn (by rfl) (rv (l:=[I p.au.ae,I p.au.ac,LS aZ p.au.af,LS aY.ty p.au.ar,LS aZ p.au.av,I p.aB.ae,I p.aB.af,LS (cB aZ) p.aB.aa,LS aZ p.aB.ay,LS (cB cm.ty) p.aa]) (r:=.agg (bd.cl p.au)) ht rfl) (by rfl) ?_
 refine dr hn (by rfl) (rv (l:=(bd.cl p.au)) (r:=.one (I p.au.ac)) ht rfl) (by rfl) ?_
 refine dr hn (by rfl) (fQ (s:=.one (I p.au.ac)) ht rfl) (by rfl) ?_
 have hz:=h.1
 replace h:=h.2
 refine dr hn (by rfl) (Cp (u:=x) (v:=p.au.ac) rfl (by rfl) (by rfl) hz (.inr ⟨rfl,rfl⟩)) (by rfl) ?_
 refine eV ht hn 3 ⟨bG 4 ((Int.tmod x p.au.ac) == f) :: bg 8 (.pe (eu (.agg (bd.cl p.au))) 5) :: bg 9 (.pe (eu (.one (I p.au.ac))) 1) :: ba 10 p.au.ac :: ba 11 (Int.tmod x p.au.ac) :: ba 12 f :: bG 13 ((Int.tmod x p.au.ac) == f) :: [ba 0 x,bu 1 0 0,bu 2 1 0,ba 5 x,bg 6 (.pe (Bz p) 10),bg 7 (.pe (Bz p) 10)],[.box [.pe (Bz p) 10] 47 true, .box [I f] 3 true]⟩ (by kernel_rfl) ?_
 refine lu ⟨by kernel_rfl,?_⟩
 exact fL ht ((Int.tmod x p.au.ac) == f) h
theorem Mr : ∀ args w,(callFunc 43 args).run Tryz.prog w=.ok (.enter 43 args) w:=enters_of Tryz.func43 (by kernel_rfl) rfl
theorem FY (x:Int) (p:bF) (f:Int) (hd:p.au.ac ≠ 0):Ct 43 [.sv (.one (I x)), .sv (.one (.ptr 0 0)), .sv (.one (.ptr 1 0))] [.box [.pe (eu (.agg [I p.au.ae,I p.au.ac,LS aZ p.au.af,LS aY.ty p.au.ar,LS aZ p.au.av,I p.aB.ae,I p.aB.af,LS (cB aZ) p.aB.aa,LS aZ p.aB.ay,LS (cB cm.ty) p.aa])) 10] 47 true, .box [I f] 3 true] (fun (_:Unit)=>True) (fun _=>.sv (.one (B (jS p f x)))):=by
 refine (FW x p f (fun res_=>res_=(jS p f x)) ?_).fun
 exact ⟨hd,rfl⟩
def Bh (x:Int) (domgood:(Int -> Prop)) (good:(Int -> Bool)) (p:bF) (at_:Int) (dommay:(Int -> Prop)) (may:(Int -> Bool)) (Q:Bool -> Prop):Prop:=
 ∃ J:Bool -> Prop,((domgood x) /\
 cv (good x) ((hY p [x] dommay (fun _=>True)) /\
 J (ji p x at_ may)) (J false)) /\
 (∀ x6,J x6 -> Q x6)
theorem FU (x:Int) (domgood:(Int -> Prop)) (good:(Int -> Bool)) (p:bF) (at_:Int) (dommay:(Int -> Prop)) (may:(Int -> Bool)) (Q:Bool -> Prop) (h:Bh x domgood good p at_ dommay may Q):Ct 44 [.sv (.one (I x)), .sv (.one (.ptr 0 0)), .sv (.one (.ptr 1 0)), .sv (.one (.ptr 2 0)), .sv (.one (.ptr 3 0))] [.box [fv2 domgood good] 66 true, .box [.pe (eu (.agg [I p.au.ae,I p.au.ac,LS aZ p.au.af,LS aY.ty p.au.ar,LS aZ p.au.av,I p.aB.ae,I p.aB.af,LS (cB aZ) p.aB.aa,LS aZ p.aB.ay,LS (cB cm.ty) p.aa])) 10] 47 true, .box [I at_] 3 true, .box [fv2 dommay may] 66 true] Q (fun (r:Bool)=>.sv (.one (B r))):=by
 have ht:=bA
 refine Ct.body Tryz.func44 rfl rfl rfl rfl (fun c hn=>?_)
 unfold Bh at h
 refine bk hn ?_
 obtain ⟨J,h,hJ⟩:=h
 refine bS (σ:=Bool) (fun zz=>J zz) (fun zz=>⟨[bG 6 zz],[.gone, .gone, .gone, .gone]⟩) ?_ ?_
 refine bI (bC ht hn 2 ⟨[ba 0 x,bu 2 1 0,bu 3 2 0,bu 4 3 0,bg 7 (fv2 domgood good),ba 8 x],[.gone, .box [.pe (eu (.agg [I p.au.ae,I p.au.ac,LS aZ p.au.af,LS aY.ty p.au.ar,LS aZ p.au.av,I p.aB.ae,I p.aB.af,LS (cB aZ) p.aB.aa,LS aZ p.aB.ay,LS (cB cm.ty) p.aa])) 10] 47 true, .box [I at_] 3 true, .box [fv2 dommay may] 66 true]⟩ ?_)
 obtain ⟨hp,h⟩:=h
 refine i9 hn (fG x hp rfl (by rfl) (by rfl) (by rfl) (by rfl)) ?_
 refine cN hn 1 ?_
 refine cz (good x) (fun hb=>?_) (fun hb=>?_)
 replace h:=h.1 hb
 refine cf 10 hb ?_
 refine cN hn 4 ?_
 obtain ⟨hp,h⟩:=h
 refine fK hn (cL (IB p x at_ dommay may hp) NA rfl) ?_
 refine bM hn ?_
 exact bZ (ji p x at_ may) h
 replace h:=h.2 hb
 refine cf 10 hb ?_
 refine bM hn ?_
 exact bZ false h
 intro x6 h
 replace h:=hJ _ h
 exact fL ht x6 h
theorem NB : ∀ args w,(callFunc 44 args).run Tryz.prog w=.ok (.enter 44 args) w:=enters_of Tryz.func44 (by kernel_rfl) rfl
theorem KY (x:Int) (domgood:(Int -> Prop)) (good:(Int -> Bool)) (p:bF) (at_:Int) (dommay:(Int -> Prop)) (may:(Int -> Bool)) (hd:domgood x /\ hY p [x] dommay (fun _=>True)):Ct 44 [.sv (.one (I x)), .sv (.one (.ptr 0 0)), .sv (.one (.ptr 1 0)), .sv (.one (.ptr 2 0)), .sv (.one (.ptr 3 0))] [.box [fv2 domgood good] 66 true, .box [.pe (eu (.agg [I p.au.ae,I p.au.ac,LS aZ p.au.af,LS aY.ty p.au.ar,LS aZ p.au.av,I p.aB.ae,I p.aB.af,LS (cB aZ) p.aB.aa,LS aZ p.aB.ay,LS (cB cm.ty) p.aa])) 10] 47 true, .box [I at_] 3 true, .box [fv2 dommay may] 66 true] (fun (_:Unit)=>True) (fun _=>.sv (.one (B (good x && ji p x at_ may)))):=by
 refine (FU x domgood good p at_ dommay may (fun res_=>res_=(good x && ji p x at_ may)) ?_).fun
 unfold Bh
 refine ⟨fun b=>b=(good x && ji p x at_ may),⟨hd.1,fun h=>⟨hd.2,?_⟩,fun h=>?_⟩,fun b hb=>hb⟩
 ·rw [h]
  rfl
 ·rw [h]
  rfl
def xA (p:bF) (m:Int) (Q:(bt × Bool) -> Prop):Prop:=
 ∃ (Inv:Int -> (List Int) -> Prop) (mu:Int -> (List Int) -> Nat),Inv 0 ([]:List Int) /\
 ∀ x32 l5,Inv x32 l5 -> (cv (decide (x32 < (p.au.af.length:Int))) (∃ e,cq p.au.af x32=some e /\
 ed l5.length ([(wr ((wr (p.aB.af * p.au.ac)) + e))]:List Int).length 8 /\
 (Inv (wr (x32 + 1)) (l5 ++ ([(wr ((wr (p.aB.af * p.au.ac)) + e))]:List Int)) /\ mu (wr (x32 + 1)) (l5 ++ ([(wr ((wr (p.aB.af * p.au.ac)) + e))]:List Int)) < mu x32 l5)) (∃ (Inv_2:Int -> Prop) (mu_2:Int -> Nat),Inv_2 0 /\
 ∀ x58,Inv_2 x58 -> (cv (decide (x58 < (p.aa.length:Int))) (∃ J:Prop,(((InP p) x58) /\
 cv (((mkP p) x58) != m) (J) (∃ J_2:Bool -> (List Int) -> Prop,(cv (!(l5.contains x58)) ((hY p l5 (fun _=>True) (fun _=>True)) /\
 ∀ r:((List Int) × Int × Bool),(oI p l5 (fun (_:Int)=>true) (fun x=>x == x58)) r ->
 (J_2 r.2.2 r.1)) (J_2 (l5.contains x58) ([]:List Int))) /\
 (∀ x14 l7,J_2 x14 l7 -> cv (!x14) (J) (∃ (Inv_3:Int -> Prop) (mu_3:Int -> Nat),Inv_3 0 /\
 ∀ x88,Inv_3 x88 -> (cv (decide (x88 < (p.au.av.length:Int))) (∃ J_3:Prop,(∃ e_2,cq p.au.av x88=some e_2 /\
 ∃ J_4:Int -> (List Int) -> Prop,(((fun (_:Int)=>(p).au.ac ≠ 0) x58) /\
 cv (!((jS p e_2) x58)) ((hY p ([x58]:List Int) (InP p) (fun x=>(fun (_:Int)=>(p).au.ac ≠ 0) x /\ hY p [x] (InP p) (fun _=>True))) /\
 ∀ r_2:((List Int) × Int × Bool),(oI p ([x58]:List Int) (fun x=>decide ((mkP p) x >= m)) (fun x=>(jS p e_2) x && ji p x x58 (fun x=>decide ((mkP p) x >= m)))) r_2 ->
 (cv (!r_2.2.2) (J_3) (J_4 r_2.2.1 r_2.1))) (J_4 x58 ([]:List Int))) /\
 (∀ x19 l11,J_4 x19 l11 -> (hY p ([x19]:List Int) (InP p) (fun _=>True)) /\
 ∀ r_3:((List Int) × Int × Bool),(oI p ([x19]:List Int) (fun x=>decide ((mkP p) x >= m)) (fun x=>x == x58)) r_3 ->
 (cv r_3.2.2 (ed l11.length (r_3.1:List Int).length 8 /\
 Q ((bt.mk l7 (l11 ++ r_3.1)),true)) (J_3)))) /\
 (J_3 -> (Inv_3 (wr (x88 + 1)) /\ mu_3 (wr (x88 + 1)) < mu_3 x88))) (J)))))) /\
 (J -> (Inv_2 (wr (x58 + 1)) /\ mu_2 (wr (x58 + 1)) < mu_2 x58))) (Q ((bt.mk [] []),false)))))
abbrev nk (p:bF):=(eu (.agg [I p.au.ae,I p.au.ac,LS aZ p.au.af,LS aY.ty p.au.ar,LS aZ p.au.av,I p.aB.ae,I p.aB.af,LS (cB aZ) p.aB.aa,LS aZ p.aB.ay,LS (cB cm.ty) p.aa]))
abbrev uq (p:bF) (y0) (y1) (y2):=([bg 2 (.ptr 0 0),bg 3 (.ptr 1 0),bg 4 (.ptr 2 0),bg 6 (.ptr 3 0),bg 7 (.ptr 4 0),bg 8 (LS aZ y0),bg 11 (.fn 40 []),bg 12 (.ptr 6 0),bg 13 (.own 7),bg 57 (I (p.aa.length:Int)),bg 58 (I y1),bg 86 (LS aZ p.au.av),bg 87 (I (p.au.av.length:Int)),bg 88 (I y2)]:List (Nat × SC))
abbrev jg := (.box [.v (.slice none 0 0), .v (.slice none 0 0)] 27 false:br)
abbrev lM (p:bF) (m:Int):=(.box [fv3 (InP p) (fun x=>decide ((mkP p) x >= m))] 66 true:br)
abbrev Af := ([bg 2 (.ptr 0 0),bg 3 (.ptr 1 0),bg 4 (.ptr 2 0),bg 6 (.ptr 3 0),bg 7 (.ptr 4 0)]:List (Nat × SC))
abbrev lL (p:bF):=(.box [JZ (InP p) (mkP p)] 92 true:br)
abbrev kr (p:bF):=(.box [.pe (nk p) 10] 47 true:br)
abbrev yc (p:bF) (y0:Int):=(wr ((wr (p.aB.af * p.au.ac)) + y0))
abbrev yb (p:bF):=sl 57 (I (p.aa.length:Int))
abbrev lK (m:Int):=(.box [I m] 3 true:br)
abbrev uo := (.box [.fn 43 [0,8]] 66 false:br)
abbrev jy (y0):=(.box [I y0] 3 true:br)
abbrev KE (y0) (y1):=([.gone, .gone,(jg), .gone, .gone, .gone, .gone,bf 3 aZ y0, .gone, .gone, .gone,bf 3 aZ y1, .gone, .gone]:List br)
abbrev pD := sl 11 (.fn 40 [])
set_option maxHeartbeats 2000000 in
theorem DW (p:bF) (m:Int) (Q:(bt × Bool) -> Prop) (h:xA p m Q):Ct 13 [.sv (.one (.pe (eu (.agg [I p.au.ae,I p.au.ac,LS aZ p.au.af,LS aY.ty p.au.ar,LS aZ p.au.av,I p.aB.ae,I p.aB.af,LS (cB aZ) p.aB.aa,LS aZ p.aB.ay,LS (cB cm.ty) p.aa])) 10)), .sv (.one (I m))] [] Q (fun (r:(bt × Bool))=>.tup [.agg [LS aZ r.1.aG,LS aZ r.1.aD], .one (B r.2)]):=by
 have ht:=bA
 refine Ct.body Tryz.func13 rfl rfl rfl rfl (fun c hn=>?_)
 unfold xA at h
 refine bk hn ?_
 refine bk hn ?_
 refine bk hn ?_
 refine bk hn ?_
 refine bi (bp (cN hn 2 ?_))
 refine bT hn (aB (l:=[I p.au.ae,I p.au.ac,LS aZ p.au.af,LS aY.ty p.au.ar,LS aZ p.au.av,I p.aB.ae,I p.aB.af,LS (cB aZ) p.aB.aa,LS aZ p.aB.ay,LS (cB cm.ty) p.aa]) (r:=.agg (bd.cl p.au)) rfl) ?_
 refine bT hn (aB (l:=(bd.cl p.au)) (r:=.one (LS aZ p.au.af)) rfl) ?_
 refine bT hn (lD (s:=.one (LS aZ p.au.af)) rfl) ?_
 refine cw ht hn 2 ⟨sl 8 (.v (.slice none 0 0)) :: bg 30 (LS aZ p.au.af) :: ba 31 (p.au.af.length:Int) :: ba 32 0 :: Af,[.box [.pe (nk p) 10] 47 false, .box [I m] 3 false,jg, .box [.fn 38 [0]] 92 false, .box [.fn 39 [3,1]] 66 false]⟩ ?_
 refine bj (iw 8 5 3 aZ (by rfl) (by rfl) ?_)
 refine dV h (fun zz=>⟨[bu 2 0 0,bu 3 1 0,bu 4 2 0,bu 6 3 0,bu 7 4 0,bx 8 5,bg 30 (LS aZ p.au.af),ba 31 (p.au.af.length:Int),ba 32 zz.1],[.box [.pe (nk p) 10] 47 false, .box [I m] 3 false,jg, .box [.fn 38 [0]] 92 false, .box [.fn 39 [3,1]] 66 false,bf 3 aZ zz.2]⟩) fun Inv mu x32 l5 h=>?_
 refine bk hn ?_
 refine bi (bv h (fun h=>?_) (fun h=>?_))
 refine bn (bi (bj (bp ?_)))
 obtain ⟨e,he,h⟩:=h
 refine bT hn (iX (T:=aZ) rfl he) ?_
 refine bT hn (lD (s:=.one (I e)) rfl) ?_
 refine bM hn ?_
 obtain ⟨hp_2,h⟩:=h
 refine da ⟨bx 8 5 :: ba 10 e :: bg 30 (LS aZ p.au.af) :: ba 31 (p.au.af.length:Int) :: ba 32 x32 :: Af,[cu 5,o1 (.pe (nk p) 10),o1 (.pe (nk p) 10),o1 (.pe (eu (.agg [I p.aB.ae,I p.aB.af,LS (cB aZ) p.aB.aa,LS aZ p.aB.ay])) 4),o1 (.pe (eu (.one (I p.aB.af))) 1),bq p.aB.af,o1 (.pe (nk p) 10),o1 (.pe (nk p) 10),o1 (.pe (eu (.agg (bd.cl p.au))) 5),o1 (.pe (eu (.one (I p.au.ac))) 1),bq p.au.ac,bq (wr (p.aB.af * p.au.ac)),bq e,bq (yc p e),o1 (LS aZ ([yc p e]:List Int)),cu 6,cu 6],[bU (.box [.pe (nk p) 10] 47 false),bU (.box [I m] 3 false),bU (jg),bU (.box [.fn 38 [0]] 92 false),bU (.box [.fn 39 [3,1]] 66 false),⟨bf 3 aZ l5,none,some 15,none⟩,⟨bf 3 aZ (l5 ++ ([yc p e]:List Int)),some 15,none,none⟩]⟩ hn ?_ ?_
 exact ⟨.e,
 .e,
 .e,
 .v (bX (aB (l:=[I p.au.ae,I p.au.ac,LS aZ p.au.af,LS aY.ty p.au.ar,LS aZ p.au.av,I p.aB.ae,I p.aB.af,LS (cB aZ) p.aB.aa,LS aZ p.aB.ay,LS (cB cm.ty) p.aa]) (r:=.agg [I p.aB.ae,I p.aB.af,LS (cB aZ) p.aB.aa,LS aZ p.aB.ay]) rfl)),
 .v (bX (aB (l:=[I p.aB.ae,I p.aB.af,LS (cB aZ) p.aB.aa,LS aZ p.aB.ay]) (r:=.one (I p.aB.af)) rfl)),
 .v (bX (lD (s:=.one (I p.aB.af)) rfl)),
 .e,
 .e,
 .v (bX (aB (l:=[I p.au.ae,I p.au.ac,LS aZ p.au.af,LS aY.ty p.au.ar,LS aZ p.au.av,I p.aB.ae,I p.aB.af,LS (cB aZ) p.aB.aa,LS aZ p.aB.ay,LS (cB cm.ty) p.aa]) (r:=.agg (bd.cl p.au)) rfl)),
 .v (bX (aB (l:=(bd.cl p.au)) (r:=.one (I p.au.ac)) rfl)),
 .v (bX (lD (s:=.one (I p.au.ac)) rfl)),
 .e,
 .e,
 .e,
 .mt ⟨[ba 49 (yc p e)],[]⟩ [] none (by kernel_rfl) (by rfl) (jV (q:=6) (e:=3) (lI (T:=aZ) ([yc p e]:List Int) 6 rfl)) rfl rfl rfl rfl,
 .mt ⟨[bx 36 5,bg 50 (LS aZ ([yc p e]:List Int))],[.gone, .gone, .gone, .gone, .gone,bf 3 aZ l5]⟩ [5] (some 6) (by kernel_rfl) (by rfl) (aP (T:=aZ) (l:=l5) (es:=([yc p e]:List Int)) (p:=6) rfl hp_2) rfl rfl rfl rfl,
 .e,
 trivial⟩
 refine bI (cw ht hn 2 ⟨bx 8 6 :: bg 30 (LS aZ p.au.af) :: ba 31 (p.au.af.length:Int) :: ba 32 (wr (x32 + 1)) :: Af,[.box [.pe (nk p) 10] 47 false, .box [I m] 3 false,jg, .box [.fn 38 [0]] 92 false, .box [.fn 39 [3,1]] 66 false, .gone,bf 3 aZ (l5 ++ ([yc p e]:List Int))]⟩ ?_)
 refine kV 6 5 (by rfl) (by rfl) ?_
 exact bZ ((wr (x32 + 1)),(l5 ++ ([yc p e]:List Int))) h
 refine bD rfl (bk hn ?_)
 refine bi (bp (cN hn 2 ?_))
 refine bT hn (aB (l:=[I p.au.ae,I p.au.ac,LS aZ p.au.af,LS aY.ty p.au.ar,LS aZ p.au.av,I p.aB.ae,I p.aB.af,LS (cB aZ) p.aB.aa,LS aZ p.aB.ay,LS (cB cm.ty) p.aa]) (r:=.one (LS (cB cm.ty) p.aa)) rfl) ?_
 refine bT hn (lD (s:=.one (LS (cB cm.ty) p.aa)) rfl) ?_
 refine cw ht hn 2 ⟨bx 8 5 :: pD :: (yb p) :: ba 58 0 :: Af,[.box [.pe (nk p) 10] 47 false, .box [I m] 3 false,jg, .box [.fn 38 [0]] 92 false, .box [.fn 39 [3,1]] 66 false,bf 3 aZ l5]⟩ ?_
 refine bj (iz [0] (by rfl) ?_)
 refine iz [1] (by rfl) ?_
 refine iz [3] (by rfl) ?_
 refine iz [4] (by rfl) ?_
 refine iZ (T:=aZ) (l:=l5) (e:=3) 5 rfl ?_
 refine vz (JZ (InP p) (mkP p)) 3 0 (by rfl) (by rfl) (AK (gV (M:=[kr p]) (caps:=[0]) (fun x_ hx=>K2 x_ p hx) NF rfl (by kernel_rfl) (by rfl) (fun _=>rfl))) ?_
 refine vz (fv3 (InP p) (fun x=>decide ((mkP p) x >= m))) 4 0 (by rfl) (by rfl) (AK (gV (M:=[lL p,lK m]) (caps:=[3,1]) (fun x_ hx=>K1 x_ (InP p) (mkP p) m hx) NE rfl (by kernel_rfl) (by rfl) (fun _=>rfl))) ?_
 refine fC h (fun zz=>⟨[bu 2 0 0,bu 3 1 0,bu 4 2 0,bu 6 3 0,bu 7 4 0,bg 8 (LS aZ l5),pD,yb p,ba 58 zz],[kr p,lK m,jg,lL p,lM p m, .gone]⟩) fun Inv_2 mu_2 x58 h=>?_
 refine bk hn ?_
 refine bi (bv h (fun h=>?_) (fun h=>?_))
 refine bn ?_
 obtain ⟨J,h,hJ⟩:=h
 refine bS (σ:=Unit) (fun _=>J) (fun _=>⟨sl 8 (LS aZ l5) :: pD :: (yb p) :: ba 58 x58 :: Af,[kr p,lK m,jg,lL p,lM p m, .gone, .gone]⟩) ?_ ?_
 refine bj (bk hn ?_)
 refine bi (bi ?_)
 obtain ⟨hp_3,h⟩:=h
 refine da ⟨sl 8 (LS aZ l5) :: pD :: bu 12 6 0 :: (yb p) :: ba 58 x58 :: Af,[o1 (JZ (InP p) (mkP p)),bq x58,bq ((mkP p) x58),bq m,cH (((mkP p) x58) != m)],[bU (kr p),bU (lK m),bU (jg),bU (lL p),bU (lM p m),bU .gone,bU (.box [I x58] 3 false)]⟩ hn ?_ ?_
 exact ⟨.e,
 .e,
 .v (cV (ins:=(fun (x_:Int)=>[bq x_])) (out:=(fun (r:Int)=>.sv (.one (I r)))) (dom:=(InP p)) (φ:=(mkP p)) x58 hp_3 rfl),
 .e,
 .e,
 trivial⟩
 refine bv h (fun h=>?_) (fun h=>?_)
 exact bD rfl (bZ () h)
 refine bn (bp (cN hn 2 ?_))
 refine fK hn (cL (tQ l5 x58) Kb rfl) ?_
 refine bM hn ?_
 obtain ⟨J_2,h,hJ_2⟩:=h
 refine bS (σ:=Bool × (List Int)) (fun zz=>J_2 zz.1 zz.2) (fun zz=>⟨[bu 2 0 0,bu 3 1 0,bu 4 2 0,bu 6 3 0,bu 7 4 0,bg 8 (LS aZ l5),pD,bu 12 6 0,bx 13 7,bG 14 zz.1,yb p,ba 58 x58],[kr p,lK m,jg,lL p,lM p m, .gone,jy x58,bf 3 aZ zz.2]⟩) ?_ ?_
 refine bp (cw ht hn 2 ⟨sl 8 (LS aZ l5) :: pD :: bu 12 6 0 :: bg 13 (.v (.slice none 0 0)) :: bG 14 (l5.contains x58) :: (yb p) :: ba 58 x58 :: bG 70 (!(l5.contains x58)) :: Af,[kr p,lK m,jg,lL p,lM p m, .gone, .box [I x58] 3 false]⟩ ?_)
 refine bv h (fun h=>?_) (fun h=>?_)
 refine bI (bC ht hn 4 ⟨sl 8 (LS aZ l5) :: pD :: bu 12 6 0 :: (yb p) :: ba 58 x58 :: bg 72 (.pe (nk p) 10) :: bg 73 (LS aZ l5) :: bg 74 (.fn 40 []) :: bg 75 (.fn 42 [6]) :: Af,[kr p,lK m,jg,lL p,lM p m, .gone, .box [I x58] 3 false]⟩ ?_)
 refine gX 74 (o1 (fv3 (fun _=>True) (fun (_:Int)=>true))) (by rfl) (gV (M:=[]) (caps:=[]) (fun x_ _=>K0 x_) ND rfl (by kernel_rfl) (by rfl) (fun _=>rfl)) ?_
 refine iu [6] (by rfl) ?_
 refine gX 75 (o1 (fv3 (fun _=>True) (fun x=>x == x58))) (by rfl) (gV (M:=[jy x58]) (caps:=[6]) (fun x_ _=>KZ x_ x58) NC rfl (by kernel_rfl) (by rfl) (fun _=>rfl)) ?_
 obtain ⟨hp,h⟩:=h
 refine fw (Q:=oI p l5 (fun (_:Int)=>true) (fun x=>x == x58)) (x:=fun (r:((List Int) × Int × Bool))=>.tup [.one (.own 7), .one (I r.2.1), .one (B r.2.2)]) (p:=fun r=>some (7,bf 3 aZ r.1)) hn (by rfl) (n3 7 (tj p l5 (fun _=>True) (fun (_:Int)=>true) (fun _=>True) (fun x=>x == x58) hp) J9 (caps:=[]) [] (fun _=>rfl) (fun _=>rfl) rfl (by rfl) (by kernel_rfl) (by kernel_rfl) (by rfl) (by rfl)) (fun r hr_2=>⟨by rfl,_,by rfl,?_⟩)
 replace h:=h r hr_2
 refine bM hn ?_
 exact bZ (r.2.2,r.1) h
 refine bn (iz [6] (by rfl) ?_)
 refine iw 13 7 3 aZ (by rfl) (by rfl) ?_
 exact bZ ((l5.contains x58),([]:List Int)) h
 rintro ⟨x14,l7⟩ h
 replace h:=hJ_2 _ _ h
 refine bi (bk hn ?_)
 refine bv h (fun h=>?_) (fun h=>?_)
 exact bD rfl (bZ () h)
 refine bn (bp (cN hn 2 ?_))
 refine bT hn (aB (l:=[I p.au.ae,I p.au.ac,LS aZ p.au.af,LS aY.ty p.au.ar,LS aZ p.au.av,I p.aB.ae,I p.aB.af,LS (cB aZ) p.aB.aa,LS aZ p.aB.ay,LS (cB cm.ty) p.aa]) (r:=.agg (bd.cl p.au)) rfl) ?_
 refine bT hn (aB (l:=(bd.cl p.au)) (r:=.one (LS aZ p.au.av)) rfl) ?_
 refine bT hn (lD (s:=.one (LS aZ p.au.av)) rfl) ?_
 refine bM hn ?_
 refine bj (fC h (fun zz=>⟨[bu 2 0 0,bu 3 1 0,bu 4 2 0,bu 6 3 0,bu 7 4 0,bg 8 (LS aZ l5),pD,bu 12 6 0,bx 13 7,yb p,ba 58 x58,bg 86 (LS aZ p.au.av),ba 87 (p.au.av.length:Int),ba 88 zz],[kr p,lK m,jg,lL p,lM p m, .gone,jy x58,bf 3 aZ l7]⟩) fun Inv_3 mu_3 x88 h=>?_)
 refine bk hn ?_
 refine bi (bv h (fun h=>?_) (fun h=>?_))
 refine bn ?_
 obtain ⟨J_3,h,hJ_3⟩:=h
 refine bS (σ:=Unit) (fun _=>J_3) (fun _=>⟨(uq p l5 x58 x88),[kr p,lK m,jg,lL p,lM p m, .gone,jy x58,bf 3 aZ l7, .gone, .gone, .gone, .gone]⟩) ?_ ?_
 refine bj (bp ?_)
 obtain ⟨e_2,he_2,h⟩:=h
 refine bT hn (iX (T:=aZ) rfl he_2) ?_
 refine bT hn (lD (s:=.one (I e_2)) rfl) ?_
 refine bM hn ?_
 refine bp (cw ht hn 3 ⟨bu 17 9 0 :: (uq p l5 x58 x88),[kr p,lK m,jg,lL p,lM p m, .gone,jy x58,bf 3 aZ l7, .box [I e_2] 3 false,uo]⟩ ?_)
 refine bi (fU (by kernel_rfl) (by kernel_rfl) ?_)
 refine eV ht hn 3 ⟨bu 17 9 0 :: bg 18 (.v (.slice none 0 0)) :: ba 19 x58 :: ba 93 x58 :: (uq p l5 x58 x88),[kr p,lK m,jg,lL p,lM p m, .gone,jy x58,bf 3 aZ l7, .box [I e_2] 3 false,uo]⟩ (by kernel_rfl) ?_
 refine lu ⟨by kernel_rfl,?_⟩
 obtain ⟨J_4,h,hJ_4⟩:=h
 refine bS (σ:=Int × (List Int)) (fun zz=>J_4 zz.1 zz.2) (fun zz=>⟨[bu 2 0 0,bu 3 1 0,bu 4 2 0,bu 6 3 0,bu 7 4 0,bg 8 (LS aZ l5),pD,bu 12 6 0,bx 13 7,bx 18 11,ba 19 zz.1,yb p,ba 58 x58,bg 86 (LS aZ p.au.av),ba 87 (p.au.av.length:Int),ba 88 x88],[kr p,lK m,jg,lL p,lM p m, .gone,jy x58,bf 3 aZ l7, .gone, .gone, .gone,bf 3 aZ zz.2]⟩) ?_ ?_
 refine bp (bC ht hn 2 ⟨bu 17 9 0 :: bg 18 (.v (.slice none 0 0)) :: ba 19 x58 :: bg 94 (.fn 43 [0,8]) :: ba 95 x58 :: (uq p l5 x58 x88),[kr p,lK m,jg,lL p,lM p m, .gone,jy x58,bf 3 aZ l7, .box [I e_2] 3 false,uo]⟩ ?_)
 refine iu [8] (by rfl) ?_
 refine gX 94 (o1 (fv3 (fun (_:Int)=>(p).au.ac ≠ 0) (jS p e_2))) (by rfl) (gV (M:=[kr p, .box [I e_2] 3 true]) (caps:=[0,8]) (fun x_ hx=>FY x_ p e_2 hx) Mr rfl (by kernel_rfl) (by rfl) (fun _=>rfl)) ?_
 obtain ⟨hp,h⟩:=h
 refine i9 hn (fG x58 hp rfl (by rfl) (by rfl) (by rfl) (by rfl)) ?_
 refine cw ht hn 1 ⟨bu 17 9 0 :: bg 18 (.v (.slice none 0 0)) :: ba 19 x58 :: bG 97 (!((jS p e_2) x58)) :: (uq p l5 x58 x88),[kr p,lK m,jg,lL p,lM p m, .gone,jy x58,bf 3 aZ l7, .box [I e_2] 3 true,uo]⟩ ?_
 refine bv h (fun h=>?_) (fun h=>?_)
 refine bk hn ?_
 refine bp (bC ht hn 2 ⟨bu 17 9 0 :: bg 99 (.pe (nk p) 10) :: ba 100 x58 :: (uq p l5 x58 x88),[kr p,lK m,jg,lL p,lM p m, .gone,jy x58,bf 3 aZ l7, .box [I e_2] 3 true,uo]⟩ ?_)
 refine dg (K:=[]) (p:=some (10,bf 3 aZ ([x58]:List Int))) hn (by rfl) (lI (T:=aZ) ([x58]:List Int) 10 rfl) (by rfl) (by rfl) (by rfl) ?_
 refine bC ht hn 2 ⟨sl 99 (.pe (nk p) 10) :: bx 101 10 :: bg 102 (fv3 (InP p) (fun x=>decide ((mkP p) x >= m))) :: bg 103 (.fn 44 [9,0,6,4]) :: (uq p l5 x58 x88),[kr p,lK m,jg,lL p,lM p m, .gone,jy x58,bf 3 aZ l7, .box [I e_2] 3 true,uo,bf 3 aZ ([x58]:List Int)]⟩ ?_
 refine dE (T:=aZ) (l:=([x58]:List Int)) (e:=3) 10 rfl ?_
 refine bC ht hn 0 ⟨sl 99 (.pe (nk p) 10) :: bg 101 (LS aZ ([x58]:List Int)) :: bg 102 (fv3 (InP p) (fun x=>decide ((mkP p) x >= m))) :: bg 103 (.fn 44 [9,0,6,4]) :: (uq p l5 x58 x88),[kr p,lK m,jg,lL p,lM p m, .gone,jy x58,bf 3 aZ l7, .box [I e_2] 3 true,uo, .gone]⟩ ?_
 refine B7 (fv3 (fun (_:Int)=>(p).au.ac ≠ 0) (jS p e_2)) 9 0 (by rfl) (by rfl) (AK (gV (M:=[kr p, .box [I e_2] 3 true]) (caps:=[0,8]) (fun x_ hx=>FY x_ p e_2 hx) Mr rfl (by kernel_rfl) (by rfl) (fun _=>rfl))) ?_
 refine iu [9] (by rfl) ?_
 refine gX 103 (o1 (fv3 (fun x=>(fun (_:Int)=>(p).au.ac ≠ 0) x /\ hY p [x] (InP p) (fun _=>True)) (fun x=>(jS p e_2) x && ji p x x58 (fun x=>decide ((mkP p) x >= m))))) (by rfl) (gV (M:=[.box [fv3 (fun (_:Int)=>(p).au.ac ≠ 0) (jS p e_2)] 66 true,kr p,jy x58,lM p m]) (caps:=[9,0,6,4]) (fun x_ hx=>KY x_ (fun (_:Int)=>(p).au.ac ≠ 0) (jS p e_2) p x58 (InP p) (fun x=>decide ((mkP p) x >= m)) hx) NB rfl (by kernel_rfl) (by rfl) (fun _=>rfl)) ?_
 obtain ⟨hp,h⟩:=h
 refine fw (Q:=oI p ([x58]:List Int) (fun x=>decide ((mkP p) x >= m)) (fun x=>(jS p e_2) x && ji p x x58 (fun x=>decide ((mkP p) x >= m)))) (x:=fun (r:((List Int) × Int × Bool))=>.tup [.one (.own 11), .one (I r.2.1), .one (B r.2.2)]) (p:=fun r=>some (11,bf 3 aZ r.1)) hn (by rfl) (n3 11 (tj p ([x58]:List Int) (InP p) (fun x=>decide ((mkP p) x >= m)) (fun x=>(fun (_:Int)=>(p).au.ac ≠ 0) x /\ hY p [x] (InP p) (fun _=>True)) (fun x=>(jS p e_2) x && ji p x x58 (fun x=>decide ((mkP p) x >= m))) hp) J9 (caps:=[]) [] (fun _=>rfl) (fun _=>rfl) rfl (by rfl) (by kernel_rfl) (by kernel_rfl) (by rfl) (by rfl)) (fun r_2 hr_2_2=>⟨by rfl,_,by rfl,?_⟩)
 replace h:=h r_2 hr_2_2
 refine bM hn ?_
 refine bk hn ?_
 refine bv h (fun h=>?_) (fun h=>?_)
 exact bD rfl (bZ () h)
 exact bn (bZ (r_2.2.1,r_2.1) h)
 refine bn (iw 18 11 3 aZ (by rfl) (by rfl) ?_)
 exact bZ (x58,([]:List Int)) h
 rintro ⟨x19,l11⟩ h
 replace h:=hJ_4 _ _ h
 refine bp (bC ht hn 2 ⟨bx 18 11 :: bg 111 (.pe (nk p) 10) :: ba 112 x19 :: (uq p l5 x58 x88),[kr p,lK m,jg,lL p,lM p m, .gone,jy x58,bf 3 aZ l7, .gone, .gone, .gone,bf 3 aZ l11]⟩ ?_)
 refine dg (K:=[]) (p:=some (12,bf 3 aZ ([x19]:List Int))) hn (by rfl) (lI (T:=aZ) ([x19]:List Int) 12 rfl) (by rfl) (by rfl) (by rfl) ?_
 refine bC ht hn 2 ⟨bx 18 11 :: bg 111 (.pe (nk p) 10) :: bx 113 12 :: bg 114 (fv3 (InP p) (fun x=>decide ((mkP p) x >= m))) :: bg 115 (.fn 46 [6]) :: (uq p l5 x58 x88),[kr p,lK m,jg,lL p,lM p m, .gone,jy x58,bf 3 aZ l7, .gone, .gone, .gone,bf 3 aZ l11,bf 3 aZ ([x19]:List Int)]⟩ ?_
 refine dE (T:=aZ) (l:=([x19]:List Int)) (e:=3) 12 rfl ?_
 refine bC ht hn 0 ⟨bx 18 11 :: bg 111 (.pe (nk p) 10) :: bg 113 (LS aZ ([x19]:List Int)) :: bg 114 (fv3 (InP p) (fun x=>decide ((mkP p) x >= m))) :: bg 115 (.fn 46 [6]) :: (uq p l5 x58 x88),[kr p,lK m,jg,lL p,lM p m, .gone,jy x58,bf 3 aZ l7, .gone, .gone, .gone,bf 3 aZ l11, .gone]⟩ ?_
 refine gX 115 (o1 (fv3 (fun _=>True) (fun x=>x == x58))) (by rfl) (gV (M:=[jy x58]) (caps:=[6]) (fun x_ _=>KX x_ x58) Nz rfl (by kernel_rfl) (by rfl) (fun _=>rfl)) ?_
 obtain ⟨hp,h⟩:=h
 refine fw (Q:=oI p ([x19]:List Int) (fun x=>decide ((mkP p) x >= m)) (fun x=>x == x58)) (x:=fun (r:((List Int) × Int × Bool))=>.tup [.one (.own 13), .one (I r.2.1), .one (B r.2.2)]) (p:=fun r=>some (13,bf 3 aZ r.1)) hn (by rfl) (n3 13 (tj p ([x19]:List Int) (InP p) (fun x=>decide ((mkP p) x >= m)) (fun _=>True) (fun x=>x == x58) hp) J9 (caps:=[]) [] (fun _=>rfl) (fun _=>rfl) rfl (by rfl) (by kernel_rfl) (by kernel_rfl) (by rfl) (by rfl)) (fun r_3 hr_3=>⟨by rfl,_,by rfl,?_⟩)
 replace h:=h r_3 hr_3
 refine bM hn ?_
 refine bk hn ?_
 refine bv h (fun h=>?_) (fun h=>?_)
 refine bp (bC ht hn 3 ⟨[bu 4 2 0,bx 121 7,bx 122 11,bx 123 13],[.gone, .gone,jg, .gone, .gone, .gone, .gone,bf 3 aZ l7, .gone, .gone, .gone,bf 3 aZ l11, .gone,bf 3 aZ r_3.1]⟩ ?_)
 refine dE (T:=aZ) (l:=r_3.1) (e:=3) 13 rfl ?_
 refine bC ht hn 0 ⟨[bu 4 2 0,bx 121 7,bx 122 11,bg 123 (LS aZ r_3.1)],(KE l7 l11)⟩ ?_
 obtain ⟨hp,h⟩:=h
 refine jF (S2:=⟨[bu 4 2 0,bx 121 7,bg 123 (LS aZ r_3.1)],(KE l7 l11)⟩) (K:=[11]) (p:=some (11,bf 3 aZ (l11 ++ r_3.1))) hn (by rfl) (aP (T:=aZ) (l:=l11) (es:=r_3.1) rfl hp) (by kernel_rfl) (by rfl) (by rfl) (by rfl) ?_
 refine cw ht hn 3 ⟨[bu 4 2 0,bG 5 true],[.gone, .gone, .box [.own 7, .own 11] 27 false, .gone, .gone, .gone, .gone,bf 3 aZ l7, .gone, .gone, .gone,bf 3 aZ (l11 ++ r_3.1), .gone, .gone]⟩ ?_
 refine cT (iZ (T:=aZ) (l:=l7) (e:=3) 7 rfl ?_)
 refine iZ (T:=aZ) (l:=(l11 ++ r_3.1)) (e:=3) 11 rfl ?_
 exact eW ht ((bt.mk l7 (l11 ++ r_3.1)),true) h (by kernel_rfl) rfl
 exact bn (bZ () h)
 intro _ h
 replace h:=hJ_3 h
 exact cn hn (wr (x88 + 1)) h
 exact bD rfl (bZ () h)
 intro _ h
 replace h:=hJ h
 exact cn hn (wr (x58 + 1)) h
 refine bD rfl (bp (cw ht hn 3 ⟨[bu 4 2 0,bG 5 false],[.gone, .gone,jg, .gone, .gone, .gone]⟩ ?_))
 refine cT (dn (T:=aZ) 2 0 (by rfl) (by rfl) ?_)
 refine dn (T:=aZ) 2 1 (by rfl) (by rfl) ?_
 exact eW ht ((bt.mk [] []),false) h (by kernel_rfl) rfl
theorem NT : ∀ args w,(callFunc 13 args).run Tryz.prog w=.ok (.enter 13 args) w:=enters_of Tryz.func13 (by kernel_rfl) rfl
theorem ID (p:bF) (m:Int) (hp:zK p)  : Ct 13 [.sv (.one (.pe (eu (.agg [I p.au.ae,I p.au.ac,LS aZ p.au.af,LS aY.ty p.au.ar,LS aZ p.au.av,I p.aB.ae,I p.aB.af,LS (cB aZ) p.aB.aa,LS aZ p.aB.ay,LS (cB cm.ty) p.aa])) 10)), .sv (.one (I m))] [] (Im p m) (fun (r:(bt × Bool))=>.tup [.agg [LS aZ r.1.aG,LS aZ r.1.aD], .one (B r.2)]):=by
 refine DW p m (Im p m) ?_
 unfold xA
 have hst:=hp.1.st
 have hsz:=hp.1.size
 have hlen:=hp.1.len
 obtain ⟨S,hS⟩:∃ S:Nat,(S:Int)=p.au.ac:=⟨p.au.ac.toNat,by omega⟩
 have hn:p.au.ac * (p.aB.aa.length:Int) <= 4 * 20000:=Int.mul_le_mul (by omega) (by omega) (by omega) (by omega)
 obtain ⟨gS,hs1⟩:=hp.2.1
 have stm:p.aB.af * p.au.ac + p.au.ac <= p.au.ac * (p.aB.aa.length:Int):=by
  have:=rt (show p.aB.af + 1 <= (p.aB.aa.length:Int) by omega) (show 0 <= p.au.ac by omega)
  rw [Int.mul_add,Int.mul_comm] at this
  omega
 have st0:0 <= p.aB.af * p.au.ac:=mi gS (by omega)
 have wst:∀ q,0 <= q /\ q < p.au.ac -> wr (wr (p.aB.af * p.au.ac) + q)=p.aB.af * p.au.ac + q:=fun q hq=>by
  rw [bL (n:=p.aB.af * p.au.ac) (by omega) (by omega),bL (by omega) (by omega)]
 obtain ⟨hsS,hsf,hfS,hff⟩:=hp.2.2
 refine ⟨fun x l=>∃ k:Nat,x=k /\ k <= p.au.af.length /\ l=(p.au.af.take k).map fun q=>p.aB.af * p.au.ac + q,fun x _=>p.au.af.length - x.toNat,⟨0,rfl,cy _,rfl⟩,?_⟩
 rintro x l ⟨k,rfl,hk,rfl⟩
 refine ⟨fun hb=>?_,fun hb=>?_⟩
 ·have hlt:=dlt hb
  refine ⟨_,eP hlt,?_⟩
  rw [wst _ (hsS _ (dK hlt))]
  refine ⟨eI ?_,⟨k + 1,dj (by omega),hlt,(zT hlt _).symm⟩,dQ hlt (by omega)⟩
  rw [df,eU]
  simp only [dq,dI]
  omega
 have hge:=dge hb
 rw [f8 hge]
 clear hb hge hk
 obtain ⟨N,hN⟩:∃ N,N=p.aa.length:=⟨_,rfl⟩
 rw [<- hN]
 have hin:∀ q,0 <= q /\ q < (p.aa.length:Int) -> InP p q:=fun q hq=>⟨hp.1,hq⟩
 have one:∀ q:Int,0 <= q /\ q < (p.aa.length:Int) -> ∀ y ∈ [q],0 <= y /\ y < (p.aa.length:Int):=fun q hq y hy=>by rw [et.1 hy]; exact hq
 have hS0:p.au.ac ≠ 0:=by omega
 refine ⟨fun x=>∃ k:Nat,x=k /\ k <= N,fun x=>N - x.toNat,⟨0,rfl,cy _⟩,?_⟩
 rintro x ⟨k,rfl,hk⟩
 refine ⟨fun hb=>?_,fun _=>fun h=>(by cases h)⟩
 have hlt:=dlt hb
 have hkin:0 <= (k:Int) /\ (k:Int) < (p.aa.length:Int):=by omega
 refine ⟨True,⟨hin _ hkin,fun _=>trivial,fun hm=>?_⟩,fun _=>⟨⟨k + 1,dj (by omega),hlt⟩,dQ hlt (by omega)⟩⟩
 have hm:mkP p (k:Int)=m:=by simpa using hm
 refine ⟨fun b w=>b=true -> MI p (k:Int),⟨fun hc=>⟨hp.1.path (fun q hq=>?_) (by rw [df]; omega) (fun _ _=>⟨trivial,trivial⟩),fun r hr he=>?_⟩,fun hc he=>?_⟩,?_⟩
 ·obtain ⟨s,hs,rfl⟩:=cP.1 hq
  have:=hsS s hs
  omega
 ·obtain ⟨f,hf,hw,hk2⟩:=hr.1 he
  obtain ⟨s,hs,rfl⟩:=cP.1 hf
  have hk2:r.2.1=(k:Int):=by simpa using hk2
  exact ⟨s,hs, .inr ⟨_,hk2 ▸ hw⟩⟩
 ·have he:(k:Int) ∈ (p.au.af.map fun q=>p.aB.af * p.au.ac + q):=by simpa using he
  obtain ⟨s,hs,e⟩:=cP.1 he
  exact ⟨s,hs, .inl e.symm⟩
 rintro b hw hhead
 refine ⟨fun _=>trivial,fun hbt=>?_⟩
 have hH:=hhead (by simpa using hbt)
 refine ⟨fun x=>∃ j:Nat,x=j /\ j <= p.au.av.length,fun x=>p.au.av.length - x.toNat,⟨0,rfl,cy _⟩,?_⟩
 rintro x ⟨j,rfl,hj⟩
 refine ⟨fun hb2=>?_,fun _=>trivial⟩
 have hlt2:=dlt hb2
 refine ⟨True,⟨_,eP hlt2,fun y w=>(0 <= y /\ y < (p.aa.length:Int)) /\ w.length <= 4000000 /\ jS p (p.au.av[j]) y=true /\ (y=(k:Int) \/ ∃ w',PWk p (fun x=>decide (mkP p x >= m)) (k:Int) w' y),⟨hS0,fun hg=>⟨hp.1.path (one _ hkin) (by simp) (fun q hq=>⟨hin q hq,hS0,hp.1.path (one _ hq) (by simp) fun q hq=>⟨hin q hq,trivial⟩⟩),fun r hr=>⟨fun _=>trivial,fun hc=>?_⟩⟩,fun hg=>⟨hkin,cy _,by simpa using hg, .inl rfl⟩⟩,?_⟩,fun _=>⟨⟨j + 1,dj (by omega),hlt2⟩,dQ hlt2 (by omega)⟩⟩
 ·obtain ⟨f,hf,hw2,hk2⟩:=hr.1 (by simpa using hc)
  have hf:=et.1 hf
  subst hf
  have hk2:=(cC _ _ ▸ hk2:jS p (p.au.av[j]) r.2.1=true /\ _)
  exact ⟨hw2.in_ hp.1.next,hr.2.2,hk2.1, .inr ⟨_,hw2⟩⟩
 ·rintro y w ⟨hy,hwl,hg,hway⟩
  refine ⟨hp.1.path (one _ hy) (by simp) (fun q hq=>⟨hin q hq,trivial⟩),fun r hr=>⟨fun hc=>⟨eI ?_,fun _=>?_⟩,fun _=>trivial⟩⟩
  ·have:=hr.2.2
   omega
  ·obtain ⟨f,hf,hw2,hk2⟩:=hr.1 hc
   rw [et.1 hf] at hw2
   have hk2:r.2.1=(k:Int):=by simpa using hk2
   exact ⟨k,hm,hH,y,_,dK hlt2,hg,hway,_,hk2 ▸ hw2⟩
def xH (d:bz) (l:bt) (Q:(Bool × Int) -> Prop):Prop:=
 d.aa.length <= 9223372036854775807 ->
 d.ay.length <= 9223372036854775807 ->
 l.aG.length <= 9223372036854775807 ->
 l.aD.length <= 9223372036854775807 ->
 ((kD d) /\
 cv ((B0 d) != 0) (Q (false,(B0 d))) (cv ((nr d.ae l) != 0) (Q (false,(nr d.ae l))) ((LW d d.af l.aG) /\
 ∃ (Inv:Int -> Int -> Prop) (mu:Int -> Int -> Nat),Inv (lX d d.af l.aG) 0 /\
 ∀ x8 x34,Inv x8 x34 -> (cv (decide (x34 < (d.aa.length:Int))) ((LW d x8 l.aD) /\
 (Inv (lX d x8 l.aD) (wr (x34 + 1)) /\ mu (lX d x8 l.aD) (wr (x34 + 1)) < mu x8 x34)) (∃ (Inv_2:Int -> Int -> Prop) (mu_2:Int -> Int -> Nat),Inv_2 x8 10 /\
 ∀ x8_2 x9,Inv_2 x8_2 x9 -> (∃ (Inv_3:Int -> Int -> Int -> Prop) (mu_3:Int -> Int -> Int -> Nat),Inv_3 x8_2 x9 0 /\
 ∀ x8_3 x9_2 x46,Inv_3 x8_3 x9_2 x46 -> (cv (decide (x46 < (l.aD.length:Int))) (∃ e,cq l.aD x46=some e /\
 ∃ e_2,cq d.aa x8_3=some e_2 /\
 ∃ e_3,cq e_2 e=some e_3 /\
 ∃ e_4,cq d.ay e_3=some e_4 /\
 (Inv_3 e_3 (if e_4 < x9_2 then e_4 else x9_2) (wr (x46 + 1)) /\ mu_3 e_3 (if e_4 < x9_2 then e_4 else x9_2) (wr (x46 + 1)) < mu_3 x8_3 x9_2 x46)) (cv (x8_3 == x8) (Q (((Int.tmod x9_2 2) == 0),0)) ((Inv_2 x8_3 x9_2 /\ mu_2 x8_3 x9_2 < mu_2 x8_2 x9))))))))))
abbrev Lh (d:bz) (l:bt):=([.box [I d.ae,I d.af,LS (cB aZ) d.aa,LS aZ d.ay] 35 false, .box (bt.cl l) 27 false]:List br)
set_option maxHeartbeats 2000000 in
theorem D4 (d:bz) (l:bt) (Q:(Bool × Int) -> Prop) (h:xH d l Q):Ct 7 [.sv (.agg [I d.ae,I d.af,LS (cB aZ) d.aa,LS aZ d.ay]), .sv (.agg [LS aZ l.aG,LS aZ l.aD])] [] Q (fun (r:(Bool × Int))=>.tup [.one (B r.1), .one (I r.2)]):=by
 have ht:=bA
 refine Ct.body Tryz.func7 rfl rfl rfl rfl (fun c hn=>?_)
 unfold xH at h
 refine bQ 0 2 (by rfl) (by rfl) (fun hl=>?_)
 replace h:=h hl
 clear hl
 refine bQ 0 3 (by rfl) (by rfl) (fun hl=>?_)
 replace h:=h hl
 clear hl
 refine bQ 1 0 (by rfl) (by rfl) (fun hl=>?_)
 replace h:=h hl
 clear hl
 refine bQ 1 1 (by rfl) (by rfl) (fun hl=>?_)
 replace h:=h hl
 clear hl
 refine bk hn ?_
 refine bi (bp (cN hn 1 ?_))
 obtain ⟨hp,h⟩:=h
 refine fK hn (cL (IH d hp) NQ rfl) ?_
 refine bM hn ?_
 refine bk hn ?_
 refine bv h (fun h=>?_) (fun h=>?_)
 exact cD hn (false,(B0 d)) h
 refine bn (bi (bp (cN hn 3 ?_)))
 refine fK hn (cL (Cn d.ae l) Mz rfl) ?_
 refine bM hn ?_
 refine bk hn ?_
 refine bv h (fun h=>?_) (fun h=>?_)
 exact cD hn (false,(nr d.ae l)) h
 refine bn (bp (cN hn 5 ?_))
 obtain ⟨hp,h⟩:=h
 refine fK hn (cL (Cl d d.af l.aG hp) Mx rfl) ?_
 refine bM hn ?_
 refine bi (bk hn ?_)
 refine bj (dV h (fun zz=>⟨[bu 2 0 0,bu 3 1 0,ba 8 zz.1,ba 33 (d.aa.length:Int),ba 34 zz.2],(Lh d l)⟩) fun Inv mu x8 x34 h=>?_)
 refine bk hn ?_
 refine bi (bv h (fun h=>?_) (fun h=>?_))
 refine bn (bi (bj (bI (cN hn 4 ?_))))
 obtain ⟨hp,h⟩:=h
 refine fK hn (cL (Cl d x8 l.aD hp) Mx rfl) ?_
 refine bM hn ?_
 exact cn hn ((lX d x8 l.aD),(wr (x34 + 1))) h
 refine bD rfl (bk hn ?_)
 refine bj (dV h (fun zz=>⟨[bu 2 0 0,bu 3 1 0,ba 8 zz.1,ba 9 zz.2,ba 10 x8],(Lh d l)⟩) fun Inv_2 mu_2 x8_2 x9 h=>?_)
 refine bj (bi (bk hn ?_))
 refine bj (ma h (fun zz=>⟨[bu 2 0 0,bu 3 1 0,ba 8 zz.1,ba 9 zz.2.1,ba 10 x8,bg 44 (LS aZ l.aD),ba 45 (l.aD.length:Int),ba 46 zz.2.2],(Lh d l)⟩) fun Inv_3 mu_3 x8_3 x9_2 x46 h=>?_)
 refine bk hn ?_
 refine bi (bv h (fun h=>?_) (fun h=>?_))
 refine bn (bi (bj (bp ?_)))
 obtain ⟨e,he,h⟩:=h
 refine bT hn (iX (T:=aZ) rfl he) ?_
 refine bT hn (lD (s:=.one (I e)) rfl) ?_
 refine bM hn ?_
 refine bp (cN hn 3 ?_)
 obtain ⟨e_2,he_2,h⟩:=h
 refine bT hn (iX (T:=(cB aZ)) rfl he_2) ?_
 refine bT hn (lD (s:=.one (LS aZ e_2)) rfl) ?_
 refine cN hn 1 ?_
 obtain ⟨e_3,he_3,h⟩:=h
 refine bT hn (iX (T:=aZ) rfl he_3) ?_
 refine bT hn (lD (s:=.one (I e_3)) rfl) ?_
 refine bM hn ?_
 refine bI (cN hn 4 ?_)
 obtain ⟨e_4,he_4,h⟩:=h
 refine bT hn (iX (T:=aZ) rfl he_4) ?_
 refine bT hn (lD (s:=.one (I e_4)) rfl) ?_
 refine bM hn ?_
 exact cn hn (e_3,(if e_4 < x9_2 then e_4 else x9_2),(wr (x46 + 1))) h
 refine bD rfl (bk hn ?_)
 refine bv h (fun h=>?_) (fun h=>?_)
 exact cD hn (((Int.tmod x9_2 2) == 0),0) h
 exact bn (bZ (x8_3,x9_2) h)
theorem en7 : ∀ args w,(callFunc 7 args).run Tryz.prog w=.ok (.enter 7 args) w:=enters_of Tryz.func7 (by kernel_rfl) rfl
theorem Hi {l:bt} {n:Int} (h:oJ n l) {t:Nat} (ht:l.aG.length <= t) (c:Nat):d3 l (t + c * l.aD.length)=d3 l t /\ d8 l (t + c * l.aD.length)=d8 l t:=by
 have hp:=h.pos
 have hdm:=mR (t - l.aG.length) l.aD.length
 have hlt:=km (t - l.aG.length) hp
 rw [Nat.mul_comm] at hdm
 obtain ⟨k,hk⟩:∃ k,k=(t - l.aG.length) / l.aD.length:=⟨_,rfl⟩
 obtain ⟨i,hi⟩:∃ i,i=(t - l.aG.length) % l.aD.length:=⟨_,rfl⟩
 rw [<- hk,<- hi] at hdm
 rw [<- hi] at hlt
 have e1:t=l.aG.length + k * l.aD.length + i:=by omega
 have e2:t + c * l.aD.length=l.aG.length + (k + c) * l.aD.length + i:=by rw [fk]; omega
 rw [e2,e1,n5 h _ hlt,n5 h _ hlt,yj h _ _ hlt,yj h _ _ hlt]
 exact ⟨rfl,rfl⟩
def itZ (g:Int -> Int):Nat -> Int -> Int
 | 0,q=>q
 | i + 1,q=>itZ g i (g q)
def Fst (g:Int -> Int) (q0 q:Int) (i:Nat):Prop:=1 <= i /\ itZ g i q=q0 /\ ∀ j,1 <= j -> j < i -> itZ g j q ≠ q0
open Classical in
def HJ (g:Int -> Int) (q0 q:Int):Nat:=if h:∃ i,Fst g q0 q i then h.choose else 0
theorem Fst.one {g:Int -> Int} {q0 q:Int} {i j:Nat} (h:Fst g q0 q i) (h':Fst g q0 q j):i=j:=by
 rcases nP i j with c | c | c
 ·exact absurd h.2.1 (h'.2.2 i h.1 c)
 ·exact c
 ·exact absurd h'.2.1 (h.2.2 j h'.1 c)
theorem Dk {g:Int -> Int} {q0 q:Int} {i:Nat} (h:Fst g q0 q i):HJ g q0 q=i:=by
 unfold HJ
 have hex:∃ i,Fst g q0 q i:=⟨i,h⟩
 rw [dif_pos hex]
 exact hex.choose_spec.one h
theorem LV {g:Int -> Int} {q0 q:Int}:∀ n,1 <= n -> itZ g n q=q0 -> ∃ i,Fst g q0 q i:=by
 intro n
 induction n using Nat.strongRecOn with
 | ind n ih =>
  intro h1 h2
  by_cases c:∃ j,1 <= j /\ j < n /\ itZ g j q=q0
  ·obtain ⟨j,c1,c2,c3⟩:=c
   exact ih j c2 c1 c3
  ·exact ⟨n,h1,h2,fun j j1 j2 j3=>c ⟨j,j1,j2,j3⟩⟩
theorem Fst.next {g:Int -> Int} {q0 q:Int} {i:Nat} (h:Fst g q0 q i) (hne:g q ≠ q0):Fst g q0 (g q) (i - 1) /\ 2 <= i:=by
 obtain ⟨h1,h2,h3⟩:=h
 have i2:2 <= i:=by
  rcases dA i 2 with c | c
  ·rw [show i=1 by omega] at h2
   exact absurd h2 hne
  ·exact c
 obtain ⟨k,rfl⟩:∃ k,i=k + 2:=⟨i - 2,by omega⟩
 exact ⟨⟨by omega,h2,fun j j1 j2=>h3 (j + 1) (by omega) (by omega)⟩,i2⟩
theorem II (d:bz) (l:bt) (hp:kD d)  : Ct 7 [.sv (.agg [I d.ae,I d.af,LS (cB aZ) d.aa,LS aZ d.ay]), .sv (.agg [LS aZ l.aG,LS aZ l.aD])] [] (H1 d l) (fun (r:(Bool × Int))=>.tup [.one (B r.1), .one (I r.2)]):=by
 refine D4 d l (H1 d l) ?_
 unfold xH
 intro _ _ _ _
 refine ⟨hp,fun h=>absurd h (by simp [B0]),fun _=>⟨fun h=>⟨rfl,fun e=>?_⟩,fun h=>?_⟩⟩
 ·have h:nr d.ae l ≠ 0:=by simpa using h
  exact absurd e h
 have e0:nr d.ae l=0:=by simpa using h
 have hL:=Dg e0
 have hw:=yA hL
 have hin:=t9 hp hw
 have hP:=hL.pos
 obtain ⟨n,hn⟩:∃ n,n=d.aa.length:=⟨_,rfl⟩
 obtain ⟨H,hH⟩:∃ H,H=l.aG.length:=⟨_,rfl⟩
 obtain ⟨P,hPe⟩:∃ P,P=l.aD.length:=⟨_,rfl⟩
 have nle:=hp.size
 have Ple:=hL.ll
 have hhead:stZ d (d3 l) H=lX d d.af l.aG:=by
  have:=CD (d:=d) (w:=d3 l) (t:=0) (u:=l.aG) fun i hi=>E4 hL hi
  rw [gt] at this
  rw [hH]
  exact this
 have hloop:∀ k,stZ d (d3 l) (H + (k + 1) * P)=lX d (stZ d (d3 l) (H + k * P)) l.aD:=fun k=>by
  have:=CD (d:=d) (w:=d3 l) (t:=H + k * P) (u:=l.aD) fun i hi=>by rw [hH,hPe]; exact n5 hL k hi
  rw [<- this,fk,Nat.one_mul,hPe,ft]
 refine ⟨⟨hp,hp.start,hL.head⟩,fun q x=>∃ k:Nat,x=k /\ k <= n /\ q=stZ d (d3 l) (H + k * P),fun _ x=>n - x.toNat,⟨0,rfl,cy _,by rw [Nat.zero_mul,eG]; exact hhead.symm⟩,?_⟩
 rw [<- hn]
 rintro q x ⟨k,rfl,hk,rfl⟩
 refine ⟨fun hb=>?_,fun hb=>?_⟩
 ·have hlt:=dlt hb
  exact ⟨⟨hp,hin _,hL.loop⟩,⟨k + 1,dj (by omega),hlt,(hloop k).symm⟩,dQ hlt (by omega)⟩
 have hge:=dge hb
 have ek:k=n:=by omega
 subst ek
 have it:∀ i k,stZ d (d3 l) (H + (k + i) * P)=itZ (fun q=>lX d q l.aD) i (stZ d (d3 l) (H + k * P)):=fun i=>by
  induction i with
  | zero=>intro k; rfl
  | succ i ih =>
   intro k
   rw [show k + (i + 1)=k + 1 + i by omega,ih (k + 1),hloop k]
   rfl
 -- the place that comes again
 have cyc:∃ i,1 <= i /\ stZ d (d3 l) (H + (k + i) * P)=stZ d (d3 l) (H + k * P):=by
  obtain ⟨x,y,hxy,hy,e⟩:∃ x y,x < y /\ y <= k /\ stZ d (d3 l) (H + x * P)=stZ d (d3 l) (H + y * P):=by
   refine jq fun hno=>?_
   have nd:((List.range (k + 1)).map fun i=>(stZ d (d3 l) (H + i * P)).toNat).Nodup:=by
    rw [List.Nodup,List.pairwise_map]
    refine List.pairwise_lt_range.imp_of_mem ?_
    intro x y _ hy hlt e
    have:=(hin (H + x * P)).1
    have:=(hin (H + y * P)).1
    exact hno ⟨x,y,hlt,by have:=d6.1 hy; omega,by omega⟩
   have:=iJ nd (m:=List.range k) (fun v hv=>by
    obtain ⟨i,hi,rfl⟩:=cP.1 hv
    rw [d6]
    have:=hin (H + i * P)
    unfold InZ at this
    omega)
   rw [df,g8,g8] at this
   omega
  refine ⟨y - x,by omega,?_⟩
  have a:=it (k - x) x
  have b:=it (k - x) y
  rw [show x + (k - x)=k by omega] at a
  rw [show y + (k - x)=k + (y - x) by omega] at b
  rw [b,<- e,a]
 obtain ⟨i0,i1,i2⟩:=cyc
 obtain ⟨q0,hq0⟩:∃ q0,q0=stZ d (d3 l) (H + k * P):=⟨_,rfl⟩
 rw [<- hq0]
 obtain ⟨T0,hT⟩:∃ T0,T0=H + k * P:=⟨_,rfl⟩
 have at_:∀ j,H + (k + j) * P=T0 + j * P:=fun j=>by rw [hT,fk]; omega
 refine ⟨fun q m=>∃ j,q=stZ d (d3 l) (T0 + j * P) /\ LM (mkZ d (d3 l)) T0 (j * P) m /\ ∃ i,Fst (fun q=>lX d q l.aD) q0 q i,fun q _=>HJ (fun q=>lX d q l.aD) q0 q,⟨0,by rw [Nat.zero_mul,eG,hT]; exact hq0,⟨.inl rfl,fun t a b=>by omega⟩,LV i0 i1 (by rw [hq0,<- it i0 k]; exact i2)⟩,?_⟩
 rintro q m ⟨j,rfl,hlm,i,hi⟩
 refine ⟨fun q m x=>∃ c:Nat,x=c /\ c <= P /\ q=stZ d (d3 l) (T0 + (j * P + c)) /\ LM (mkZ d (d3 l)) T0 (j * P + c) m,fun _ _ x=>P - x.toNat,⟨0,rfl,cy _,rfl,hlm⟩,?_⟩
 rw [<- hPe]
 rintro q m2 x ⟨c,rfl,hc,rfl,hlm2⟩
 refine ⟨fun hb2=>?_,fun hb2=>?_⟩
 ·have hlt:=dlt hb2
  have hcl:c < l.aD.length:=by omega
  have ew:d3 l (T0 + (j * P + c))=l.aD[c]:=by
   have:=n5 hL (k + j) hcl
   rw [<- hH,<- hPe,at_] at this
   rw [<- ft]
   exact this
  obtain ⟨k1,k2,_⟩:=lC hp (hin (T0 + (j * P + c))) (hw (T0 + (j * P + c)))
  rw [ew] at k2
  have es:jx d (stZ d (d3 l) (T0 + (j * P + c))) l.aD[c]=stZ d (d3 l) (T0 + (j * P + c) + 1):=by rw [stZ,ew]
  rw [es] at k2
  refine ⟨_,eP hcl,_,k1,_,k2,_,(BJ hp hw _).1,⟨c + 1,dj (by omega),hlt,rfl,hlm2.next⟩,dQ hlt (by omega)⟩
 have hge2:=dge hb2
 have ec:c=P:=by omega
 subst ec
 have eg:lX d (stZ d (d3 l) (T0 + j * c)) l.aD=stZ d (d3 l) (T0 + (j * c + c)):=by
  rw [<- at_ j,<- hloop,show H + (k + j + 1) * c=T0 + (j * c + c) by rw [hT,fk,fk]; omega]
 refine ⟨fun hb3=>?_,fun hb3=>?_⟩
 ·have e3:stZ d (d3 l) (T0 + (j * c + c))=q0:=by simpa using hb3
  have per:∀ s,stZ d (d3 l) (T0 + s + (j * c + c))=stZ d (d3 l) (T0 + s):=fun s=>by
   induction s with
   | zero=>rw [eG,e3,hq0,hT]
   | succ s ih =>
    rw [show T0 + (s + 1) + (j * c + c)=T0 + s + (j * c + c) + 1 by omega,show T0 + (s + 1)=T0 + s + 1 by omega,stZ,stZ,ih]
    have:=(Hi hL (t:=T0 + s) (by omega) (j + 1)).1
    rw [<- hPe,fk,Nat.one_mul] at this
    rw [this]
  have hlst:=hlm2.least (by omega) (fun t=>(BJ hp hw t).2.2) (fun t ht=>by
   have:=per (t + 1 - T0)
   rw [show T0 + (t + 1 - T0) + (j * c + c)=t + (j * c + c) + 1 by omega,show T0 + (t + 1 - T0)=t + 1 by omega] at this
   unfold mkZ
   rw [this])
  have h0:0 <= m2:=by
   obtain ⟨t,_,e⟩:=hlst.2 0
   have:=(BJ hp hw t).2.1
   omega
  refine ⟨e0.symm,fun _=>⟨m2,h0,hlst,?_⟩⟩
  show (Int.tmod m2 2 == 0)=true ↔ _
  rw [beq_iff_eq,Int.tmod_eq_emod_of_nonneg h0]
 ·have e3:stZ d (d3 l) (T0 + (j * c + c)) ≠ q0:=by simpa using hb3
  obtain ⟨n1,n2⟩:=hi.next (by show lX d _ l.aD ≠ q0; rw [eg]; exact e3)
  have n1:Fst (fun q=>lX d q l.aD) q0 (stZ d (d3 l) (T0 + (j * c + c))) (i - 1):=eg ▸ n1
  refine ⟨⟨j + 1,by rw [fk,Nat.one_mul],by rw [fk,Nat.one_mul]; exact hlm2,_,n1⟩,?_⟩
  show HJ _ _ _ < HJ _ _ _
  rw [Dk n1,Dk hi]
  omega
def BAw (a:bd) (w:Nat -> Int):Prop:=∃ ρ:Nat -> Int,ρ 0 ∈ a.af /\ (∀ t,aY.mk (ρ t) (w t) (ρ (t + 1)) ∈ a.ar) /\ ∀ t,∃ s,t <= s /\ ρ s ∈ a.av
def plS (a:bd) (w:Nat -> Int):Nat -> bc
 | 0=>nB a
 | t + 1=>gq (lW a) (plS a w t) (w t)
def wN (w:Nat -> Int) (t:Nat):List Nat:=(List.range t).map fun i=>(w i).toNat
theorem Cm (w:Nat -> Int) (t:Nat):wN w (t + 1)=wN w t ++ [(w t).toNat]:=by
 unfold wN
 rw [List.range_succ,jJ]
 rfl
section
variable {a:bd} (h:gr a) {w:Nat -> Int} (hw:∀ t,0 <= w t /\ w t < a.ae)
include h hw
theorem BD : ∀ t,POk (plS a w t)
 | 0=>(n7 h).1
 | t + 1=>(p7 (j6 h).1 (BD t) (by have:=hw t; have:=h.ok.letters; omega)).1
theorem Ap (t:Nat):sQ (rz (lW a) (w t)) (AN (lW a)) (trT (plS a w t).ai) (trT (plS a w (t + 1)).ai) (plS a w (t + 1)).ay:=(p7 (j6 h).1 (BD h hw t) (by have:=hw t; have:=h.ok.letters; omega)).2
omit h in
theorem Aq : ∀ t,(wN w t).foldl (fun k (x:Nat)=>gq (lW a) k (x:Int)) (nB a)=plS a w t
 | 0=>rfl
 | t + 1=>by
  rw [Cm,nQ,Aq t]
  show gq _ _ ((w t).toNat:Int)=_
  rw [dB (hw t).1]
  rfl
theorem yw (t:Nat):mkZ (ef a) w t=(plS a w (t + 1)).ay:=by
 have c:=pj h
 have hv:∀ t,∀ x ∈ wN w t,x < a.ae.toNat:=fun t x hx=>by
  obtain ⟨i,_,rfl⟩:=cP.1 hx
  have:=hw i
  omega
 have st:∀ t,(wN w t).foldl (im (ef a)) 0=(stZ (ef a) w t).toNat:=fun t=>by
  induction t with
  | zero =>
   have:(ef a).af=0:=c.start
   show 0=(ef a).af.toNat
   rw [this]
   rfl
  | succ t ih =>
   rw [Cm,nQ,ih]
   rfl
 have e:=c.lang (wN w (t + 1)) (hv (t + 1))
 unfold fH at e
 have st1:=st (t + 1)
 unfold ef at st1
 rw [st1] at e
 refine e.trans ?_
 show (List.foldl _ (nB a) (wN w (t + 1))).ay=_
 rw [Aq hw]
theorem CZ {m:Int} (hm:su (mkZ (ef a) w) m) (ho:m % 2=1) (h0:0 <= m):¬ BAw a w:=by
 rintro ⟨ρ,r0,r1,r2⟩
 obtain ⟨⟨N,hN⟩,hj⟩:=hm
 obtain ⟨_,f2,f3,f4⟩:=n7 h
 have lt:∀ t,0 <= w t /\ w t < 4:=fun t=>by have:=hw t; have:=h.ok.letters; omega
 refine Lv (stp:=fun t=>rz (lW a) (w t)) (fin:=AN (lW a)) (T:=fun t=>trT (plS a w t).ai) (m:=fun t=>(plS a w (t + 1)).ay) (fun t=>Ap h hw t) (ρ:=ρ) ⟨f4 (List.ne_nil_of_mem r0),(f2 _).2 r0⟩ (fun t=>((j6 h).2.2 _ _ _ (lt t)).2 (r1 t)) (fun t=>?_) (j:=(m / 2).toNat) (N:=N) (fun t ht=>?_) (fun t=>?_)
 ·obtain ⟨s,s1,s2⟩:=r2 t
  exact ⟨s,s1,((j6 h).2.1 _).2 s2⟩
 ·have:=hN t ht
  rw [yw h hw] at this
  show 2 * ((m / 2).toNat:Int) + 1 <= (plS a w (t + 1)).ay
  omega
 ·obtain ⟨s,s1,s2⟩:=hj t
  rw [yw h hw] at s2
  refine ⟨s,s1,?_⟩
  show (plS a w (s + 1)).ay=2 * ((m / 2).toNat:Int) + 1
  omega
end
theorem GC {a:bd} {w:Nat -> Int} {stp:Nat -> Int -> Int -> Prop} (hs:∀ t p q,stp t p q -> aY.mk p (w t) q ∈ a.ar) {t t':Nat} {p q:Int} (h:Rn stp t p t' q):sn a w t p t' q:=by
 induction h with
 | nil=>exact .nil
 | step _ hx ih=>exact .step ih (hs _ _ _ hx)
theorem J3 {a:bd} (h:gr a) {l:bt} (hL:oJ a.ae l) {m:Int} (hm:su (mkZ (ef a) (d3 l)) m) (he:m % 2=0) (h0:1 <= m):FQ a l:=by
 have hw:=yA hL
 have lt:∀ t,0 <= d3 l t /\ d3 l t < 4:=fun t=>by have:=hw t; have:=h.ok.letters; omega
 obtain ⟨⟨N,hN⟩,hj⟩:=hm
 obtain ⟨f1,f2,f3,f4⟩:=n7 h
 have per:∀ t u,d8 l t=d8 l u -> ∀ d,d8 l (t + d)=d8 l (u + d):=fun t u e d=>by
  induction d with
  | zero=>exact e
  | succ d ih =>
   show lm l (d8 l (t + d))=lm l (d8 l (u + d))
   rw [ih]
 obtain ⟨s,s1,t,f,d,r1,r2,r3,r4,r5⟩:=Hz (stp:=fun t=>rz (lW a) (d3 l t)) (fin:=AN (lW a)) (T:=fun t=>trT (plS a (d3 l) t).ai) (m:=fun t=>(plS a (d3 l) (t + 1)).ay) (fun t=>Ap h hw t) (st:=fun q=>q ∈ a.af) (fun i q hi hq=>(f2 q).1 (by
   have hi:i < (trT (nB a).ai).n:=hi
   have:i=0:=by rcases f3 with e | e <;> omega
   subst this
   exact hq)) (i:=(m / 2 - 1).toNat) (N:=N) (S:=4) (L:=(gB l).length) (fun t ht=>by
   have:=hN t ht
   rw [yw h hw] at this
   show 2 * ((m / 2 - 1).toNat:Int) + 2 <= (plS a (d3 l) (t + 1)).ay
   omega) (fun t=>by
   obtain ⟨s,s1,s2⟩:=hj t
   rw [yw h hw] at s2
   refine ⟨s,s1,?_⟩
   show (plS a (d3 l) (s + 1)).ay=2 * ((m / 2 - 1).toNat:Int) + 2
   omega) (fun t k q hk hq=>⟨hq.1,AE ((BD h hw t).1.lb k hk) hq.2⟩) (pos:=d8 l) (nV hL) (fun t u e d=>⟨by
   show rz (lW a) (gx (gB l) (d8 l (t + d)))=rz (lW a) (gx (gB l) (d8 l (u + d)))
   rw [per t u e d],per t u e d⟩)
 have conv:∀ t p q,rz (lW a) (d3 l t) p q -> aY.mk p (d3 l t) q ∈ a.ar:=fun t p q hx=>((j6 h).2.2 _ _ _ (lt t)).1 hx
 exact ⟨s,s1,t,f,d,GC conv r1,((j6 h).2.1 _).1 r2,r3,GC conv r4,r5⟩
theorem CN {a:bd} {w:Nat -> Int} {t t':Nat} {p q:Int} (h:sn a w t p t' q):t <= t' /\ ∃ ρ:Nat -> Int,ρ t=p /\ ρ t'=q /\ ∀ u,t <= u -> u < t' -> aY.mk (ρ u) (w u) (ρ (u + 1)) ∈ a.ar:=by
 induction h with
 | nil=>exact ⟨bP _,fun _=>p,rfl,rfl,fun u h1 h2=>by omega⟩
 | @step t' q r _ hx ih =>
  obtain ⟨ht,ρ,e1,e2,e3⟩:=ih
  refine ⟨by omega,fun u=>if u <= t' then ρ u else r,by simp [ht,e1],by simp only [show ¬ t' + 1 <= t' by omega,if_false],fun u h1 h2=>?_⟩
  rcases cU.1 h2 with c | rfl
  ·simpa [show u <= t' by omega,show u + 1 <= t' by omega] using e3 u h1 c
  ·simpa [e2,show ¬ u + 1 <= u by omega] using hx
theorem Hu {a:bd} {l:bt} (hg:FQ a l):BAw a (d3 l):=by
 obtain ⟨s,s1,t,q,m,r1,hf,m0,r2,e⟩:=hg
 obtain ⟨_,ρ,a1,a2,a3⟩:=CN r1
 obtain ⟨_,σ,b1,b2,b3⟩:=CN r2
 have per:∀ d,d8 l (t + m + d)=d8 l (t + d):=fun d=>by
  induction d with
  | zero=>exact e
  | succ d ih =>
   show lm l (d8 l (t + m + d))=lm l (d8 l (t + d))
   rw [ih]
 have perk:∀ k d,d8 l (t + k * m + d)=d8 l (t + d):=fun k=>by
  induction k with
  | zero=>intro d; rw [Nat.zero_mul,eG]
  | succ k ih =>
   intro d
   rw [show t + (k + 1) * m + d=t + m + (k * m + d) by rw [fk]; omega,per,<- ft,ih]
 have wper:∀ u,d3 l (t + u)=d3 l (t + u % m):=fun u=>by
  have:=perk (u / m) (u % m)
  have hd:=mR u m
  rw [Nat.mul_comm] at hd
  rw [ft,hd] at this
  unfold d3
  rw [this]
 refine ⟨fun u=>if u < t then ρ u else σ (t + (u - t) % m),?_,fun u=>?_,fun u=>?_⟩
 ·by_cases c:0 < t
  ·simpa [c,a1] using s1
  ·have:t=0:=by omega
   subst this
   have:σ 0=ρ 0:=by rw [b1,a2]
   simpa [this,a1] using s1
 ·by_cases c:u + 1 < t
  ·simpa [show u < t by omega,c] using a3 u (by omega) (by omega)
  ·by_cases c2:u + 1=t
   ·have:=a3 u (by omega) (by omega)
    rw [c2,a2] at this
    have e0:u + 1 - t=0:=by omega
    simpa [show u < t by omega,c,e0,b1] using this
   ·obtain ⟨v,rfl⟩:∃ v,u=t + v:=⟨u - t,by omega⟩
    have hb:=b3 (t + v % m) (by omega) (by have:=km v m0; omega)
    rw [<- wper v] at hb
    have e1:t + v + 1 - t=v + 1:=by omega
    have e2:t + v - t=v:=by omega
    have nx:σ (t + (v + 1) % m)=σ (t + v % m + 1):=by
     have hm:=km v m0
     have hd:=mR v m
     by_cases c3:v % m + 1=m
     ·have:(v + 1) % m=0:=by
       rw [show v + 1=m * (v / m) + m by omega,<- Nat.mul_succ,Nat.mul_mod_right]
      rw [this,eG,b1,show t + v % m + 1=t + m by omega,b2]
     ·have:(v + 1) % m=v % m + 1:=by
       rw [show v + 1=m * (v / m) + (v % m + 1) by omega,Nat.mul_add_mod,Nat.mod_eq_of_lt (by omega)]
      rw [this,ft]
    simpa [show ¬ t + v < t by omega,show ¬ t + v + 1 < t by omega,e1,e2,nx] using hb
 ·refine ⟨t + u * m,?_,?_⟩
  ·have:=py u (show 1 <= m from m0)
   omega
  ·have e1:t + u * m - t=u * m:=by omega
   have:(u * m) % m=0:=Nat.mul_mod_left u m
   simpa [show ¬ t + u * m < t by omega,e1,this,b1] using hf
theorem Cu {a:bd} (h:gr a) {w:Nat -> Int} (hw:∀ t,0 <= w t /\ w t < a.ae) (t:Nat):mkZ (i8 (ef a)) w t=mkZ (ef a) w t - 1:=by
 have hl:(i8 (ef a)).ae=a.ae:=by
  have h1:=(pj h).letters
  have h2:=h.ok.letters
  show (eX a.ae.toNat (kQ a)).ae=_
  omega
 have st:∀ t,stZ (i8 (ef a)) w t=stZ (ef a) w t:=fun t=>by
  induction t with
  | zero=>rfl
  | succ t ih =>
   show jx (i8 (ef a)) (stZ (i8 (ef a)) w t) (w t)=_
   rw [ih]
   rfl
 obtain ⟨i0,i1⟩:=t9 (xJ h) (w:=w) (by rw [hl]; exact hw) (t + 1)
 have hm:(ef a).ay.length=(ef a).aa.length:=(pj h).wf.mark
 have i1:stZ (i8 (ef a)) w (t + 1) < ((ef a).aa.length:Int):=i1
 unfold mkZ
 rw [st] at i0 i1 ⊢
 show ((ef a).ay.map _).getD _ 0=_
 have hlt:(stZ (ef a) w (t + 1)).toNat < (ef a).ay.length:=by omega
 rw [er,cY,er,cO hlt]
 rfl
theorem JU {n:Int} {l:bt} (h:oJ n l) (hn:1 <= n /\ n <= 4):nr n l=0:=by
 have hh:(decide (n < 1) || decide (n > 4))=false:=by
  simp only [jT,decide_eq_false_iff_not]
  omega
 have may:∀ w:List Int,w.length <= 60 -> (∀ a ∈ w,0 <= a /\ a < n) -> jW n w=0:=fun w h1 h2=>by
  unfold jW
  rw [hh,if_neg (by simp),if_neg (by omega),if_neg]
  rw [Bool.not_eq_true,oL]
  intro a ha
  have:=h2 a ha
  simp only [fc,fu]
  omega
 have:=h.pos
 unfold nr
 rw [may _ h.hl h.head,may _ h.ll h.loop,if_neg (by simp),if_neg (by simp),if_neg (by omega)]
theorem wI {a:bd} (h:gr a) {l:bt} {p q:Bool × Int} (hp:It a l p) (hq:H1 (i8 (ef a)) l q) (h0:p.2=0):q.2=0 /\ p.1 ≠ q.1:=by
 obtain ⟨_,hL,hg⟩:=hp h0
 have hl:(i8 (ef a)).ae=a.ae:=by
  have h1:=(pj h).letters
  have h2:=h.ok.letters
  show (eX a.ae.toNat (kQ a)).ae=_
  omega
 have e0:q.2=0:=by rw [hq.1,hl]; exact JU hL h.ok.letters
 obtain ⟨m,m0,hm,hqm⟩:=hq.2 e0
 have hw:=yA hL
 have hm1:su (mkZ (ef a) (d3 l)) (m + 1):=by
  obtain ⟨⟨N,hN⟩,hj⟩:=hm
  refine ⟨⟨N,fun t ht=>?_⟩,fun t=>?_⟩
  ·have:=hN t ht
   rw [Cu h hw] at this
   omega
  ·obtain ⟨s,s1,s2⟩:=hj t
   rw [Cu h hw] at s2
   exact ⟨s,s1,by omega⟩
 refine ⟨e0,fun e=>?_⟩
 by_cases c:FQ a l
 ·have h1:=hg.2 c
  rw [e] at h1
  have:=hqm.1 h1
  exact CZ h hw hm1 (by omega) (by omega) (Hu c)
 ·by_cases d:m % 2=0
  ·have:=hqm.2 d
   rw [<- e] at this
   exact c (hg.1 this)
  ·exact c (J3 h hL hm1 (by omega) (by omega))
def Seg (p:bF) (may:Int -> Bool) (x y:Int) (n:Nat) (z u:Nat -> Int):Prop:=z 0=x /\ z n=y /\ ∀ i,i < n -> ja p (z i) (z (i + 1)) (u i) /\ may (z (i + 1))=true
theorem PWk.seg {p:bF} {may:Int -> Bool} {x y:Int} {w:List Int} (h:PWk p may x w y):∃ n z u,0 < n /\ Seg p may x y n z u:=by
 induction h with
 | @one y c a b =>
  refine ⟨1,fun i=>if i=0 then x else y,fun _=>c,Nat.one_pos,rfl,rfl,fun i hi=>?_⟩
  rw [show i=0 by omega]
  exact ⟨a,b⟩
 | @step w y v c _ a b ih =>
  obtain ⟨n,z,u,n0,z0,zn,hz⟩:=ih
  refine ⟨n + 1,fun i=>if i <= n then z i else v,fun i=>if i < n then u i else c,by omega,by simp [z0],by simp only [show ¬ n + 1 <= n by omega,if_false],fun i hi=>?_⟩
  rcases cU.1 hi with d | rfl
  ·simpa [d,show i <= n by omega,show i + 1 <= n by omega] using hz i d
  ·simpa [zn,show ¬ i + 1 <= i by omega] using ⟨a,b⟩
theorem Seg.app {p:bF} {may:Int -> Bool} {x y v:Int} {n m:Nat} {z u z' u':Nat -> Int} (h:Seg p may x y n z u) (h':Seg p may y v m z' u'):Seg p may x v (n + m) (fun i=>if i < n then z i else z' (i - n)) (fun i=>if i < n then u i else u' (i - n)):=by
 obtain ⟨a0,an,ah⟩:=h
 obtain ⟨b0,bm,bh⟩:=h'
 refine ⟨?_,by simp only [show ¬ n + m < n by omega,if_false,Nat.add_sub_cancel_left,bm],fun i hi=>?_⟩
 ·by_cases c:0 < n
  ·simpa [c] using a0
  ·have:n=0:=by omega
   subst this
   simp [b0,<- an,a0]
 ·by_cases c:i + 1 < n
  ·simpa [c,show i < n by omega] using ah i (by omega)
  ·by_cases d:i + 1=n
   ·have:=ah i (by omega)
    rw [d,an] at this
    simpa [show i < n by omega,d,b0] using this
   ·have:=bh (i - n) (by omega)
    simpa [show ¬ i < n by omega,show ¬ i + 1 < n by omega,show i + 1 - n=i - n + 1 by omega] using this
theorem Seg.loop {p:bF} {may:Int -> Bool} {x:Int} {n:Nat} {z u:Nat -> Int} (h:Seg p may x x n z u) (hn:0 < n) (k:Nat):Seg p may x x (k * n) (fun i=>z (i % n)) (fun i=>u (i % n)) /\ ∀ i,ja p (z (i % n)) (z ((i + 1) % n)) (u (i % n)) /\ may (z ((i + 1) % n))=true:=by
 obtain ⟨a0,an,ah⟩:=h
 have all:∀ i,ja p (z (i % n)) (z ((i + 1) % n)) (u (i % n)) /\ may (z ((i + 1) % n))=true:=fun i=>by
  have hm:=km i hn
  have hd:=mR i n
  have:=ah (i % n) hm
  by_cases c:i % n + 1=n
  ·have e:(i + 1) % n=0:=by
    rw [show i + 1=n * (i / n) + n by omega,<- Nat.mul_succ,Nat.mul_mod_right]
   rw [e,a0,<- an]
   rwa [c] at this
  ·have e:(i + 1) % n=i % n + 1:=by
    rw [show i + 1=n * (i / n) + (i % n + 1) by omega,Nat.mul_add_mod,Nat.mod_eq_of_lt (by omega)]
   rw [e]
   exact this
 exact ⟨⟨by simp [a0],by simp [a0],fun i _=>all i⟩,all⟩
theorem BP {a:bd} (ha:gr a) {d:bz} (hd:kD d) (hl:d.ae=a.ae) {p:bF} (hp:FO a d p) {m:Int} {r:bt × Bool} (hr:Im p m r) (hf:r.2=true):∃ w:Nat -> Int,(∀ t,0 <= w t /\ w t < a.ae) /\ BAw a w /\ su (mkZ d w) m:=by
 obtain ⟨pa,pd,pi⟩:=hp
 obtain ⟨x,hx,hH,y,f,hfm,hg,hw1,w2,hw2⟩:=hr hf
 have h4:=ha.four
 have hst:=ha.ok.states
 obtain ⟨S,hS⟩:∃ S:Nat,(S:Int)=a.ac:=⟨a.ac.toNat,by omega⟩
 have hS':a.ac.toNat=S:=by omega
 rw [hS'] at pi
 rw [pa] at hfm
 -- round and round,Mb y
 obtain ⟨c,z,u,c0,hseg,iy,hiy,ey⟩:∃ c z u,0 < c /\ Seg p (fun x=>decide (mkP p x >= m)) x x c z u /\ ∃ iy,iy < c /\ z iy=y:=by
  obtain ⟨n2,z2,u2,n20,s2⟩:=hw2.seg
  rcases hw1 with e | ⟨w1,hw1⟩
  ·subst e
   exact ⟨n2,z2,u2,n20,s2,0,n20,s2.1⟩
  ·obtain ⟨n1,z1,u1,n10,s1⟩:=hw1.seg
   exact ⟨n1 + n2,_,_,by omega,s1.app s2,n1,by omega,by simp [s2.1]⟩
 obtain ⟨_,hloop⟩:=hseg.loop c0 0
 -- the head
 obtain ⟨s,hs,n,z0,u0,hh⟩:∃ s ∈ a.af,∃ n z0 u0,Seg p (fun _=>true) (d.af * a.ac + s) x n z0 u0:=by
  obtain ⟨s,hs,e⟩:=hH
  rw [pa] at hs
  rw [pa,pd] at e
  refine ⟨s,hs,?_⟩
  rcases e with e | ⟨w,hw⟩
  ·exact ⟨0,fun _=>x,fun _=>0,e,rfl,fun i hi=>absurd hi (e9 _)⟩
  ·obtain ⟨n,z0,u0,_,h0⟩:=hw.seg
   exact ⟨n,z0,u0,h0⟩
 obtain ⟨Z,hZ⟩:∃ Z:Nat -> Int,Z=fun i=>if i < n then z0 i else z ((i - n) % c):=⟨_,rfl⟩
 obtain ⟨U,hU⟩:∃ U:Nat -> Int,U=fun i=>if i < n then u0 i else u ((i - n) % c):=⟨_,rfl⟩
 have zx:z 0=x:=hseg.1
 have Zh:∀ i,i < n -> Z i=z0 i:=fun i hi=>by rw [hZ]; simp [hi]
 have Zc:∀ i,Z (n + i)=z (i % c):=fun i=>by rw [hZ]; simp only [show ¬ n + i < n by omega,if_false,Nat.add_sub_cancel_left]
 have Uc:∀ i,U (n + i)=u (i % c):=fun i=>by rw [hU]; simp only [show ¬ n + i < n by omega,if_false,Nat.add_sub_cancel_left]
 have hstep:∀ i,ja p (Z i) (Z (i + 1)) (U i):=fun i=>by
  by_cases e:i < n
  ·have:=(hh.2.2 i e).1
   by_cases e2:i + 1 < n
   ·rw [hZ,hU]
    simpa [e,e2] using this
   ·have e3:i + 1=n:=by omega
    rw [e3,hh.2.1] at this
    have h0:=Zc 0
    rw [eG,Nat.zero_mod,zx] at h0
    rw [e3,h0,Zh i e,hU]
    simpa [e] using this
  ·obtain ⟨j,rfl⟩:∃ j,i=n + j:=⟨i - n,by omega⟩
   rw [Zc,show n + j + 1=n + (j + 1) by omega,Zc,Uc]
   exact (hloop j).1
 have Z0:Z 0=d.af * a.ac + s:=by
  by_cases e:0 < n
  ·rw [Zh 0 e,hh.1]
  ·have e0:n=0:=by omega
   have h0:=Zc 0
   rw [e0,eG,Nat.zero_mod,zx] at h0
   rw [h0,<- hh.2.1,e0,hh.1]
 -- what ways of the product are
 have way:∀ X Y k,ja p X Y k -> ∃ (j:Nat) (st:aY),st ∈ a.ar /\ X=(j:Int) * S + st.am /\ Y=jx d j st.az * S + st.aA /\ k=st.az:=fun X Y k ⟨row,h1,h2⟩=>by
  obtain ⟨i0,i1,i2⟩:=bs h1
  have e:gx p.aa X.toNat=row:=by
   rw [eS (cg.1 i2).1]
   exact (cg.1 i2).2
  rw [<- e] at h2
  obtain ⟨j,st,j1,j2,j3,j4,j5⟩:=pi.mem _ _ _ h2
  have:=(ha.q4 j2).1.1
  refine ⟨j,st,j2,?_,j4,j5⟩
  rw [show X=((X.toNat:Nat):Int) by omega,j3,nS,g9,dB this]
 have uniq:∀ (q q':Int) (i i':Nat),0 <= q /\ q < S -> 0 <= q' /\ q' < S -> (i:Int) * S + q=(i':Int) * S + q' -> i=i' /\ q=q':=fun q q' i i' hq hq' e=>by
  have:=nW (N:=S) (i:=i) (j:=i') (p:=q.toNat) (q:=q'.toNat) (by omega) (by omega) (by
   have:((i * S + q.toNat:Nat):Int)=((i' * S + q'.toNat:Nat):Int):=by
    rw [nS,nS,g9,g9,dB hq.1,dB hq'.1]
    exact e
   exact Int.ofNat.inj this)
  exact ⟨this.1,by omega⟩
 have stS:∀ st:aY,st ∈ a.ar -> (0 <= st.am /\ st.am < S) /\ (0 <= st.aA /\ st.aA < S) /\ 0 <= st.az /\ st.az < a.ae:=fun st hm=>by
  have:=ha.ok.steps st hm
  omega
 have hUl:∀ t,0 <= U t /\ U t < a.ae:=fun t=>by
  obtain ⟨j,st,h1,_,_,h4⟩:=way _ _ _ (hstep t)
  rw [h4]
  exact (stS st h1).2.2
 have hin:=t9 hd (w:=U) (by rw [hl]; exact hUl)
 have inv:∀ t,∃ q:Int,(0 <= q /\ q < S) /\ Z t=stZ d U t * S + q:=fun t=>by
  induction t with
  | zero=>exact ⟨s,by have:=ha.ok.start s hs; omega,by rw [Z0,hS]; rfl⟩
  | succ t ih =>
   obtain ⟨q,hq,e⟩:=ih
   obtain ⟨j,st,h1,h2,h3,h4⟩:=way _ _ _ (hstep t)
   obtain ⟨i0,i1⟩:=hin t
   have:=uniq q st.am (stZ d U t).toNat j hq (stS st h1).1 (by rw [dB i0,<- e,h2])
   refine ⟨st.aA,(stS st h1).2.1,?_⟩
   rw [h3,<- h4,<- this.1,dB i0]
   rfl
 obtain ⟨ρ,hρ⟩:∃ ρ:Nat -> Int,∀ t,(0 <= ρ t /\ ρ t < S) /\ Z t=stZ d U t * S + ρ t:=⟨fun t=>Classical.choose (inv t),fun t=>gf (inv t)⟩
 have hst2:∀ t,aY.mk (ρ t) (U t) (ρ (t + 1)) ∈ a.ar:=fun t=>by
  obtain ⟨j,st,h1,h2,h3,h4⟩:=way _ _ _ (hstep t)
  obtain ⟨i0,i1⟩:=hin t
  obtain ⟨k0,k1⟩:=hin (t + 1)
  obtain ⟨e1,e2⟩:=uniq (ρ t) st.am (stZ d U t).toNat j (hρ t).1 (stS st h1).1 (by rw [dB i0,<- (hρ t).2,h2])
  have hs2:stZ d U (t + 1)=jx d j st.az:=by rw [<- h4,<- e1,dB i0]; rfl
  obtain ⟨_,e4⟩:=uniq (ρ (t + 1)) st.aA (stZ d U (t + 1)).toNat (stZ d U (t + 1)).toNat (hρ (t + 1)).1 (stS st h1).2.1 (by rw [dB k0,<- (hρ (t + 1)).2,h3,hs2])
  rw [e2,e4,h4]
  exact h1
 have modq:∀ t,Int.tmod (Z t) a.ac=ρ t /\ Int.tdiv (Z t) a.ac=stZ d U t:=fun t=>by
  obtain ⟨i0,i1⟩:=hin t
  obtain ⟨⟨r0,r1⟩,e⟩:=hρ t
  have z0:0 <= Z t:=by
   rw [e]
   have:=mi i0 (show (0:Int) <= S by omega)
   omega
  rw [Int.tmod_eq_emod_of_nonneg z0,nN z0,<- hS,e]
  constructor
  ·rw [Int.add_comm,Int.add_mul_emod_self_right,Int.emod_eq_of_lt r0 r1]
  ·rw [Int.add_comm,Int.add_mul_ediv_right _ _ (by omega),Int.ediv_eq_zero_of_lt r0 r1,Int.zero_add]
 have mk:∀ t,mkP p (Z (t + 1))=mkZ d U t:=fun t=>by
  unfold mkP mkZ
  rw [pa,pd,(modq (t + 1)).2]
 have again:∀ N i,i < c -> ∃ t,N <= t /\ 1 <= t /\ Z t=z i:=fun N i hi=>by
  refine ⟨n + ((N + 1) * c + i),?_,?_,?_⟩
  ·have:=py (N + 1) (show 1 <= c from c0)
   omega
  ·have:=py (N + 1) (show 1 <= c from c0)
   omega
  ·rw [Zc,mU,Nat.add_mul_mod_self_right,Nat.mod_eq_of_lt hi]
 refine ⟨U,hUl,⟨ρ,?_,hst2,fun t=>?_⟩,⟨n,fun t ht=>?_⟩,fun N=>?_⟩
 ·have e:=(hρ 0).2
  rw [Z0,<- hS] at e
  obtain ⟨i0,_⟩:=hd.start
  have:=(uniq s (ρ 0) d.af.toNat d.af.toNat (by have:=ha.ok.start s hs; omega) (hρ 0).1 (by rw [dB i0]; exact e)).2
  rw [<- this]
  exact hs
 ·obtain ⟨t',t1,_,t2⟩:=again t iy hiy
  refine ⟨t',t1,?_⟩
  have hg:Int.tmod y p.au.ac=f:=by simpa [jS] using hg
  rw [pa,<- ey,<- t2,(modq t').1] at hg
  rw [hg]
  exact hfm
 ·obtain ⟨j,rfl⟩:∃ j,t=n + j:=⟨t - n,by omega⟩
  have:=ca (hloop j).2
  rw [<- Zc,<- ft,mk] at this
  exact this
 ·obtain ⟨t,t1,t2,t3⟩:=again (N + 1) 0 c0
  refine ⟨t - 1,by omega,?_⟩
  have:=mk (t - 1)
  rw [show t - 1 + 1=t by omega,t3,zx,hx] at this
  exact this.symm
def vn (a b:bd) (r:bt × Bool × Int):Prop:=r.2.2=0 /\ (r.2.1=true \/ ∃ w:Nat -> Int,BAw a w /\ ¬ BAw b w)
def xo (a:bd) (b:bd) (Q:(bt × Bool × Int) -> Prop):Prop:=
 a.af.length <= 9223372036854775807 ->
 a.ar.length <= 9223372036854775807 ->
 a.av.length <= 9223372036854775807 ->
 b.af.length <= 9223372036854775807 ->
 b.ar.length <= 9223372036854775807 ->
 b.av.length <= 9223372036854775807 ->
 (∃ (Inv:Int -> Prop) (mu:Int -> Nat),Inv 0 /\
 ∀ x19,Inv x19 -> (cv (decide (x19 < (([a,b]:List bd).length:Int))) (∃ e,cq ([a,b]:List bd) x19=some e /\
 cv ((ee e) != 0) (Q ((bt.mk [] []),false,(ee e))) ((Inv (wr (x19 + 1)) /\ mu (wr (x19 + 1)) < mu x19))) (cv (a.ae != b.ae) (Q ((bt.mk [] []),false,3)) (cv ((decide (a.ac > 4)) || (decide (b.ac > 4))) (Q ((bt.mk [] []),false,1)) ((gr b) /\
 (gr a /\ kD (ef b) /\ ((ef b)).ae=(a).ae) /\
 ∀ r:bF,(FO a (ef b)) r ->
 (∃ (Inv_2:Int -> Prop) (mu_2:Int -> Nat),Inv_2 1 /\
 ∀ x12,Inv_2 x12 -> (cv (decide (x12 <= 9)) ((zK r) /\
 ∀ r_2:(bt × Bool),(Im r x12) r_2 ->
 (cv r_2.2 (Q (r_2.1,false,0)) ((Inv_2 (wr (x12 + 2)) /\ mu_2 (wr (x12 + 2)) < mu_2 x12)))) (Q ((bt.mk [] []),true,0)))))))))
abbrev EA := (.box [.v (.slice none 0 0), .v (.slice none 0 0)] 27 false:br)
abbrev GL := ([bg 2 (.ptr 0 0),bg 3 (.ptr 1 0),bg 4 (.ptr 2 0)]:List (Nat × SC))
abbrev Jx (a:bd) (b:bd):=([.box (bd.cl a) 25 false, .box (bd.cl b) 25 false,(EA), .gone]:List br)
abbrev GK := ([.gone, .gone,(EA), .gone, .gone]:List br)
set_option maxHeartbeats 2000000 in
theorem DK (a:bd) (b:bd) (Q:(bt × Bool × Int) -> Prop) (h:xo a b Q):Ct 4 [.sv (.agg [I a.ae,I a.ac,LS aZ a.af,LS aY.ty a.ar,LS aZ a.av]), .sv (.agg [I b.ae,I b.ac,LS aZ b.af,LS aY.ty b.ar,LS aZ b.av])] [] Q (fun (r:(bt × Bool × Int))=>.tup [.agg [LS aZ r.1.aG,LS aZ r.1.aD], .one (B r.2.1), .one (I r.2.2)]):=by
 have ht:=bA
 refine Ct.body Tryz.func4 rfl rfl rfl rfl (fun c hn=>?_)
 unfold xo at h
 refine bQ 0 2 (by rfl) (by rfl) (fun hl=>?_)
 replace h:=h hl
 clear hl
 refine bQ 0 3 (by rfl) (by rfl) (fun hl=>?_)
 replace h:=h hl
 clear hl
 refine bQ 0 4 (by rfl) (by rfl) (fun hl=>?_)
 replace h:=h hl
 clear hl
 refine bQ 1 2 (by rfl) (by rfl) (fun hl=>?_)
 replace h:=h hl
 clear hl
 refine bQ 1 3 (by rfl) (by rfl) (fun hl=>?_)
 replace h:=h hl
 clear hl
 refine bQ 1 4 (by rfl) (by rfl) (fun hl=>?_)
 replace h:=h hl
 clear hl
 refine bk hn ?_
 refine bi (bp (bC ht hn 2 ⟨(15, .sv (.agg (bd.cl a))) :: (16, .sv (.agg (bd.cl b))) :: GL,[.box (bd.cl a) 25 false, .box (bd.cl b) 25 false,EA]⟩ ?_))
 refine dg (K:=[]) (p:=some (3,bf 25 bd.ty ([a,b]:List bd))) hn (by rfl) (lI (T:=bd.ty) ([a,b]:List bd) 3 rfl) (by rfl) (by rfl) (by rfl) ?_
 refine bM hn ?_
 refine bj (fC h (fun zz=>⟨[bu 2 0 0,bu 3 1 0,bu 4 2 0,bx 17 3,ba 18 (([a,b]:List bd).length:Int),ba 19 zz],[.box (bd.cl a) 25 false, .box (bd.cl b) 25 false,EA,bf 25 bd.ty ([a,b]:List bd)]⟩) fun Inv mu x19 h=>?_)
 refine bk hn ?_
 refine bi (bv h (fun h=>?_) (fun h=>?_))
 refine bn (bi (bj (bp ?_)))
 obtain ⟨e,he,h⟩:=h
 refine bT hn (iO (T:=bd.ty) rfl he) ?_
 refine bT hn (lO (T:=bd.ty) rfl (bs he).2.2) ?_
 refine bM hn ?_
 refine bp (cN hn 1 ?_)
 refine fK hn (cL (tR e) Kc rfl) ?_
 refine bM hn ?_
 refine bk hn ?_
 refine bv h (fun h=>?_) (fun h=>?_)
 refine bp (cw ht hn 5 ⟨[bu 4 2 0,bG 5 false,ba 6 (ee e)],GK⟩ ?_)
 refine cT (dn (T:=aZ) 2 0 (by rfl) (by rfl) ?_)
 refine dn (T:=aZ) 2 1 (by rfl) (by rfl) ?_
 exact eW ht ((bt.mk [] []),false,(ee e)) h (by kernel_rfl) rfl
 exact bn (cn hn (wr (x19 + 1)) h)
 refine bD rfl (bi (bk hn ?_))
 refine bv h (fun h=>?_) (fun h=>?_)
 refine bp (cw ht hn 4 ⟨[bu 4 2 0,bG 5 false,ba 6 3],[.gone, .gone,EA, .gone]⟩ ?_)
 refine cT (dn (T:=aZ) 2 0 (by rfl) (by rfl) ?_)
 refine dn (T:=aZ) 2 1 (by rfl) (by rfl) ?_
 exact eW ht ((bt.mk [] []),false,3) h (by kernel_rfl) rfl
 refine bn (bi (bp (bC ht hn 4 ⟨bG 39 (decide (a.ac > 4)) :: GL,(Jx a b)⟩ ?_)))
 refine eB ⟨bG 43 ((decide (a.ac > 4)) || (decide (b.ac > 4))) :: GL,(Jx a b)⟩ ?_ ?_
 refine cz (decide (a.ac > 4)) (fun hb0=>?_) (fun hb0=>?_)
 refine cf 39 hb0 ?_
 refine bC ht hn 4 ⟨bG 43 true :: GL,(Jx a b)⟩ ?_
 exact bH (sub_ok (by simp only [hb0]; kernel_rfl))
 refine cf 39 hb0 ?_
 refine bC ht hn 4 ⟨bG 43 (decide (b.ac > 4)) :: GL,(Jx a b)⟩ ?_
 exact bH (sub_ok (by simp only [hb0]; kernel_rfl))
 refine bv h (fun h=>?_) (fun h=>?_)
 refine bp (cw ht hn 4 ⟨[bu 4 2 0,bG 5 false,ba 6 1],[.gone, .gone,EA, .gone]⟩ ?_)
 refine cT (dn (T:=aZ) 2 0 (by rfl) (by rfl) ?_)
 refine dn (T:=aZ) 2 1 (by rfl) (by rfl) ?_
 exact eW ht ((bt.mk [] []),false,1) h (by kernel_rfl) rfl
 refine bn (bp (cN hn 1 ?_))
 obtain ⟨hp,h⟩:=h
 refine fK hn (cL (Cj b hp) MA rfl) ?_
 refine bM hn ?_
 refine bp (bC ht hn 2 ⟨[bu 4 2 0,(47, .sv (.agg (bd.cl a))),(48, .sv (.agg [I (ef b).ae,I (ef b).af,LS (cB aZ) (ef b).aa,LS aZ (ef b).ay]))],GK⟩ ?_)
 obtain ⟨hp,h⟩:=h
 refine fw (Q:=FO a (ef b)) (x:=fun (r:bF)=>.sv (.one (.pe (eu (.agg [I r.au.ae,I r.au.ac,LS aZ r.au.af,LS aY.ty r.au.ar,LS aZ r.au.av,I r.aB.ae,I r.aB.af,LS (cB aZ) r.aB.aa,LS aZ r.aB.ay,LS (cB cm.ty) r.aa])) 10))) (p:=fun _=>none) hn (by rfl) (eH (Iz a (ef b) hp) NU (caps:=[]) [] rfl (by rfl) (by kernel_rfl) (by kernel_rfl) (by rfl) (fun _=>rfl) (by rfl)) (fun r hr_2=>⟨by rfl,_,by rfl,?_⟩)
 replace h:=h r hr_2
 refine bM hn ?_
 refine bi (bk hn ?_)
 refine bj (fC h (fun zz=>⟨[bu 4 2 0,bg 11 (.pe (eu (.agg [I r.au.ae,I r.au.ac,LS aZ r.au.af,LS aY.ty r.au.ar,LS aZ r.au.av,I r.aB.ae,I r.aB.af,LS (cB aZ) r.aB.aa,LS aZ r.aB.ay,LS (cB cm.ty) r.aa])) 10),ba 12 zz],GK⟩) fun Inv_2 mu_2 x12 h=>?_)
 refine bi (bk hn ?_)
 refine bv h (fun h=>?_) (fun h=>?_)
 refine bn (bi (bj (bp (bC ht hn 2 ⟨[bu 4 2 0,bg 11 (.pe (eu (.agg [I r.au.ae,I r.au.ac,LS aZ r.au.af,LS aY.ty r.au.ar,LS aZ r.au.av,I r.aB.ae,I r.aB.af,LS (cB aZ) r.aB.aa,LS aZ r.aB.ay,LS (cB cm.ty) r.aa])) 10),ba 12 x12,bg 55 (.pe (eu (.agg [I r.au.ae,I r.au.ac,LS aZ r.au.af,LS aY.ty r.au.ar,LS aZ r.au.av,I r.aB.ae,I r.aB.af,LS (cB aZ) r.aB.aa,LS aZ r.aB.ay,LS (cB cm.ty) r.aa])) 10),ba 56 x12],GK⟩ ?_))))
 obtain ⟨hp,h⟩:=h
 refine fw (Q:=Im r x12) (x:=fun (r:(bt × Bool))=>.tup [.agg (bt.cl r.1), .one (B r.2)]) (p:=fun _=>none) hn (by rfl) (eH (ID r x12 hp) NT (caps:=[]) [] rfl (by rfl) (by kernel_rfl) (by kernel_rfl) (by rfl) (fun _=>rfl) (by rfl)) (fun r_2 hr_2_2=>⟨by rfl,_,by rfl,?_⟩)
 replace h:=h r_2 hr_2_2
 refine bM hn ?_
 refine bk hn ?_
 refine bv h (fun h=>?_) (fun h=>?_)
 exact cD hn (r_2.1,false,0) h
 exact bn (cn hn (wr (x12 + 2)) h)
 refine bD rfl (bp (cw ht hn 4 ⟨[bu 4 2 0,bG 5 true,ba 6 0],GK⟩ ?_))
 refine cT (dn (T:=aZ) 2 0 (by rfl) (by rfl) ?_)
 refine dn (T:=aZ) 2 1 (by rfl) (by rfl) ?_
 exact eW ht ((bt.mk [] []),true,0) h (by kernel_rfl) rfl
theorem en4 : ∀ args w,(callFunc 4 args).run Tryz.prog w=.ok (.enter 4 args) w:=enters_of Tryz.func4 (by kernel_rfl) rfl
theorem LI {a:bd} (h:gr a):kD (ef a) /\ (ef a).ae=a.ae:=by
 have t:=xJ h
 have c:=pj h
 have hl:=h.ok.letters
 have e:(ef a).ae=a.ae:=by
  have:=c.letters
  show (eX a.ae.toNat (kQ a)).ae=_
  omega
 exact ⟨⟨t.letters,t.size,c.wf.mark,t.rows,t.start,t.in_,fun m hm=>by have:=ph h m hm; omega⟩,e⟩
theorem JE {a:bd} (ha:gr a) {d:bz} (hd:kD d) (hl:d.ae=a.ae) {p:bF} (hp:FO a d p):zK p:=by
 obtain ⟨pa,pd,pi⟩:=hp
 have h4:=ha.four
 have hst:=ha.ok.states
 have hsz:=hd.size
 obtain ⟨S,hS⟩:∃ S:Nat,(S:Int)=a.ac:=⟨a.ac.toNat,by omega⟩
 have hS':a.ac.toNat=S:=by omega
 rw [hS'] at pi
 have rows:∀ row ∈ p.aa,∃ x,x < p.aa.length /\ row=gx p.aa x:=fun row hr=>by
  obtain ⟨x,hx,e⟩:=List.getElem_of_mem hr
  exact ⟨x,hx,by rw [eS hx,e]⟩
 have len:(p.aa.length:Int)=a.ac * (d.aa.length:Int):=by rw [pi.len,g9,hS]
 have l1:=iD ha.ok.rs ha.ok.start (by omega)
 have l2:=iD ha.ok.rf ha.ok.final (by omega)
 unfold zK
 rw [pa,pd]
 refine ⟨⟨by rw [pa]; omega,by rw [pa,pd]; exact len,by rw [pd]; exact hsz.2,by rw [pd]; exact hd.marks,fun row hr e he=>?_,fun row hr=>?_⟩,hd.start,ha.ok.start,by omega,ha.ok.final,by omega⟩
 ·obtain ⟨x,hx,rfl⟩:=rows row hr
  obtain ⟨y,c⟩:=e
  obtain ⟨j,st,j1,j2,j3,j4,j5⟩:=pi.mem _ _ _ he
  have hs:=ha.ok.steps st j2
  obtain ⟨_,_,k0,k1⟩:=lC hd (q:=(j:Int)) (a:=st.az) ⟨by omega,by omega⟩ (by omega)
  have:=gT (N:=S) (n:=d.aa.length) (i:=(jx d j st.az).toNat) (q:=st.aA.toNat) (by omega) (by omega)
  have e:(((jx d j st.az).toNat * S + st.aA.toNat:Nat):Int)=y:=by
   rw [nS,g9,dB k0,dB hs.2.1.1,j4]
  show 0 <= y /\ y < _
  rw [pi.len]
  omega
 ·obtain ⟨x,hx,rfl⟩:=rows row hr
  have:=pi.few x
  have:d.aa.length * 40000 <= 20000 * 40000:=dL _ hsz.2
  omega
theorem th (a:bd) (b:bd) (hp:gr a /\ gr b /\ b.ae=a.ae)  : Ct 4 [.sv (.agg [I a.ae,I a.ac,LS aZ a.af,LS aY.ty a.ar,LS aZ a.av]), .sv (.agg [I b.ae,I b.ac,LS aZ b.af,LS aY.ty b.ar,LS aZ b.av])] [] (vn a b) (fun (r:(bt × Bool × Int))=>.tup [.agg [LS aZ r.1.aG,LS aZ r.1.aD], .one (B r.2.1), .one (I r.2.2)]):=by
 refine DK a b (vn a b) ?_
 obtain ⟨hA,hB,hl⟩:=hp
 obtain ⟨dok,dl⟩:=LI hB
 have hdl:=dl.trans hl
 unfold xo
 intro _ _ _ _ _ _
 have ea:ee a=0:=(ii a).2 hA.ok
 have eb:ee b=0:=(ii b).2 hB.ok
 have k0:cq [a,b] 0=some a:=rfl
 have k1:cq [a,b] 1=some b:=rfl
 refine ⟨fun x=>x=0 \/ x=1 \/ x=2,fun x=>2 - x.toNat, .inl rfl,?_⟩
 intro x hx
 refine ⟨fun hb=>?_,fun _=>⟨fun h=>?_,fun _=>⟨fun h=>?_,fun _=>⟨hB,⟨hA,dok,hdl⟩,fun r hr=>⟨fun x=>∃ k:Nat,x=2 * (k:Int) + 1 /\ k <= 5,fun x=>12 - x.toNat,⟨0,rfl,by decide⟩,?_⟩⟩⟩⟩⟩
 ·rcases hx with rfl | rfl | rfl
  ·refine ⟨_,k0,fun h=>?_,fun _=>⟨.inr (.inl rfl),by decide⟩⟩
   rw [ea] at h
   cases h
  ·refine ⟨_,k1,fun h=>?_,fun _=>⟨.inr (.inr rfl),by decide⟩⟩
   rw [eb] at h
   cases h
  ·exact absurd (show decide ((2:Int) < 2)=true from hb) (by decide)
 ·rw [hl] at h
  simp at h
 ·have:=hA.four
  have:=hB.four
  simp only [fc,fu] at h
  omega
 ·rintro x ⟨k,rfl,hk⟩
  refine ⟨fun hb=>⟨JE hA dok hdl hr,fun r2 hr2=>⟨fun hf=>⟨rfl, .inr ?_⟩,fun _=>?_⟩⟩,fun _=>⟨rfl, .inl rfl⟩⟩
  ·obtain ⟨w,w1,w2,w3⟩:=BP hA dok hdl hr hr2 hf
   exact ⟨w,w2,CZ hB (by rw [hl]; exact w1) w3 (by omega) (by omega)⟩
  ·have hb:=ca hb
   rw [bL (by omega) (by omega)]
   exact ⟨⟨k + 1,by omega,by omega⟩,by show 12 - (2 * (k:Int) + 1 + 2).toNat < 12 - (2 * (k:Int) + 1).toNat; omega⟩
theorem tk {a b:bd} {r:bt × Bool × Int} (h:vn a b r) (hs:∀ w,BAw a w -> BAw b w):r.2.2=0 /\ r.2.1=true:=
 ⟨h.1,h.2.elim id fun ⟨w,h1,h2⟩=>absurd (hs w h1) h2⟩
theorem t7 {l:List aY} (hx:Ba l) (h:∀ x ∈ l,(0 <= x.am /\ x.am < 8) /\ (0 <= x.aA /\ x.aA < 8) /\ 0 <= x.az /\ x.az < 4):l.length <= 256:=by
 have h1:l.length <= FH.length:=iJ hx.nodup fun x hm=>by
  obtain ⟨⟨k1,k2⟩,⟨k3,k4⟩,k5,k6⟩:=h x hm
  unfold FH
  refine ib.2 ⟨x.am.toNat,d6.2 (by omega),ib.2 ⟨x.az.toNat,d6.2 (by omega),cP.2 ⟨x.aA.toNat,d6.2 (by omega),?_⟩⟩⟩
  rw [dB k1,dB k3,dB k5]
 have h2:FH.length=256:=by kernel_rfl
 omega
theorem Ff {a b r:bd} (h:KV a b r) (h4:r.ac <= 4):gr r /\ r.ae=a.ae /\ ∀ w,BAw a w -> BAw r w:=by
 obtain ⟨⟨oa,ob,sm,sa,sb⟩,⟨s1,s2,s3,s4,s5,s6⟩,hrs,hrf⟩:=h
 have ha:=oa.states
 have hb:=ob.states
 have mem:∀ x ∈ r.ar,(0 <= x.am /\ x.am < r.ac) /\ (0 <= x.aA /\ x.aA < r.ac) /\ 0 <= x.az /\ x.az < r.ae:=fun x hx=>by
  rw [s1,s2]
  rcases gO.1 (s5.mem_iff.1 hx) with c | c
  ·have:=oa.steps x c
   omega
  ·obtain ⟨y,hy,rfl⟩:=cP.1 c
   have:=ob.steps y hy
   show (0 <= a.ac + y.am /\ a.ac + y.am < _) /\ (0 <= a.ac + y.aA /\ a.ac + y.aA < _) /\ 0 <= y.az /\ y.az < _
   omega
 have hl:=oa.letters
 have two:∀ (l m:List Int),(∀ q ∈ l,0 <= q /\ q < a.ac) -> (∀ q ∈ m,0 <= q /\ q < b.ac) -> ∀ q ∈ l ++ m.map (a.ac + ·),0 <= q /\ q < r.ac:=fun l m h1 h2 q hq=>by
  rw [s2]
  rcases gO.1 hq with c | c
  ·have:=h1 q c
   omega
  ·obtain ⟨y,hy,rfl⟩:=cP.1 c
   have:=h2 y hy
   show 0 <= a.ac + y /\ a.ac + y < _
   omega
 refine ⟨⟨⟨by rw [s1]; exact hl,by rw [s2]; omega,?_,by rw [s3]; exact two _ _ oa.start ob.start,by rw [s4]; exact two _ _ oa.final ob.final,mem,by rw [s3]; exact hrs,by rw [s4]; exact hrf,s6⟩,h4⟩,s1,fun w ⟨ρ,r0,r1,r2⟩=>⟨ρ,?_,fun t=>s5.mem_iff.2 (kp _ (r1 t)),fun t=>?_⟩⟩
 ·have:=t7 s6 fun x hx=>by have:=mem x hx; omega
  omega
 ·rw [s3]
  exact kp _ r0
 ·obtain ⟨s,h1,h2⟩:=r2 t
  exact ⟨s,h1,by rw [s4]; exact kp _ h2⟩
theorem tS {n p q t P:Int} (hp:0 <= p /\ p < P) (hq:0 <= q /\ q < n) (ht:0 <= t /\ t < 2):0 <= atI n p q t /\ atI n p q t < 2 * P * n:=by
 unfold atI
 have h0:0 <= p * n:=mi hp.1 (by omega)
 have h1:=tg (show p + 1 <= P by omega) (show 0 <= n by omega)
 rw [Int.add_mul,Int.one_mul] at h1
 rw [Int.mul_assoc]
 omega
theorem Kg {a b r:bd} (h:KW a b r) (h4:r.ac <= 4):gr r /\ b.ae=r.ae /\ ∀ w,BAw r w -> BAw b w:=by
 obtain ⟨⟨oa,ob,sm,sa,sb⟩,⟨s1,s2,s3,s4,s5,s6⟩,hrs,hrf⟩:=h
 have ha:=oa.states
 have hb:=ob.states
 have hl:=oa.letters
 have stp:∀ x ∈ r.ar,∃ y ∈ a.ar,∃ z ∈ b.ar,∃ t:Int,(t=0 \/ t=1) /\ y.az=z.az /\ x=xL a b y z t:=fun x hx=>by
  obtain ⟨y,hy,hx⟩:=ib.1 (s5.mem_iff.1 hx)
  obtain ⟨z,hz,hx⟩:=ib.1 hx
  unfold mN at hx
  split at hx
  ·cases hx
  ·rename_i c
   have c:y.az=z.az:=jp.1 c
   simp only [eh,mc,or_false] at hx
   rcases hx with e | e
   ·exact ⟨y,hy,z,hz,0, .inl rfl,c,e⟩
   ·exact ⟨y,hy,z,hz,1, .inr rfl,c,e⟩
 have mem:∀ x ∈ r.ar,(0 <= x.am /\ x.am < r.ac) /\ (0 <= x.aA /\ x.aA < r.ac) /\ 0 <= x.az /\ x.az < r.ae:=fun x hx=>by
  obtain ⟨y,hy,z,hz,t,ht,_,rfl⟩:=stp x hx
  have h1:=oa.steps y hy
  have h2:=ob.steps z hz
  rw [s1,s2]
  exact ⟨tS h1.1 h2.1 (by omega),tS h1.2.1 h2.2.1 (m5 ht),h1.2.2⟩
 have few:=t7 s6 fun x hx=>by have:=mem x hx; omega
 have one:1 * 1 <= a.ac * b.ac:=Int.mul_le_mul ha.1 hb.1 (by omega) (by omega)
 refine ⟨⟨⟨by rw [s1]; exact hl,⟨by rw [s2,Int.mul_assoc]; omega,by omega⟩,by omega,fun q hq=>?_,fun q hq=>?_,mem,by rw [s3]; exact hrs,by rw [s4]; exact hrf,s6⟩,h4⟩,by rw [s1,sm],fun w ⟨ρ,r0,r1,r2⟩=>?_⟩
 ·rw [s3] at hq
  obtain ⟨p,hp,hq⟩:=ib.1 hq
  obtain ⟨q',hq',rfl⟩:=cP.1 hq
  rw [s2]
  exact tS (oa.start p hp) (ob.start q' hq') (by decide)
 ·rw [s4] at hq
  obtain ⟨p,hp,hq⟩:=ib.1 hq
  obtain ⟨q',hq',rfl⟩:=cP.1 hq
  have:=d6.1 hq'
  rw [s2]
  exact tS (oa.final p hp) ⟨by omega,by omega⟩ (by decide)
 -- the parts of a state
 have part:∀ t,∃ p q u:Int,(0 <= p /\ p < a.ac) /\ (0 <= q /\ q < b.ac) /\ (0 <= u /\ u < 2) /\ ρ t=atI b.ac p q u:=fun t=>by
  obtain ⟨y,hy,z,hz,u,hu,_,e⟩:=stp _ (r1 t)
  have e:ρ t=atI b.ac y.am z.am u:=cZ aY.am e
  exact ⟨_,_,_,(oa.steps y hy).1,(ob.steps z hz).1,by omega,e⟩
 obtain ⟨P,hP⟩:∃ P:Nat -> Int × Int × Int,∀ t,(0 <= (P t).1 /\ (P t).1 < a.ac) /\ (0 <= (P t).2.1 /\ (P t).2.1 < b.ac) /\ (0 <= (P t).2.2 /\ (P t).2.2 < 2) /\ ρ t=atI b.ac (P t).1 (P t).2.1 (P t).2.2:=by
  refine ⟨fun t=>(Classical.choose (part t),Classical.choose (gf (part t)),Classical.choose (gf (gf (part t)))),fun t=>?_⟩
  exact gf (gf (gf (part t)))
 have go:∀ t,∃ y ∈ a.ar,aY.mk (P t).2.1 (w t) (P (t + 1)).2.1 ∈ b.ar /\ y.am=(P t).1 /\ (P (t + 1)).2.2=lB a b y (aY.mk (P t).2.1 (w t) (P (t + 1)).2.1) (P t).2.2:=fun t=>by
  obtain ⟨y,hy,z,hz,u,hu,el,e⟩:=stp _ (r1 t)
  have e1:ρ t=atI b.ac y.am z.am u:=cZ aY.am e
  have e2:w t=y.az:=cZ aY.az e
  have e3:ρ (t + 1)=atI b.ac y.aA z.aA (lB a b y z u):=cZ aY.aA e
  obtain ⟨_,p1,p2,p3⟩:=hP t
  obtain ⟨_,q1,q2,q3⟩:=hP (t + 1)
  obtain ⟨f1,f2,f3⟩:=od p1 (ob.steps z hz).1 p2 (by omega) (p3.symm.trans e1)
  obtain ⟨g1,g2,g3⟩:=od q1 (ob.steps z hz).2.1 q2 (m5 hu) (q3.symm.trans e3)
  have ez:aY.mk (P t).2.1 (w t) (P (t + 1)).2.1=z:=by rw [f2,g2,e2,el]
  exact ⟨y,hy,by rw [ez]; exact hz,f1.symm,by rw [ez,g3,f3]⟩
 refine ⟨fun t=>(P t).2.1,?_,fun t=>?_,fun t=>?_⟩
 ·rw [s3] at r0
  obtain ⟨p,hp,r0⟩:=ib.1 r0
  obtain ⟨q,hq,e⟩:=cP.1 r0
  obtain ⟨_,p1,p2,p3⟩:=hP 0
  have:=(od p1 (ob.start q hq) p2 (by decide) (p3.symm.trans e.symm)).2.1
  show (P 0).2.1 ∈ _
  rw [this]
  exact hq
 ·obtain ⟨_,_,h1,_⟩:=go t
  exact h1
 ·refine jq fun hno=>?_
  have no:∀ s,t <= s -> (P s).2.1 ∉ b.av:=fun s hs hf=>hno ⟨s,hs,hf⟩
  have fin:∀ s,ρ s ∈ r.av -> (P s).1 ∈ a.av /\ (P s).2.2=0:=fun s hs=>by
   rw [s4] at hs
   obtain ⟨p,hp,hs⟩:=ib.1 hs
   obtain ⟨q,hq,e⟩:=cP.1 hs
   have hq:=d6.1 hq
   obtain ⟨_,p1,p2,p3⟩:=hP s
   obtain ⟨e1,_,e3⟩:=od p1 (show 0 <= (q:Int) /\ (q:Int) < b.ac by omega) p2 (by decide) (p3.symm.trans e.symm)
   exact ⟨by rw [e1]; exact hp,e3⟩
  obtain ⟨s,hs,hsf⟩:=r2 t
  obtain ⟨g1,g2⟩:=fin s hsf
  have first:(P (s + 1)).2.2=1:=by
   obtain ⟨y,_,_,e1,e2⟩:=go s
   rw [e2,g2]
   unfold lB
   rw [if_pos (by simp [e1,g1])]
   rfl
  have stay:∀ d,(P (s + 1 + d)).2.2=1:=fun d=>by
   induction d with
   | zero=>exact first
   | succ d ih =>
    obtain ⟨y,_,_,e1,e2⟩:=go (s + 1 + d)
    show (P (s + 1 + d + 1)).2.2=1
    rw [e2,ih]
    unfold lB
    rw [if_neg]
    have:=no (s + 1 + d) (by omega)
    simp [this]
  obtain ⟨s',hs',hf'⟩:=r2 (s + 1)
  obtain ⟨d,rfl⟩:∃ d,s'=s + 1 + d:=⟨s' - (s + 1),by omega⟩
  have:=(fin _ hf').2
  rw [stay d] at this
  cases this
theorem H0 : gr (bd.mk 1 1 ([0]:List Int) ([(aY.mk 0 0 0)]:List aY) ([0]:List Int)):=by
 have r1:Ris ([0]:List Int):=ng.2 (List.pairwise_singleton _ _)
 have z:∀ q ∈ ([0]:List Int),0 <= q /\ q < 1:=fun q hq=>by
  rw [et.1 hq]
  decide
 refine ⟨⟨show (1:Int) <= 1 /\ (1:Int) <= 4 by decide,show (1:Int) <= 1 /\ (1:Int) <= 300 by decide,show 1 <= 40000 by decide,z,z,fun x hx=>?_,r1,r1,CQ.2 (List.pairwise_singleton _ _)⟩,show (1:Int) <= 4 by decide⟩
 rw [et.1 hx]
 exact ⟨⟨eN _,show (0:Int) < 1 by decide⟩,⟨eN _,show (0:Int) < 1 by decide⟩,eN _,show (0:Int) < 1 by decide⟩
def xz (a:bd) (b:bd) (l:bt) (Q:Bool -> Prop):Prop:=
 a.af.length <= 9223372036854775807 ->
 a.ar.length <= 9223372036854775807 ->
 a.av.length <= 9223372036854775807 ->
 b.af.length <= 9223372036854775807 ->
 b.ar.length <= 9223372036854775807 ->
 b.av.length <= 9223372036854775807 ->
 l.aG.length <= 9223372036854775807 ->
 l.aD.length <= 9223372036854775807 ->
 ((gr (bd.mk 1 1 ([0]:List Int) ([(aY.mk 0 0 0)]:List aY) ([0]:List Int)) /\ gr (bd.mk 1 1 ([0]:List Int) ([(aY.mk 0 0 0)]:List aY) ([0]:List Int)) /\ ((bd.mk 1 1 ([0]:List Int) ([(aY.mk 0 0 0)]:List aY) ([0]:List Int))).ae=((bd.mk 1 1 ([0]:List Int) ([(aY.mk 0 0 0)]:List aY) ([0]:List Int))).ae) /\
 ∀ r:(bt × Bool × Int),(vn (bd.mk 1 1 ([0]:List Int) ([(aY.mk 0 0 0)]:List aY) ([0]:List Int)) (bd.mk 1 1 ([0]:List Int) ([(aY.mk 0 0 0)]:List aY) ([0]:List Int))) r ->
 (cv ((r.2.2 != 0) || (!r.2.1)) (Q false) (cv ((ku a).2 != 0) (Q true) (∀ r_2:(Bool × Int),(It a l) r_2 ->
 ((kD (ku a).1) /\
 ∀ r_3:(Bool × Int),(H1 (ku a).1 l) r_3 ->
 (∃ J:Bool -> Prop,(cv (r_2.2 == 0) (cv (r_3.2 != 0) (J true) (J (r_2.1 == r_3.1))) (J false)) /\
 (∀ x65,J x65 -> cv x65 (Q false) ((gr a /\ gr a /\ (a).ae=(a).ae) /\
 ∀ r_4:(bt × Bool × Int),(vn a a) r_4 ->
 (cv ((r_4.2.2 != 0) || (!r_4.2.1)) (Q false) (∀ r_5:(bd × Int),(Ky a b) r_5 ->
 (∃ J_2:Prop,(cv ((r_5.2 == 0) && (decide (r_5.1.ac <= 4))) ((gr a /\ gr r_5.1 /\ (r_5.1).ae=(a).ae) /\
 ∀ r_6:(bt × Bool × Int),(vn a r_5.1) r_6 ->
 (cv ((r_6.2.2 != 0) || (!r_6.2.1)) (Q false) (J_2))) (J_2)) /\
 (J_2 -> ∀ r_7:(bd × Int),(KA a b) r_7 ->
 (cv (((r_7.2 == 0) && (decide (r_7.1.ac <= 4))) && (decide (b.ac <= 4))) ((gr r_7.1 /\ gr b /\ (b).ae=(r_7.1).ae) /\
 ∀ r_8:(bt × Bool × Int),(vn r_7.1 b) r_8 ->
 (Q ((r_8.2.2 == 0) && r_8.2.1))) (Q true))))))))))))))
abbrev ya (a:bd) (b:bd):=([.box (bd.cl a) 25 false, .box (bd.cl b) 25 false, .gone, .gone, .gone, .gone, .gone, .gone, .gone]:List br)
abbrev Ez (a:bd) (b:bd):=([.box (bd.cl a) 25 false, .box (bd.cl b) 25 false, .gone, .gone, .gone, .gone, .gone, .gone, .gone, .gone]:List br)
abbrev um := ([bg 3 (.ptr 0 0),bg 4 (.ptr 1 0),bg 5 (.ptr 2 0)]:List (Nat × SC))
abbrev GJ (b:bd) (y0):=([.gone, .box (bd.cl b) 25 false, .gone, .gone, .gone, .gone, .gone, .gone, .gone, .gone, .box (bd.cl y0) 25 false]:List br)
abbrev Jw (a:bd) (b:bd) (y0):=([.box (bd.cl a) 25 false, .box (bd.cl b) 25 false, .gone, .gone, .gone, .gone, .gone, .gone, .gone, .box (bd.cl y0) 25 false]:List br)
abbrev Jv (a:bd) (b:bd) (l:bt):=([.box (bd.cl a) 25 false, .box (bd.cl b) 25 false, .box (bt.cl l) 27 false, .gone, .gone, .gone, .gone, .gone]:List br)
abbrev GH := ([.gone, .gone, .gone, .gone, .gone, .gone, .gone, .gone, .gone, .gone, .gone]:List br)
abbrev Ju := (bd.mk 1 1 ([0]:List Int) ([(aY.mk 0 0 0)]:List aY) ([0]:List Int))
abbrev jL := sl 4 (.ptr 1 0)
abbrev mo := sl 3 (.ptr 0 0)
abbrev pC := (aY.mk 0 0 0)
set_option maxHeartbeats 2000000 in
theorem DV (a:bd) (b:bd) (l:bt) (Q:Bool -> Prop) (h:xz a b l Q):Ct 3 [.sv (.agg [I a.ae,I a.ac,LS aZ a.af,LS aY.ty a.ar,LS aZ a.av]), .sv (.agg [I b.ae,I b.ac,LS aZ b.af,LS aY.ty b.ar,LS aZ b.av]), .sv (.agg [LS aZ l.aG,LS aZ l.aD])] [] Q (fun (r:Bool)=>.sv (.one (B r))):=by
 have ht:=bA
 refine Ct.body Tryz.func3 rfl rfl rfl rfl (fun c hn=>?_)
 unfold xz at h
 refine bQ 0 2 (by rfl) (by rfl) (fun hl=>?_)
 replace h:=h hl
 clear hl
 refine bQ 0 3 (by rfl) (by rfl) (fun hl=>?_)
 replace h:=h hl
 clear hl
 refine bQ 0 4 (by rfl) (by rfl) (fun hl=>?_)
 replace h:=h hl
 clear hl
 refine bQ 1 2 (by rfl) (by rfl) (fun hl=>?_)
 replace h:=h hl
 clear hl
 refine bQ 1 3 (by rfl) (by rfl) (fun hl=>?_)
 replace h:=h hl
 clear hl
 refine bQ 1 4 (by rfl) (by rfl) (fun hl=>?_)
 replace h:=h hl
 clear hl
 refine bQ 2 0 (by rfl) (by rfl) (fun hl=>?_)
 replace h:=h hl
 clear hl
 refine bQ 2 1 (by rfl) (by rfl) (fun hl=>?_)
 replace h:=h hl
 clear hl
 refine bp (cw ht hn 4 ⟨(um),[.box (bd.cl a) 25 false, .box (bd.cl b) 25 false, .box (bt.cl l) 27 false]⟩ ?_)
 refine bp (dg (K:=[]) (p:=some (3,bf 3 aZ ([0]:List Int))) hn (by rfl) (lI (T:=aZ) ([0]:List Int) 3 rfl) (by rfl) (by rfl) (by rfl) ?_)
 refine bC ht hn 1 ⟨bx 18 3 :: (19, .sv (.agg [I 0,I 0,I 0])) :: um,[.box (bd.cl a) 25 false, .box (bd.cl b) 25 false, .box (bt.cl l) 27 false,bf 3 aZ ([0]:List Int)]⟩ ?_
 refine dg (K:=[]) (p:=some (4,bf 29 aY.ty ([pC]:List aY))) hn (by rfl) (lI (T:=aY.ty) ([pC]:List aY) 4 rfl) (by rfl) (by rfl) (by rfl) ?_
 refine dg (K:=[]) (p:=some (5,bf 3 aZ ([0]:List Int))) hn (by rfl) (lI (T:=aZ) ([0]:List Int) 5 rfl) (by rfl) (by rfl) (by rfl) ?_
 refine bM hn ?_
 refine bp (bC ht hn 2 ⟨(24, .sv (.agg [I 1,I 1, .own 3, .own 4, .own 5])) :: (25, .sv (.agg [I 1,I 1, .own 3, .own 4, .own 5])) :: um,[.box (bd.cl a) 25 false, .box (bd.cl b) 25 false, .box (bt.cl l) 27 false,bf 3 aZ ([0]:List Int),bf 29 aY.ty ([pC]:List aY),bf 3 aZ ([0]:List Int), .gone]⟩ ?_)
 refine dE (T:=aZ) (l:=([0]:List Int)) (e:=3) 3 rfl ?_
 refine bC ht hn 0 ⟨(24, .sv (.agg [I 1,I 1,LS aZ ([0]:List Int), .own 4, .own 5])) :: (25, .sv (.agg [I 1,I 1,LS aZ ([0]:List Int), .own 4, .own 5])) :: um,[.box (bd.cl a) 25 false, .box (bd.cl b) 25 false, .box (bt.cl l) 27 false, .gone,bf 29 aY.ty ([pC]:List aY),bf 3 aZ ([0]:List Int), .gone]⟩ ?_
 refine dE (T:=aY.ty) (l:=([pC]:List aY)) (e:=29) 4 rfl ?_
 refine bC ht hn 0 ⟨(24, .sv (.agg [I 1,I 1,LS aZ ([0]:List Int),LS aY.ty ([pC]:List aY), .own 5])) :: (25, .sv (.agg [I 1,I 1,LS aZ ([0]:List Int),LS aY.ty ([pC]:List aY), .own 5])) :: um,[.box (bd.cl a) 25 false, .box (bd.cl b) 25 false, .box (bt.cl l) 27 false, .gone, .gone,bf 3 aZ ([0]:List Int), .gone]⟩ ?_
 refine dE (T:=aZ) (l:=([0]:List Int)) (e:=3) 5 rfl ?_
 refine bC ht hn 0 ⟨(24, .sv (.agg [I 1,I 1,LS aZ ([0]:List Int),LS aY.ty ([pC]:List aY),LS aZ ([0]:List Int)])) :: (25, .sv (.agg [I 1,I 1,LS aZ ([0]:List Int),LS aY.ty ([pC]:List aY),LS aZ ([0]:List Int)])) :: um,[.box (bd.cl a) 25 false, .box (bd.cl b) 25 false, .box (bt.cl l) 27 false, .gone, .gone, .gone, .gone]⟩ ?_
 obtain ⟨hp,h⟩:=h
 refine fw (Q:=vn Ju Ju) (x:=fun (r:(bt × Bool × Int))=>.tup [.agg (bt.cl r.1), .one (B r.2.1), .one (I r.2.2)]) (p:=fun _=>none) hn (by rfl) (eH (th Ju Ju hp) en4 (caps:=[]) [] rfl (by rfl) (by kernel_rfl) (by kernel_rfl) (by rfl) (fun _=>rfl) (by rfl)) (fun r hr_2=>⟨by rfl,_,by rfl,?_⟩)
 replace h:=h r hr_2
 refine bM hn ?_
 refine bi (bp (bC ht hn 3 ⟨bG 9 r.2.1 :: bG 32 (r.2.2 != 0) :: um,(Jv a b l)⟩ ?_))
 refine eB ⟨bG 35 ((r.2.2 != 0) || (!r.2.1)) :: um,(Jv a b l)⟩ ?_ ?_
 refine cz (r.2.2 != 0) (fun hb0=>?_) (fun hb0=>?_)
 refine cf 32 hb0 ?_
 refine bC ht hn 3 ⟨bG 35 true :: um,(Jv a b l)⟩ ?_
 exact bH (sub_ok (by simp only [hb0]; kernel_rfl))
 refine cf 32 hb0 ?_
 refine bC ht hn 3 ⟨bG 35 (!r.2.1) :: um,(Jv a b l)⟩ ?_
 exact bH (sub_ok (by simp only [hb0]; kernel_rfl))
 refine bv h (fun h=>?_) (fun h=>?_)
 exact cD hn false h
 refine bn (bp (cN hn 1 ?_))
 refine fK hn (cL (IA a) en5 rfl) ?_
 refine bM hn ?_
 refine bi (bk hn ?_)
 refine bv h (fun h=>?_) (fun h=>?_)
 exact cD hn true h
 refine bn (bp (bC ht hn 2 ⟨bu 11 8 0 :: (44, .sv (.agg (bd.cl a))) :: (45, .sv (.agg (bt.cl l))) :: um,[.box (bd.cl a) 25 false, .box (bd.cl b) 25 false, .box (bt.cl l) 27 false, .gone, .gone, .gone, .gone, .gone, .box [I (ku a).1.ae,I (ku a).1.af,LS (cB aZ) (ku a).1.aa,LS aZ (ku a).1.ay] 35 false]⟩ ?_))
 refine fw (Q:=It a l) (x:=fun (r:(Bool × Int))=>.tup [.one (B r.1), .one (I r.2)]) (p:=fun _=>none) hn (by rfl) (eH (Ko a l) en6 (caps:=[]) [] rfl (by rfl) (by kernel_rfl) (by kernel_rfl) (by rfl) (fun _=>rfl) (by rfl)) (fun r_2 hr_2_2=>⟨by rfl,_,by rfl,?_⟩)
 replace h:=h r_2 hr_2_2
 refine bM hn ?_
 refine bp (bC ht hn 2 ⟨[mo,jL,bG 12 r_2.1,ba 13 r_2.2,(50, .sv (.agg [I (ku a).1.ae,I (ku a).1.af,LS (cB aZ) (ku a).1.aa,LS aZ (ku a).1.ay])),(51, .sv (.agg (bt.cl l)))],(ya a b)⟩ ?_)
 obtain ⟨hp,h⟩:=h
 refine fw (Q:=H1 (ku a).1 l) (x:=fun (r:(Bool × Int))=>.tup [.one (B r.1), .one (I r.2)]) (p:=fun _=>none) hn (by rfl) (eH (II (ku a).1 l hp) en7 (caps:=[]) [] rfl (by rfl) (by kernel_rfl) (by kernel_rfl) (by rfl) (fun _=>rfl) (by rfl)) (fun r_3 hr_3=>⟨by rfl,_,by rfl,?_⟩)
 replace h:=h r_3 hr_3
 refine bM hn ?_
 refine bi ?_
 obtain ⟨J,h,hJ⟩:=h
 refine bS (σ:=Bool) (fun zz=>J zz) (fun zz=>⟨[mo,jL,bG 65 zz],(ya a b)⟩) ?_ ?_
 refine bI (cN hn 3 ?_)
 refine cz (r_2.2 == 0) (fun hb=>?_) (fun hb=>?_)
 replace h:=h.1 hb
 refine cf 57 hb ?_
 refine cN hn 3 ?_
 refine cz (r_3.2 != 0) (fun hb=>?_) (fun hb=>?_)
 replace h:=h.1 hb
 refine cf 60 hb ?_
 refine bM hn ?_
 exact bZ true h
 replace h:=h.2 hb
 refine cf 60 hb ?_
 refine bC ht hn 2 ⟨[mo,jL,bG 57 true,bG 60 false,bG 61 r_2.1,bG 62 r_3.1],(ya a b)⟩ ?_
 refine fe hn (IP (u:=r_2.1) (v:=r_3.1) rfl Tryz.underlying4 (by rfl) (by rfl) (.inl ⟨rfl,rfl⟩)) ?_
 refine bM hn ?_
 exact bZ (r_2.1 == r_3.1) h
 replace h:=h.2 hb
 refine cf 57 hb ?_
 refine bM hn ?_
 exact bZ false h
 intro x65 h
 replace h:=hJ _ h
 refine bv h (fun h=>?_) (fun h=>?_)
 exact cD hn false h
 refine bn (bp (bC ht hn 2 ⟨[mo,jL,(67, .sv (.agg (bd.cl a))),(68, .sv (.agg (bd.cl a)))],(ya a b)⟩ ?_))
 obtain ⟨hp,h⟩:=h
 refine fw (Q:=vn a a) (x:=fun (r:(bt × Bool × Int))=>.tup [.agg (bt.cl r.1), .one (B r.2.1), .one (I r.2.2)]) (p:=fun _=>none) hn (by rfl) (eH (th a a hp) en4 (caps:=[]) [] rfl (by rfl) (by kernel_rfl) (by kernel_rfl) (by rfl) (fun _=>rfl) (by rfl)) (fun r_4 hr_4=>⟨by rfl,_,by rfl,?_⟩)
 replace h:=h r_4 hr_4
 refine bM hn ?_
 refine bi (bp (bC ht hn 3 ⟨[mo,jL,bG 9 r_4.2.1,bG 75 (r_4.2.2 != 0)],(ya a b)⟩ ?_))
 refine eB ⟨[mo,jL,bG 78 ((r_4.2.2 != 0) || (!r_4.2.1))],(ya a b)⟩ ?_ ?_
 refine cz (r_4.2.2 != 0) (fun hb0=>?_) (fun hb0=>?_)
 refine cf 75 hb0 ?_
 refine bC ht hn 3 ⟨[mo,jL,bG 78 true],(ya a b)⟩ ?_
 exact bH (sub_ok (by simp only [hb0]; kernel_rfl))
 refine cf 75 hb0 ?_
 refine bC ht hn 3 ⟨[mo,jL,bG 78 (!r_4.2.1)],(ya a b)⟩ ?_
 exact bH (sub_ok (by simp only [hb0]; kernel_rfl))
 refine bv h (fun h=>?_) (fun h=>?_)
 exact cD hn false h
 refine bn (bp (bC ht hn 2 ⟨[mo,jL,(80, .sv (.agg (bd.cl a))),(81, .sv (.agg (bd.cl b)))],(ya a b)⟩ ?_))
 refine fw (Q:=Ky a b) (x:=fun (r:(bd × Int))=>.tup [.agg (bd.cl r.1), .one (I r.2)]) (p:=fun _=>none) hn (by rfl) (eH (Km a b) en8 (caps:=[]) [] rfl (by rfl) (by kernel_rfl) (by kernel_rfl) (by rfl) (fun _=>rfl) (by rfl)) (fun r_5 hr_5=>⟨by rfl,_,by rfl,?_⟩)
 replace h:=h r_5 hr_5
 refine bM hn ?_
 obtain ⟨J_2,h,hJ_2⟩:=h
 refine bS (σ:=Unit) (fun _=>J_2) (fun _=>⟨[mo,jL],(Ez a b)⟩) ?_ ?_
 refine bp (bC ht hn 3 ⟨bG 87 (r_5.2 == 0) :: [mo,jL,bu 16 9 0],(Jw a b r_5.1)⟩ ?_)
 refine eB ⟨bG 91 ((r_5.2 == 0) && (decide (r_5.1.ac <= 4))) :: [mo,jL,bu 16 9 0],(Jw a b r_5.1)⟩ ?_ ?_
 refine cz (r_5.2 == 0) (fun hb0=>?_) (fun hb0=>?_)
 refine cf 87 hb0 ?_
 refine bC ht hn 4 ⟨bG 91 (decide (r_5.1.ac <= 4)) :: [mo,jL,bu 16 9 0],(Jw a b r_5.1)⟩ ?_
 exact bH (sub_ok (by simp only [hb0]; kernel_rfl))
 refine cf 87 hb0 ?_
 refine bC ht hn 4 ⟨bG 91 false :: [mo,jL,bu 16 9 0],(Jw a b r_5.1)⟩ ?_
 exact bH (sub_ok (by simp only [hb0]; kernel_rfl))
 refine bv h (fun h=>?_) (fun h=>?_)
 refine bp (bC ht hn 2 ⟨[mo,jL,(93, .sv (.agg (bd.cl a))),(94, .sv (.agg (bd.cl r_5.1)))],(Ez a b)⟩ ?_)
 obtain ⟨hp,h⟩:=h
 refine fw (Q:=vn a r_5.1) (x:=fun (r:(bt × Bool × Int))=>.tup [.agg (bt.cl r.1), .one (B r.2.1), .one (I r.2.2)]) (p:=fun _=>none) hn (by rfl) (eH (th a r_5.1 hp) en4 (caps:=[]) [] rfl (by rfl) (by kernel_rfl) (by kernel_rfl) (by rfl) (fun _=>rfl) (by rfl)) (fun r_6 hr_6=>⟨by rfl,_,by rfl,?_⟩)
 replace h:=h r_6 hr_6
 refine bM hn ?_
 refine bp (bC ht hn 3 ⟨[mo,jL,bG 9 r_6.2.1,bG 101 (r_6.2.2 != 0)],(Ez a b)⟩ ?_)
 refine eB ⟨[mo,jL,bG 104 ((r_6.2.2 != 0) || (!r_6.2.1))],(Ez a b)⟩ ?_ ?_
 refine cz (r_6.2.2 != 0) (fun hb0=>?_) (fun hb0=>?_)
 refine cf 101 hb0 ?_
 refine bC ht hn 3 ⟨[mo,jL,bG 104 true],(Ez a b)⟩ ?_
 exact bH (sub_ok (by simp only [hb0]; kernel_rfl))
 refine cf 101 hb0 ?_
 refine bC ht hn 3 ⟨[mo,jL,bG 104 (!r_6.2.1)],(Ez a b)⟩ ?_
 exact bH (sub_ok (by simp only [hb0]; kernel_rfl))
 refine bv h (fun h=>?_) (fun h=>?_)
 exact cD hn false h
 exact bn (bZ () h)
 exact bn (bZ () h)
 intro _ h
 replace h:=hJ_2 h
 refine bp (bC ht hn 2 ⟨[jL,(106, .sv (.agg (bd.cl a))),(107, .sv (.agg (bd.cl b)))],[.gone, .box (bd.cl b) 25 false, .gone, .gone, .gone, .gone, .gone, .gone, .gone, .gone]⟩ ?_)
 refine fw (Q:=KA a b) (x:=fun (r:(bd × Int))=>.tup [.agg (bd.cl r.1), .one (I r.2)]) (p:=fun _=>none) hn (by rfl) (eH (Kn a b) en9 (caps:=[]) [] rfl (by rfl) (by kernel_rfl) (by kernel_rfl) (by rfl) (fun _=>rfl) (by rfl)) (fun r_7 hr_7=>⟨by rfl,_,by rfl,?_⟩)
 replace h:=h r_7 hr_7
 refine bM hn ?_
 refine bi (bp (bC ht hn 3 ⟨[jL,bu 17 10 0,bG 113 (r_7.2 == 0)],(GJ b r_7.1)⟩ ?_))
 refine eB ⟨[jL,bu 17 10 0,bG 122 (((r_7.2 == 0) && (decide (r_7.1.ac <= 4))) && (decide (b.ac <= 4)))],(GJ b r_7.1)⟩ ?_ ?_
 refine cz (r_7.2 == 0) (fun hb0=>?_) (fun hb0=>?_)
 refine cf 113 hb0 ?_
 refine cN hn 5 ?_
 refine cz (decide (r_7.1.ac <= 4)) (fun hb1=>?_) (fun hb1=>?_)
 refine cf 118 hb1 ?_
 refine bC ht hn 4 ⟨[jL,bu 17 10 0,bG 122 (decide (b.ac <= 4))],(GJ b r_7.1)⟩ ?_
 exact bH (sub_ok (by simp only [hb0,hb1]; kernel_rfl))
 refine cf 118 hb1 ?_
 refine bC ht hn 4 ⟨[jL,bu 17 10 0,bG 122 false],(GJ b r_7.1)⟩ ?_
 exact bH (sub_ok (by simp only [hb0,hb1]; kernel_rfl))
 refine cf 113 hb0 ?_
 refine bC ht hn 9 ⟨[jL,bu 17 10 0,bG 122 false],(GJ b r_7.1)⟩ ?_
 exact bH (sub_ok (by simp only [hb0]; kernel_rfl))
 refine bv h (fun h=>?_) (fun h=>?_)
 refine bp (bC ht hn 2 ⟨[(124, .sv (.agg (bd.cl r_7.1))),(125, .sv (.agg (bd.cl b)))],GH⟩ ?_)
 obtain ⟨hp,h⟩:=h
 refine fw (Q:=vn r_7.1 b) (x:=fun (r:(bt × Bool × Int))=>.tup [.agg (bt.cl r.1), .one (B r.2.1), .one (I r.2.2)]) (p:=fun _=>none) hn (by rfl) (eH (th r_7.1 b hp) en4 (caps:=[]) [] rfl (by rfl) (by kernel_rfl) (by kernel_rfl) (by rfl) (fun _=>rfl) (by rfl)) (fun r_8 hr_8=>⟨by rfl,_,by rfl,?_⟩)
 replace h:=h r_8 hr_8
 refine bM hn ?_
 refine bp (bC ht hn 3 ⟨[bG 9 r_8.2.1,bG 132 (r_8.2.2 == 0)],GH⟩ ?_)
 refine eB ⟨[bG 6 ((r_8.2.2 == 0) && r_8.2.1)],GH⟩ ?_ ?_
 refine cz (r_8.2.2 == 0) (fun hb0=>?_) (fun hb0=>?_)
 refine cf 132 hb0 ?_
 refine bC ht hn 3 ⟨[bG 6 r_8.2.1],GH⟩ ?_
 exact bH (sub_ok (by simp only [hb0]; kernel_rfl))
 refine cf 132 hb0 ?_
 refine bC ht hn 3 ⟨[bG 6 false],GH⟩ ?_
 exact bH (sub_ok (by simp only [hb0]; kernel_rfl))
 exact fL ht ((r_8.2.2 == 0) && r_8.2.1) h
 exact bn (cD hn true h)
theorem IC (a:bd) (b:bd) (l:bt)  : Ct 3 [.sv (.agg [I a.ae,I a.ac,LS aZ a.af,LS aY.ty a.ar,LS aZ a.av]), .sv (.agg [I b.ae,I b.ac,LS aZ b.af,LS aY.ty b.ar,LS aZ b.av]), .sv (.agg [LS aZ l.aG,LS aZ l.aD])] [] (fun (_:Unit)=>True) (fun _=>.sv (.one (B (true)))):=by
 refine (DV a b l (fun res_=>res_=(true)) ?_).fun
 unfold xz
 intro _ _ _ _ _ _ _ _
 refine ⟨⟨H0,H0,rfl⟩,fun r hr=>⟨fun h=>?_,fun _=>⟨fun _=>rfl,fun h=>?_⟩⟩⟩
 ·obtain ⟨e1,e2⟩:=tk hr fun _ h=>h
  rw [e1,e2] at h
  cases h
 have hs:rC a=0:=by
  refine jq fun hne=>?_
  unfold ku at h
  rw [if_pos hne] at h
  exact hne (by simpa using h)
 have hA:=z4.1 hs
 have eo:ku a=(i8 (ef a),0):=by
  unfold ku
  rw [if_neg (by rw [hs]; simp)]
 rw [eo]
 clear h
 refine fun p hp=>⟨xJ hA,fun q hq=>⟨fun x=>x=false,⟨fun c=>⟨fun c2=>?_,fun c2=>?_⟩,fun _=>rfl⟩,?_⟩⟩
 ·have:=(wI hA hp hq (by simpa using c)).1
  rw [this] at c2
  cases c2
 ·have:=(wI hA hp hq (by simpa using c)).2
  show (p.1 == q.1)=false
  simpa using this
 rintro _ rfl
 refine ⟨fun h=>(by cases h),fun _=>⟨⟨hA,hA,rfl⟩,fun r4 h4=>⟨fun h=>?_,fun _ r5 h5=>⟨True,⟨fun c=>?_,fun _=>trivial⟩,fun _ r7 h7=>⟨fun c=>?_,fun _=>rfl⟩⟩⟩⟩⟩
 ·obtain ⟨e1,e2⟩:=tk h4 fun _ h=>h
  rw [e1,e2] at h
  cases h
 ·rw [cC,fu] at c
  obtain ⟨i1,i2,i3⟩:=Ff (h5 (by simpa using c.1)) c.2
  refine ⟨⟨hA,i1,i2⟩,fun r6 h6=>⟨fun h=>?_,fun _=>trivial⟩⟩
  obtain ⟨e1,e2⟩:=tk h6 i3
  rw [e1,e2] at h
  cases h
 ·rw [cC,cC,fu,fu] at c
  have hb:=h7 (by simpa using c.1.1)
  obtain ⟨i1,i2,i3⟩:=Kg hb c.1.2
  refine ⟨⟨i1,⟨hb.two.okb,c.2⟩,i2⟩,fun r8 h8=>?_⟩
  obtain ⟨e1,e2⟩:=tk h8 i3
  rw [e1,e2]
  rfl
end
end Go.Proofs.YtmdbjpljlniloaaGreat
