/- Lemmas towards the statement: mirrors of functions, and plain laws. No condition. -/
import Derived.Test.YtiejmeedkhkfgaaPackStackGoes3
namespace Go.Proofs.Ytiejmeedkhkfgaa
open Go.RowKit Go.MapKept
set_option linter.unusedSimpArgs false
set_option linter.unusedVariables false
set_option maxRecDepth 100000
def sSts_vc (gc : Int) (gs : (List Int)) (E : (List (StackEdge × StackKnown))) (Q : Int → Prop) : Prop :=
 Q (wr ((wr (3 + (gs.length : Int))) + 1))
theorem sSts_walk (gc : Int) (gs : (List Int)) (E : (List (StackEdge × StackKnown))) (Q : Int → Prop) (h : sSts_vc gc gs E Q) : CtE 64 [.sv (.one (.ptr 0 0))] [.box [I gc, LS intT gs, .own 1] 127 false, mapI StackEdge.enc StackKnown.ty E] [0] Q (fun (r : Int) => .sv (.one (I r))) (fun (r : Int) => [.box [I gc, LS intT gs, .own 1] 127 false, mapI StackEdge.enc StackKnown.ty E]) := by
 have ht := tab_ok
 refine CtE.body Try.func64 rfl rfl rfl (by kernel_rfl) (by kernel_rfl) (fun c Bk hn => ?_)
 unfold sSts_vc at h
 show En c ⟨[sl 0 (.pptr 0 0 (Bk 0))], [.box [I gc, LS intT gs, .own 1] 127 false, mapI StackEdge.enc StackKnown.ty E]⟩ _
 refine En.sr ?_
 refine WL.rn ht hn 1 ⟨[sl 0 (.pptr 0 0 (Bk 0))], [.box [I gc, LS intT gs, .own 1] 127 false, mapI StackEdge.enc StackKnown.ty E]⟩ ?_
 refine En.sr ?_
 refine WL.rn ht hn 9 ⟨[sl 0 (.pptr 0 0 (Bk 0)), sl 2 (I (wr ((wr (3 + (gs.length : Int))) + 1)))], [.box [I gc, LS intT gs, .own 1] 127 false, mapI StackEdge.enc StackKnown.ty E]⟩ ?_
 refine En.ret ?_
 exact En.backE [0] ht (wr ((wr (3 + (gs.length : Int))) + 1)) h (by kernel_rfl) (by rfl) rfl
theorem en64 : ∀ args w, (callFunc 64 args).run Try.prog w = .ok (.enter 64 args) w := enters_of Try.func64 (by kernel_rfl) rfl
theorem sSts_ct (gc : Int) (gs : (List Int)) (E : (List (StackEdge × StackKnown))) (hp : gs.length ≤ 1000)  : CtE 64 [.sv (.one (.ptr 0 0))] [.box [I gc, LS intT gs, .own 1] 127 false, mapI StackEdge.enc StackKnown.ty E] [0] (fun (_ : Unit) => True) (fun _ => .sv (.one (I (stsS gs)))) (fun _ => [.box [I gc, LS intT gs, .own 1] 127 false, mapI StackEdge.enc StackKnown.ty E]) := by
 refine (sSts_walk gc gs E (fun res_ => res_ = stsS gs) ?_).imp (fun r hr => ⟨(), trivial, by subst hr; rfl, by subst hr; rfl⟩)
 unfold sSts_vc
 show wr (wr (3 + (gs.length : Int)) + 1) = stsS gs
 unfold stsS
 rw [wr_in (n := 3 + (gs.length : Int)) (by omega) (by omega), wr_in (by omega) (by omega)]
 omega
def sLst_vc (gc : Int) (gs : (List Int)) (E : (List (StackEdge × StackKnown))) (Q : Int → Prop) : Prop :=
 ((gs).length ≤ 1000) ∧
 Q (wr ((stsS gs) - 1))
noncomputable abbrev qsLst0 (gc : Int) (gs : (List Int)) (E : (List (StackEdge × StackKnown))) := ([.box [I gc, LS intT gs, .own 1] 127 false, mapI StackEdge.enc StackKnown.ty E] : List Item)
theorem sLst_walk (gc : Int) (gs : (List Int)) (E : (List (StackEdge × StackKnown))) (Q : Int → Prop) (h : sLst_vc gc gs E Q) : CtE 27 [.sv (.one (.ptr 0 0))] [.box [I gc, LS intT gs, .own 1] 127 false, mapI StackEdge.enc StackKnown.ty E] [0] Q (fun (r : Int) => .sv (.one (I r))) (fun (r : Int) => [.box [I gc, LS intT gs, .own 1] 127 false, mapI StackEdge.enc StackKnown.ty E]) := by
 have ht := tab_ok
 refine CtE.body Try.func27 rfl rfl rfl (by kernel_rfl) (by kernel_rfl) (fun c Bk hn => ?_)
 unfold sLst_vc at h
 show En c ⟨[sl 0 (.pptr 0 0 (Bk 0))], (qsLst0 gc gs E)⟩ _
 refine En.sr ?_
 refine WL.rn ht hn 1 ⟨[sl 0 (.pptr 0 0 (Bk 0))], (qsLst0 gc gs E)⟩ ?_
 refine En.sr ?_
 refine WL.r ht hn 1 ⟨[sl 0 (.pptr 0 0 (Bk 0)), sl 3 (.ptr 0 0)], (qsLst0 gc gs E)⟩ ?_
 obtain ⟨hp, h⟩ := h
 refine WL.cE (sSts_ct gc gs E hp) en64 [0, 1] hn rfl ?_
 refine WL.rn ht hn 2 ⟨[sl 0 (.pptr 0 0 (Bk 0)), sl 2 (I (wr ((stsS gs) - 1)))], (qsLst0 gc gs E)⟩ ?_
 refine En.ret ?_
 exact En.backE [0] ht (wr ((stsS gs) - 1)) h (by kernel_rfl) (by rfl) rfl
theorem en27 : ∀ args w, (callFunc 27 args).run Try.prog w = .ok (.enter 27 args) w := enters_of Try.func27 (by kernel_rfl) rfl
theorem sLst_ct (gc : Int) (gs : (List Int)) (E : (List (StackEdge × StackKnown))) (hp : gs.length ≤ 1000)  : CtE 27 [.sv (.one (.ptr 0 0))] [.box [I gc, LS intT gs, .own 1] 127 false, mapI StackEdge.enc StackKnown.ty E] [0] (fun (_ : Unit) => True) (fun _ => .sv (.one (I (lstS gs)))) (fun _ => [.box [I gc, LS intT gs, .own 1] 127 false, mapI StackEdge.enc StackKnown.ty E]) := by
 refine (sLst_walk gc gs E (fun res_ => res_ = lstS gs) ?_).imp (fun r hr => ⟨(), trivial, by subst hr; rfl, by subst hr; rfl⟩)
 unfold sLst_vc stsS
 refine ⟨hp, ?_⟩
 show wr ((gs.length : Int) + 4 - 1) = lstS gs
 unfold lstS
 rw [wr_in (by omega) (by omega)]
 omega
def cloneStackEdge_vc (l : (List StackEdge)) (Q : (List StackEdge) → Prop) : Prop :=
 l.length ≤ 9223372036854775807 →
 (∀ isnil : Bool, (isnil = true → l = []) →
 (IfP (isnil != false) (Q []) (capOk ([] : (List StackEdge)).length (l : (List StackEdge)).length 24 ∧
 Q (([] : (List StackEdge)) ++ l))))
theorem cloneStackEdge_walk (l : (List StackEdge)) (Q : (List StackEdge) → Prop) (h : cloneStackEdge_vc l Q) : CtJ 65 [.sv (.one (LS StackEdge.ty l))] [] Q (fun (r : (List StackEdge)) => rowI 79 StackEdge.ty r) := by
 have ht := tab_ok
 refine CtJ.body Try.func65 rfl rfl rfl rfl (fun c hn hmay => ?_)
 unfold cloneStackEdge_vc at h
 refine En.lenL 0 (by rfl) (fun hl => ?_)
 replace h := h hl
 clear hl
 refine En.sr ?_
 refine WL.rn ht hn 1 ⟨[sl 0 (LS StackEdge.ty l)], []⟩ ?_
 refine En.seq ?_
 refine En.sr ?_
 refine WL.r ht hn 1 ⟨[sl 0 (LS StackEdge.ty l), sl 3 (LS StackEdge.ty l)], []⟩ ?_
 refine WL.eqNil (T := StackEdge.ty) (l := l) .eql false (by simp) ht hn (by rfl) rfl (by rfl) (by rfl) (by rfl) rfl (by rfl) (fun isnil hisnil => ?_)
 replace h := h isnil hisnil
 clear hisnil
 refine WL.nil ?_
 refine En.cd (b := (isnil != false)) (fun hb => ?_) (fun hb => ?_)
 replace h := h.1 hb
 refine En.sr ?_
 refine WL.rn ht hn 1 ⟨[sl 2 (.v (.slice none 0 0))], []⟩ ?_
 refine En.ret ?_
 exact En.backN (by rfl) h
 replace h := h.2 hb
 refine En.skip ?_
 refine En.sr ?_
 refine WL.mt0 (K := []) (p := some (0, rowI 79 StackEdge.ty ([] : (List StackEdge)))) hn (by rfl) (mt_empty StackEdge.ty 0 ht rfl (by rfl) (by rfl) (by rfl)) (by rfl) (by rfl) (by rfl) ?_
 refine WL.r ht hn 1 ⟨[sl 5 (.own 0), sl 6 (LS StackEdge.ty l)], [rowI 79 StackEdge.ty ([] : (List StackEdge))]⟩ ?_
 obtain ⟨hp, h⟩ := h
 refine WL.mt (S2 := ⟨[sl 6 (LS StackEdge.ty l)], [rowI 79 StackEdge.ty ([] : (List StackEdge))]⟩) (K := [0]) (p := some (0, rowI 79 StackEdge.ty (([] : (List StackEdge)) ++ l))) hn (by rfl) (mt_append (T := StackEdge.ty) (l := ([] : (List StackEdge))) (es := l) ht rfl (by rfl) (by rfl) (by rfl) (by rfl) (by decide) (by rfl) (by rfl) (srcLS (T := StackEdge.ty) (es := l) (fun _ h => by cases h) (by decide) (by rfl)) (by exact hp) (by exact hp.le (by decide))) (by kernel_rfl) (by rfl) (by rfl) (by rfl) ?_
 refine WL.rn ht hn 1 ⟨[sl 2 (.own 0)], [rowI 79 StackEdge.ty (([] : (List StackEdge)) ++ l)]⟩ ?_
 refine En.ret ?_
 exact En.backJ (itf := fun l => rowI 79 StackEdge.ty l) hmay (by rfl) (by rfl) rfl rfl h
theorem en65 : ∀ args w, (callFunc 65 args).run Try.prog w = .ok (.enter 65 args) w := enters_of Try.func65 (by kernel_rfl) rfl
theorem cloneStackEdge_ct (l : List StackEdge) (hp : l.length * 24 ≤ 140737488355328) : CtI 65 [.sv (.one (LS StackEdge.ty l))] [] (rowI 79 StackEdge.ty l) := by
 refine (cloneStackEdge_walk l (fun r => r = l) ?_).fun
 unfold cloneStackEdge_vc
 refine fun _ isnil h => ⟨fun hb => (h (by simpa using hb)).symm, fun _ => ⟨?_, by simp⟩⟩
 unfold capOk
 simpa using hp
def sWay_vc (gc : Int) (gs : (List Int)) (E : (List (StackEdge × StackKnown))) (fr : Int) (signs : (List Int)) (Q : (List StackWay) → Prop) : Prop :=
 signs.length ≤ 9223372036854775807 →
 (∃ J : (List StackWay) → Prop, (IfP (((gs.length : Int) == 0) && (fr == gc)) (((gs).length ≤ 1000) ∧
 capOk ([(StackWay.mk fr 0 [])] : (List StackWay)).length (([(StackWay.mk (lstS gs) 0 [])] : (List StackWay)) : (List StackWay)).length 40 ∧
 J (([(StackWay.mk fr 0 [])] : (List StackWay)) ++ ([(StackWay.mk (lstS gs) 0 [])] : (List StackWay)))) (J ([(StackWay.mk fr 0 [])] : (List StackWay)))) ∧
 (∀ (l2 : (List StackWay)), J l2 → ∃ (Inv : Int → (List StackWay) → Prop) (mu : Int → (List StackWay) → Nat), Inv 0 l2 ∧
 ∀ (x50 : Int) (l2_2 : (List StackWay)) , Inv x50 l2_2 → (IfP (decide (x50 < (signs.length : Int))) (∃ e, idx signs x50 = some e ∧
 ∃ (Inv_2 : Int → (List (Int × StackWay)) → Prop) (mu_2 : Int → (List (Int × StackWay)) → Nat), Inv_2 0 ([] : List (Int × StackWay)) ∧
 ∀ (x57 : Int) (m3 : (List (Int × StackWay))) , Inv_2 x57 m3 → (IfP (decide (x57 < (l2_2.length : Int))) (∃ e_2, idx l2_2 x57 = some e_2 ∧
 ((gs).length ≤ 1000) ∧
 ∃ (Inv_3 : Int → (List (Int × StackWay)) → Prop) (mu_3 : Int → (List (Int × StackWay)) → Nat), Inv_3 0 m3 ∧
 ∀ (x63 : Int) (m3_2 : (List (Int × StackWay))) , Inv_3 x63 m3_2 → (IfP (decide (x63 < (stsS gs))) (∃ J_2 : (List (Int × StackWay)) → Prop, (IfP (!(mget (StackEdge.mk e_2.fTo e x63) E).isSome) (J_2 m3_2) ((e_2.fOver.length * 24 ≤ 140737488355328) ∧
 capOk (e_2.fOver).length (([(StackEdge.mk e_2.fTo e x63)] : (List StackEdge)) : (List StackEdge)).length 24 ∧
 IfP ((!(mget x63 m3_2).isSome) || (decide ((if 1099511627776 < (wr (e_2.fCost + ((mget (StackEdge.mk e_2.fTo e x63) E).getD (StackKnown.mk (0 : Int) (0 : Int) [])).fCost)) then 1099511627776 else (wr (e_2.fCost + ((mget (StackEdge.mk e_2.fTo e x63) E).getD (StackKnown.mk (0 : Int) (0 : Int) [])).fCost))) < ((mget x63 m3_2).getD (StackWay.mk (0 : Int) (0 : Int) [])).fCost))) (J_2 (mput x63 (StackWay.mk x63 (if 1099511627776 < (wr (e_2.fCost + ((mget (StackEdge.mk e_2.fTo e x63) E).getD (StackKnown.mk (0 : Int) (0 : Int) [])).fCost)) then 1099511627776 else (wr (e_2.fCost + ((mget (StackEdge.mk e_2.fTo e x63) E).getD (StackKnown.mk (0 : Int) (0 : Int) [])).fCost))) ((e_2.fOver) ++ ([(StackEdge.mk e_2.fTo e x63)] : (List StackEdge)))) m3_2)) (J_2 m3_2))) ∧
 (∀ (m3_3 : (List (Int × StackWay))), J_2 m3_3 → (Inv_3 (wr (x63 + 1)) m3_3 ∧ mu_3 (wr (x63 + 1)) m3_3 < mu_3 x63 m3_2))) ((Inv_2 (wr (x57 + 1)) m3_2 ∧ mu_2 (wr (x57 + 1)) m3_2 < mu_2 x57 m3)))) (((gs).length ≤ 1000) ∧
 ∃ (Inv_4 : Int → (List StackWay) → Prop) (mu_4 : Int → (List StackWay) → Nat), Inv_4 0 ([] : (List StackWay)) ∧
 ∀ (x118 : Int) (l6 : (List StackWay)) , Inv_4 x118 l6 → (IfP (decide (x118 < (stsS gs))) (∃ J_3 : (List StackWay) → Prop, (IfP (mget x118 m3).isSome (capOk l6.length (([((mget x118 m3).getD (StackWay.mk (0 : Int) (0 : Int) []))] : (List StackWay)) : (List StackWay)).length 40 ∧
 IfP ((x118 == gc) && ((gs.length : Int) == 0)) (((gs).length ≤ 1000) ∧
 capOk (l6 ++ ([((mget x118 m3).getD (StackWay.mk (0 : Int) (0 : Int) []))] : (List StackWay))).length (([(StackWay.mk (lstS gs) ((mget x118 m3).getD (StackWay.mk (0 : Int) (0 : Int) [])).fCost ((mget x118 m3).getD (StackWay.mk (0 : Int) (0 : Int) [])).fOver)] : (List StackWay)) : (List StackWay)).length 40 ∧
 J_3 ((l6 ++ ([((mget x118 m3).getD (StackWay.mk (0 : Int) (0 : Int) []))] : (List StackWay))) ++ ([(StackWay.mk (lstS gs) ((mget x118 m3).getD (StackWay.mk (0 : Int) (0 : Int) [])).fCost ((mget x118 m3).getD (StackWay.mk (0 : Int) (0 : Int) [])).fOver)] : (List StackWay)))) (J_3 (l6 ++ ([((mget x118 m3).getD (StackWay.mk (0 : Int) (0 : Int) []))] : (List StackWay))))) (J_3 l6)) ∧
 (∀ (l6_2 : (List StackWay)), J_3 l6_2 → (Inv_4 (wr (x118 + 1)) l6_2 ∧ mu_4 (wr (x118 + 1)) l6_2 < mu_4 x118 l6))) ((Inv (wr (x50 + 1)) l6 ∧ mu (wr (x50 + 1)) l6 < mu x50 l2_2)))))) (Q l2_2))))
noncomputable abbrev qsWay0 := (StackWay.mk (0 : Int) (0 : Int) [])
noncomputable abbrev qsWay1 (E : (List (StackEdge × StackKnown))) (y0 : Int) (y1 : Int) (y2 : Int) (y3 : Int) := (if 1099511627776 < (wr (y0 + ((mget (StackEdge.mk y1 y2 y3) E).getD (StackKnown.mk (0 : Int) (0 : Int) [])).fCost)) then 1099511627776 else (wr (y0 + ((mget (StackEdge.mk y1 y2 y3) E).getD (StackKnown.mk (0 : Int) (0 : Int) [])).fCost)))
noncomputable abbrev qsWay2 (gc : Int) (gs : (List Int)) := (.box [I gc, LS intT gs, .own 1] 127 false : Item)
noncomputable abbrev qsWay3 (signs : (List Int)) := sl 49 (I (signs.length : Int))
noncomputable abbrev qsWay4 (y0 : Nat → Nat) := sl 0 (.pptr 0 0 (y0 0))
noncomputable abbrev qsWay5 := (List StackWay)
noncomputable abbrev qsWay6 (signs : (List Int)) := sl 48 (LS intT signs)
noncomputable abbrev qsWay7 (E : (List (StackEdge × StackKnown))) (y0 : Int) (y1 : Int) (y2 : Int) := (StackKnown.cl ((mget (StackEdge.mk y0 y1 y2) E).getD (StackKnown.mk (0 : Int) (0 : Int) [])))
noncomputable abbrev qsWay8 (gs : (List Int)) := sl 117 (I (stsS gs))
noncomputable abbrev qsWay9 (y0 : Int) (y1) := sl 154 (LS StackEdge.ty ((mget y0 y1).getD (qsWay0)).fOver)
noncomputable abbrev qsWay10 := sl 10 (.own 3)
noncomputable abbrev qsWay11 (y0 : Int) (y1) := sl 152 (I ((mget y0 y1).getD (qsWay0)).fCost)
noncomputable abbrev qsWay12 := sl 21 (.ptr 7 0)
noncomputable abbrev qsWay13 := sl 12 (.ptr 4 0)
noncomputable abbrev qsWay14 := sl 148 (.own 6)
noncomputable abbrev qsWay15 := sl 55 (.own 2)
noncomputable abbrev qsWay16 (gs : (List Int)) := sl 62 (I (stsS gs))
noncomputable abbrev qsWay17 := sl 149 (.ptr 0 0)
noncomputable abbrev qsWay18 := sl 151 (.ptr 7 1)
noncomputable abbrev qsWay19 := sl 153 (.ptr 7 2)
noncomputable abbrev qsWay20 (y0 : Int) (y1 : Int) (y2 : Int) := (StackEdge.mk y0 y1 y2)
noncomputable abbrev qsWay21 := (List StackEdge)
noncomputable abbrev qsWay22 (gs : (List Int)) := (StackWay.mk (lstS gs) 0 [])
noncomputable abbrev qsWay23 (fr : Int) := (StackWay.mk fr 0 [])
noncomputable abbrev qsWay24 (E : (List (StackEdge × StackKnown))) (y0 : Int) (y1 : Int) (y2 : Int) (y3 : Int) := (.box [I y0, I (qsWay1 E y1 y2 y3 y0), .own 8] 76 false : Item)
noncomputable abbrev qsWay25 := (StackKnown.mk (0 : Int) (0 : Int) [])
noncomputable abbrev qsWay26 (gs : (List Int)) := sl 150 (I (lstS gs))
set_option maxHeartbeats 2000000 in
theorem sWay_walk (gc : Int) (gs : (List Int)) (E : (List (StackEdge × StackKnown))) (fr : Int) (signs : (List Int)) (Q : (List StackWay) → Prop) (h : sWay_vc gc gs E fr signs Q) : CtE 26 [.sv (.one (.ptr 0 0)), .sv (.one (I fr)), .sv (.one (LS intT signs))] [.box [I gc, LS intT gs, .own 1] 127 false, mapI StackEdge.enc StackKnown.ty E] [0] Q (fun (r : (List StackWay)) => .sv (.one (LS StackWay.ty r))) (fun (r : (List StackWay)) => [.box [I gc, LS intT gs, .own 1] 127 false, mapI StackEdge.enc StackKnown.ty E]) := by
 have ht := tab_ok
 refine CtE.body Try.func26 rfl rfl rfl (by kernel_rfl) (by kernel_rfl) (fun c Bk hn => ?_)
 unfold sWay_vc at h
 show En c ⟨[(qsWay4 Bk), sl 1 (I fr), sl 2 (LS intT signs)], [(qsWay2 gc gs), mapI StackEdge.enc StackKnown.ty E]⟩ _
 refine En.lenL 2 (by rfl) (fun hl => ?_)
 replace h := h hl
 clear hl
 refine En.sr ?_
 refine WL.rn ht hn 1 ⟨[(qsWay4 Bk), sl 1 (I fr), sl 2 (LS intT signs)], [(qsWay2 gc gs), mapI StackEdge.enc StackKnown.ty E]⟩ ?_
 refine En.sr ?_
 refine WL.r ht hn 2 ⟨[(qsWay4 Bk), sl 1 (I fr), sl 2 (LS intT signs), (24, .sv (.agg [I fr, I 0, .v (.slice none 0 0)]))], [(qsWay2 gc gs), mapI StackEdge.enc StackKnown.ty E]⟩ ?_
 refine WL.mt0 (K := []) (p := some (2, rowI 76 StackWay.ty ([(qsWay23 fr)] : (qsWay5)))) hn (by rfl) (mt_lit (T := StackWay.ty) ([(qsWay23 fr)] : (qsWay5)) (mt_nilBox (T := StackEdge.ty) 2 (mt_bsl 2 (r := [I fr, I 0, .v (.slice none 0 0)]) ht rfl (by rfl) (by rfl) (by rfl) (by kernel_rfl) (by rfl)) (by rfl)) (fun _ h => by cases h) (fun _ => rfl) (fun _ => rfl) (by rfl) (Nat.le_of_ble_eq_true rfl)) (by rfl) (by rfl) (by rfl) ?_
 refine WL.rn ht hn 1 ⟨[(qsWay4 Bk), sl 1 (I fr), sl 2 (LS intT signs), sl 7 (.own 2)], [(qsWay2 gc gs), mapI StackEdge.enc StackKnown.ty E, rowI 76 StackWay.ty ([(qsWay23 fr)] : (qsWay5))]⟩ ?_
 obtain ⟨J, h, hJ⟩ := h
 refine En.seqJ (σ := (qsWay5)) (fun zz => J zz) (fun zz => ⟨[(qsWay4 Bk), sl 2 (LS intT signs), sl 7 (.own 2)], [(qsWay2 gc gs), mapI StackEdge.enc StackKnown.ty E, rowI 76 StackWay.ty zz]⟩) ?_ ?_
 refine En.sr ?_
 refine WL.r ht hn 8 ⟨[(qsWay4 Bk), sl 1 (I fr), sl 2 (LS intT signs), sl 7 (.own 2), sl 33 (B ((gs.length : Int) == 0))], [(qsWay2 gc gs), mapI StackEdge.enc StackKnown.ty E, rowI 76 StackWay.ty ([(qsWay23 fr)] : (qsWay5))]⟩ ?_
 refine WL.thru ⟨[(qsWay4 Bk), sl 2 (LS intT signs), sl 7 (.own 2), sl 41 (B (((gs.length : Int) == 0) && (fr == gc)))], [(qsWay2 gc gs), mapI StackEdge.enc StackKnown.ty E, rowI 76 StackWay.ty ([(qsWay23 fr)] : (qsWay5))]⟩ ?_ ?_
 refine splitB ((gs.length : Int) == 0) (fun hb0 => ?_) (fun hb0 => ?_)
 refine WL.sB 33 hb0 ?_
 refine WL.r ht hn 8 ⟨[(qsWay4 Bk), sl 2 (LS intT signs), sl 7 (.own 2), sl 41 (B (fr == gc))], [(qsWay2 gc gs), mapI StackEdge.enc StackKnown.ty E, rowI 76 StackWay.ty ([(qsWay23 fr)] : (qsWay5))]⟩ ?_
 exact WL.nil (sub_ok (by simp only [hb0]; kernel_rfl))
 refine WL.sB 33 hb0 ?_
 refine WL.r ht hn 8 ⟨[(qsWay4 Bk), sl 2 (LS intT signs), sl 7 (.own 2), sl 41 (B false)], [(qsWay2 gc gs), mapI StackEdge.enc StackKnown.ty E, rowI 76 StackWay.ty ([(qsWay23 fr)] : (qsWay5))]⟩ ?_
 exact WL.nil (sub_ok (by simp only [hb0]; kernel_rfl))
 refine En.cd (b := (((gs.length : Int) == 0) && (fr == gc))) (fun hb => ?_) (fun hb => ?_)
 replace h := h.1 hb
 refine En.region ?_
 refine WL.r ht hn 2 ⟨[(qsWay4 Bk), sl 2 (LS intT signs), sl 42 (.own 2), sl 43 (.ptr 0 0)], [(qsWay2 gc gs), mapI StackEdge.enc StackKnown.ty E, rowI 76 StackWay.ty ([(qsWay23 fr)] : (qsWay5))]⟩ ?_
 obtain ⟨hp, h⟩ := h
 refine WL.cE (sLst_ct gc gs E hp) en27 [0, 1] hn rfl ?_
 refine WL.r ht hn 1 ⟨[(qsWay4 Bk), sl 2 (LS intT signs), sl 42 (.own 2), (45, .sv (.agg [I (lstS gs), I 0, .v (.slice none 0 0)]))], [(qsWay2 gc gs), mapI StackEdge.enc StackKnown.ty E, rowI 76 StackWay.ty ([(qsWay23 fr)] : (qsWay5))]⟩ ?_
 refine WL.mt0 (K := []) (p := some (3, rowI 76 StackWay.ty ([(qsWay22 gs)] : (qsWay5)))) hn (by rfl) (mt_lit (T := StackWay.ty) ([(qsWay22 gs)] : (qsWay5)) (mt_nilBox (T := StackEdge.ty) 2 (mt_bsl 3 (r := [I (lstS gs), I 0, .v (.slice none 0 0)]) ht rfl (by rfl) (by rfl) (by rfl) (by kernel_rfl) (by rfl)) (by rfl)) (fun _ h => by cases h) (fun _ => rfl) (fun _ => rfl) (by rfl) (Nat.le_of_ble_eq_true rfl)) (by rfl) (by rfl) (by rfl) ?_
 refine WL.seal (T := StackWay.ty) (l := ([(qsWay22 gs)] : (qsWay5))) (e := 76) 3 rfl ?_
 refine WL.r ht hn 0 ⟨[(qsWay4 Bk), sl 2 (LS intT signs), sl 42 (.own 2), (45, .sv (.agg [I (lstS gs), I 0, .v (.slice none 0 0)])), sl 46 (LS StackWay.ty ([(qsWay22 gs)] : (qsWay5)))], [(qsWay2 gc gs), mapI StackEdge.enc StackKnown.ty E, rowI 76 StackWay.ty ([(qsWay23 fr)] : (qsWay5)), .gone]⟩ ?_
 obtain ⟨hp, h⟩ := h
 refine WL.mt (S2 := ⟨[(qsWay4 Bk), sl 2 (LS intT signs), (45, .sv (.agg [I (lstS gs), I 0, .v (.slice none 0 0)])), sl 46 (LS StackWay.ty ([(qsWay22 gs)] : (qsWay5)))], [(qsWay2 gc gs), mapI StackEdge.enc StackKnown.ty E, rowI 76 StackWay.ty ([(qsWay23 fr)] : (qsWay5)), .gone]⟩) (K := [2]) (p := some (2, rowI 76 StackWay.ty (([(qsWay23 fr)] : (qsWay5)) ++ ([(qsWay22 gs)] : (qsWay5))))) hn (by rfl) (mt_append (T := StackWay.ty) (l := ([(qsWay23 fr)] : (qsWay5))) (es := ([(qsWay22 gs)] : (qsWay5))) ht rfl (by rfl) (by rfl) (by rfl) (by rfl) (by decide) (by rfl) (by rfl) (srcLS (T := StackWay.ty) (es := ([(qsWay22 gs)] : (qsWay5))) (fun _ h => by cases h) (by decide) (by rfl)) (by exact hp) (by exact hp.le (by decide))) (by kernel_rfl) (by rfl) (by rfl) (by rfl) ?_
 refine WL.rn ht hn 1 ⟨[(qsWay4 Bk), sl 2 (LS intT signs), sl 7 (.own 2)], [(qsWay2 gc gs), mapI StackEdge.enc StackKnown.ty E, rowI 76 StackWay.ty (([(qsWay23 fr)] : (qsWay5)) ++ ([(qsWay22 gs)] : (qsWay5))), .gone]⟩ ?_
 exact En.at (I := fun zz => J zz) (T := fun zz => ⟨[(qsWay4 Bk), sl 2 (LS intT signs), sl 7 (.own 2)], [(qsWay2 gc gs), mapI StackEdge.enc StackKnown.ty E, rowI 76 StackWay.ty zz]⟩) (([(qsWay23 fr)] : (qsWay5)) ++ ([(qsWay22 gs)] : (qsWay5))) h (by kernel_rfl)
 replace h := h.2 hb
 refine En.skip ?_
 exact En.at (I := fun zz => J zz) (T := fun zz => ⟨[(qsWay4 Bk), sl 2 (LS intT signs), sl 7 (.own 2)], [(qsWay2 gc gs), mapI StackEdge.enc StackKnown.ty E, rowI 76 StackWay.ty zz]⟩) ([(qsWay23 fr)] : (qsWay5)) h (by kernel_rfl)
 intro l2 h
 replace h := hJ _ h
 show En c ⟨[(qsWay4 Bk), sl 2 (LS intT signs), sl 7 (.own 2)], [(qsWay2 gc gs), mapI StackEdge.enc StackKnown.ty E, rowI 76 StackWay.ty l2]⟩ _
 refine En.seq ?_
 refine En.sr ?_
 refine WL.rn ht hn 3 ⟨[(qsWay4 Bk), sl 7 (.own 2), (qsWay6 signs), (qsWay3 signs), sl 50 (I 0)], [(qsWay2 gc gs), mapI StackEdge.enc StackKnown.ty E, rowI 76 StackWay.ty l2]⟩ ?_
 refine En.block ?_
 obtain ⟨Inv, mu, h0_4, hI_4⟩ := h
 refine En.loop (σ := Int × (qsWay5)) (fun zz => Inv zz.1 zz.2) (fun zz => mu zz.1 zz.2) (fun zz => ⟨[(qsWay4 Bk), sl 7 (.own 2), (qsWay6 signs), (qsWay3 signs), sl 50 (I zz.1)], [(qsWay2 gc gs), mapI StackEdge.enc StackKnown.ty E, rowI 76 StackWay.ty zz.2]⟩) (0, l2) h0_4 (sub_ok (by kernel_rfl)) ?_
 rintro ⟨x50, l2_2⟩ h
 replace h := hI_4 _ _ h
 show En c ⟨[(qsWay4 Bk), sl 7 (.own 2), (qsWay6 signs), (qsWay3 signs), sl 50 (I x50)], [(qsWay2 gc gs), mapI StackEdge.enc StackKnown.ty E, rowI 76 StackWay.ty l2_2]⟩ _
 refine En.sr ?_
 refine WL.rn ht hn 1 ⟨[(qsWay4 Bk), sl 7 (.own 2), (qsWay6 signs), (qsWay3 signs), sl 50 (I x50), sl 51 (B (decide (x50 < (signs.length : Int))))], [(qsWay2 gc gs), mapI StackEdge.enc StackKnown.ty E, rowI 76 StackWay.ty l2_2]⟩ ?_
 refine En.seq ?_
 refine En.cd (b := (decide (x50 < (signs.length : Int)))) (fun hb => ?_) (fun hb => ?_)
 replace h := h.1 hb
 refine En.skip ?_
 refine En.seq ?_
 refine En.block ?_
 refine En.sr ?_
 obtain ⟨e, he, h⟩ := h
 refine WL.v hn (val_ix (T := intT) (l := signs) (i := x50) ht rfl he) ?_
 refine WL.v hn (val_ld (s := .one (I e)) ht rfl) ?_
 refine WL.rn ht hn 1 ⟨[(qsWay4 Bk), sl 7 (.own 2), sl 9 (I e), (qsWay6 signs), (qsWay3 signs), sl 50 (I x50)], [(qsWay2 gc gs), mapI StackEdge.enc StackKnown.ty E, rowI 76 StackWay.ty l2_2]⟩ ?_
 refine En.sr ?_
 refine WL.mt0 (K := []) (p := some (3, mapI encI3 StackWay.ty ([] : List (Int × StackWay)))) hn (by rfl) (mt_makeMap encI3 StackWay.ty 3 rfl) (by rfl) (by rfl) (by rfl) ?_
 refine WL.rn ht hn 1 ⟨[(qsWay4 Bk), sl 7 (.own 2), sl 9 (I e), (qsWay10), (qsWay6 signs), (qsWay3 signs), sl 50 (I x50)], [(qsWay2 gc gs), mapI StackEdge.enc StackKnown.ty E, rowI 76 StackWay.ty l2_2, mapI encI3 StackWay.ty ([] : List (Int × StackWay))]⟩ ?_
 refine En.seq ?_
 refine En.sr ?_
 refine WL.rn ht hn 3 ⟨[(qsWay4 Bk), sl 9 (I e), (qsWay10), (qsWay6 signs), (qsWay3 signs), sl 50 (I x50), (qsWay15), sl 56 (I (l2_2.length : Int)), sl 57 (I 0)], [(qsWay2 gc gs), mapI StackEdge.enc StackKnown.ty E, rowI 76 StackWay.ty l2_2, mapI encI3 StackWay.ty ([] : List (Int × StackWay))]⟩ ?_
 refine En.block ?_
 obtain ⟨Inv_2, mu_2, h0_3, hI_3⟩ := h
 refine En.loop (σ := Int × (List (Int × StackWay))) (fun zz => Inv_2 zz.1 zz.2) (fun zz => mu_2 zz.1 zz.2) (fun zz => ⟨[(qsWay4 Bk), sl 9 (I e), (qsWay10), (qsWay6 signs), (qsWay3 signs), sl 50 (I x50), (qsWay15), sl 56 (I (l2_2.length : Int)), sl 57 (I zz.1)], [(qsWay2 gc gs), mapI StackEdge.enc StackKnown.ty E, rowI 76 StackWay.ty l2_2, mapI encI3 StackWay.ty zz.2]⟩) (0, ([] : List (Int × StackWay))) h0_3 (sub_ok (by kernel_rfl)) ?_
 rintro ⟨x57, m3⟩ h
 replace h := hI_3 _ _ h
 show En c ⟨[(qsWay4 Bk), sl 9 (I e), (qsWay10), (qsWay6 signs), (qsWay3 signs), sl 50 (I x50), (qsWay15), sl 56 (I (l2_2.length : Int)), sl 57 (I x57)], [(qsWay2 gc gs), mapI StackEdge.enc StackKnown.ty E, rowI 76 StackWay.ty l2_2, mapI encI3 StackWay.ty m3]⟩ _
 refine En.sr ?_
 refine WL.rn ht hn 1 ⟨[(qsWay4 Bk), sl 9 (I e), (qsWay10), (qsWay6 signs), (qsWay3 signs), sl 50 (I x50), (qsWay15), sl 56 (I (l2_2.length : Int)), sl 57 (I x57), sl 58 (B (decide (x57 < (l2_2.length : Int))))], [(qsWay2 gc gs), mapI StackEdge.enc StackKnown.ty E, rowI 76 StackWay.ty l2_2, mapI encI3 StackWay.ty m3]⟩ ?_
 refine En.seq ?_
 refine En.cd (b := (decide (x57 < (l2_2.length : Int)))) (fun hb => ?_) (fun hb => ?_)
 replace h := h.1 hb
 refine En.skip ?_
 refine En.seq ?_
 refine En.block ?_
 refine En.sr ?_
 obtain ⟨e_2, he_2, h⟩ := h
 refine WL.v hn (val_indexO (T := StackWay.ty) (l := l2_2) (k := x57) ht rfl (by rfl) (by rfl) (by rfl) (by rfl) (by decide) (by rfl) (by rfl) (by rfl) he_2) ?_
 refine WL.v hn (val_loadO (T := StackWay.ty) (l := l2_2) (y := e_2) ht rfl (by rfl) (by rfl) (by rfl) (by rfl) (by rfl) (idx_some he_2).2.2 (by rfl)) ?_
 refine WL.rn ht hn 2 ⟨[(qsWay4 Bk), sl 9 (I e), (qsWay10), (qsWay13), (qsWay6 signs), (qsWay3 signs), sl 50 (I x50), (qsWay15), sl 56 (I (l2_2.length : Int)), sl 57 (I x57)], [(qsWay2 gc gs), mapI StackEdge.enc StackKnown.ty E, rowI 76 StackWay.ty l2_2, mapI encI3 StackWay.ty m3, .box (StackWay.cl e_2) 76 false]⟩ ?_
 refine En.sr ?_
 refine WL.r ht hn 1 ⟨[(qsWay4 Bk), sl 9 (I e), (qsWay10), (qsWay13), (qsWay6 signs), (qsWay3 signs), sl 50 (I x50), (qsWay15), sl 56 (I (l2_2.length : Int)), sl 57 (I x57), sl 61 (.ptr 0 0)], [(qsWay2 gc gs), mapI StackEdge.enc StackKnown.ty E, rowI 76 StackWay.ty l2_2, mapI encI3 StackWay.ty m3, .box (StackWay.cl e_2) 76 false]⟩ ?_
 obtain ⟨hp, h⟩ := h
 refine WL.cE (sSts_ct gc gs E hp) en64 [0, 1] hn rfl ?_
 refine WL.rn ht hn 1 ⟨[(qsWay4 Bk), sl 9 (I e), (qsWay10), (qsWay13), (qsWay6 signs), (qsWay3 signs), sl 50 (I x50), (qsWay15), sl 56 (I (l2_2.length : Int)), sl 57 (I x57), (qsWay16 gs), sl 63 (I 0)], [(qsWay2 gc gs), mapI StackEdge.enc StackKnown.ty E, rowI 76 StackWay.ty l2_2, mapI encI3 StackWay.ty m3, .box (StackWay.cl e_2) 76 false]⟩ ?_
 refine En.block ?_
 obtain ⟨Inv_3, mu_3, h0, hI⟩ := h
 refine En.loop (σ := Int × (List (Int × StackWay))) (fun zz => Inv_3 zz.1 zz.2) (fun zz => mu_3 zz.1 zz.2) (fun zz => ⟨[(qsWay4 Bk), sl 9 (I e), (qsWay10), (qsWay13), (qsWay6 signs), (qsWay3 signs), sl 50 (I x50), (qsWay15), sl 56 (I (l2_2.length : Int)), sl 57 (I x57), (qsWay16 gs), sl 63 (I zz.1)], [(qsWay2 gc gs), mapI StackEdge.enc StackKnown.ty E, rowI 76 StackWay.ty l2_2, mapI encI3 StackWay.ty zz.2, .box (StackWay.cl e_2) 76 false]⟩) (0, m3) h0 (sub_ok (by kernel_rfl)) ?_
 rintro ⟨x63, m3_2⟩ h
 replace h := hI _ _ h
 show En c ⟨[(qsWay4 Bk), sl 9 (I e), (qsWay10), (qsWay13), (qsWay6 signs), (qsWay3 signs), sl 50 (I x50), (qsWay15), sl 56 (I (l2_2.length : Int)), sl 57 (I x57), (qsWay16 gs), sl 63 (I x63)], [(qsWay2 gc gs), mapI StackEdge.enc StackKnown.ty E, rowI 76 StackWay.ty l2_2, mapI encI3 StackWay.ty m3_2, .box (StackWay.cl e_2) 76 false]⟩ _
 refine En.sr ?_
 refine WL.rn ht hn 1 ⟨[(qsWay4 Bk), sl 9 (I e), (qsWay10), (qsWay13), (qsWay6 signs), (qsWay3 signs), sl 50 (I x50), (qsWay15), sl 56 (I (l2_2.length : Int)), sl 57 (I x57), (qsWay16 gs), sl 63 (I x63), sl 64 (B (decide (x63 < (stsS gs))))], [(qsWay2 gc gs), mapI StackEdge.enc StackKnown.ty E, rowI 76 StackWay.ty l2_2, mapI encI3 StackWay.ty m3_2, .box (StackWay.cl e_2) 76 false]⟩ ?_
 refine En.seq ?_
 refine En.cd (b := (decide (x63 < (stsS gs)))) (fun hb => ?_) (fun hb => ?_)
 replace h := h.1 hb
 refine En.skip ?_
 obtain ⟨J_2, h, hJ_2⟩ := h
 refine En.seqJ (σ := (List (Int × StackWay))) (fun zz => J_2 zz) (fun zz => ⟨[(qsWay4 Bk), sl 9 (I e), (qsWay10), (qsWay13), (qsWay6 signs), (qsWay3 signs), sl 50 (I x50), (qsWay15), sl 56 (I (l2_2.length : Int)), sl 57 (I x57), (qsWay16 gs), sl 63 (I x63)], [(qsWay2 gc gs), mapI StackEdge.enc StackKnown.ty E, rowI 76 StackWay.ty l2_2, mapI encI3 StackWay.ty zz, .box (StackWay.cl e_2) 76 false, .gone, .gone]⟩) ?_ ?_
 refine En.block ?_
 refine En.sr ?_
 refine WL.rn ht hn 2 ⟨[(qsWay4 Bk), sl 9 (I e), (qsWay10), (qsWay13), sl 13 (I x63), (qsWay6 signs), (qsWay3 signs), sl 50 (I x50), (qsWay15), sl 56 (I (l2_2.length : Int)), sl 57 (I x57), (qsWay16 gs), sl 63 (I x63)], [(qsWay2 gc gs), mapI StackEdge.enc StackKnown.ty E, rowI 76 StackWay.ty l2_2, mapI encI3 StackWay.ty m3_2, .box (StackWay.cl e_2) 76 false]⟩ ?_
 refine En.sr ?_
 refine WL.rn ht hn 7 ⟨[(qsWay4 Bk), sl 9 (I e), (qsWay10), (qsWay13), sl 13 (I x63), sl 14 (.ptr 5 0), (qsWay6 signs), (qsWay3 signs), sl 50 (I x50), (qsWay15), sl 56 (I (l2_2.length : Int)), sl 57 (I x57), (qsWay16 gs), sl 63 (I x63)], [(qsWay2 gc gs), mapI StackEdge.enc StackKnown.ty E, rowI 76 StackWay.ty l2_2, mapI encI3 StackWay.ty m3_2, .box (StackWay.cl e_2) 76 false, .box [I e_2.fTo, I e, I x63] 79 false]⟩ ?_
 refine En.seq ?_
 refine En.regionA ⟨[(qsWay4 Bk), sl 9 (I e), (qsWay10), (qsWay13), sl 13 (I x63), sl 14 (.ptr 5 0), (qsWay6 signs), (qsWay3 signs), sl 50 (I x50), (qsWay15), sl 56 (I (l2_2.length : Int)), sl 57 (I x57), (qsWay16 gs), sl 63 (I x63)], [.sv (.one (.ptr 0 0)), .sv (.one (.ptr 0 0)), .sv (.one (.ptr 0 2)), .sv (.one (.own 1)), .sv (.agg [I e_2.fTo, I e, I x63]), .tup [.agg (qsWay7 E e_2.fTo e x63), .one (B (mget (qsWay20 e_2.fTo e x63) E).isSome)], .tup [.agg (qsWay7 E e_2.fTo e x63), .one (B (mget (qsWay20 e_2.fTo e x63) E).isSome)], .sv (.agg (qsWay7 E e_2.fTo e x63)), .sv (.one (B (mget (qsWay20 e_2.fTo e x63) E).isSome)), .sv (.one (.ptr 6 0)), .tup [], .sv (.one (B (mget (qsWay20 e_2.fTo e x63) E).isSome))], [⟨(qsWay2 gc gs), none, none, none⟩, ⟨mapI StackEdge.enc StackKnown.ty E, none, none, none⟩, ⟨rowI 76 StackWay.ty l2_2, none, none, none⟩, ⟨mapI encI3 StackWay.ty m3_2, none, none, none⟩, ⟨.box (StackWay.cl e_2) 76 false, none, none, none⟩, ⟨.box [I e_2.fTo, I e, I x63] 79 false, none, none, none⟩, ⟨.box [I 0, I 0, .v (.slice none 0 0)] 129 false, some 9, none, some (10, .box (qsWay7 E e_2.fTo e x63) 129 false)⟩]⟩ ⟨[(qsWay4 Bk), sl 9 (I e), (qsWay10), (qsWay13), sl 13 (I x63), sl 14 (.ptr 5 0), sl 15 (.ptr 6 0), sl 16 (B (mget (qsWay20 e_2.fTo e x63) E).isSome), (qsWay6 signs), (qsWay3 signs), sl 50 (I x50), (qsWay15), sl 56 (I (l2_2.length : Int)), sl 57 (I x57), (qsWay16 gs), sl 63 (I x63)], [(qsWay2 gc gs), mapI StackEdge.enc StackKnown.ty E, rowI 76 StackWay.ty l2_2, mapI encI3 StackWay.ty m3_2, .box (StackWay.cl e_2) 76 false, .box [I e_2.fTo, I e, I x63] 79 false, .box (qsWay7 E e_2.fTo e x63) 129 false]⟩ (by kernel_rfl) hn (by kernel_rfl) (by rfl) (by kernel_rfl) ?_ (by kernel_rfl) ?_
 exact ⟨.ev ⟨[(qsWay4 Bk)], []⟩ ht,
 .ev ⟨[sl 72 (.ptr 0 0)], []⟩ ht,
 .ev ⟨[sl 73 (.ptr 0 0)], []⟩ ht,
 .ev ⟨[sl 74 (.ptr 0 2)], [(qsWay2 gc gs)]⟩ ht,
 .ev ⟨[sl 14 (.ptr 5 0)], [.gone, .gone, .gone, .gone, .gone, .box [I e_2.fTo, I e, I x63] 79 false]⟩ ht,
 .vl ⟨[sl 75 (.own 1), (76, .sv (.agg [I e_2.fTo, I e, I x63]))], [.gone, mapI StackEdge.enc StackKnown.ty E]⟩ (mt_val (val_lookup (T := StackKnown.ty) (D := E) StackEdge.keyLaw (k := (qsWay20 e_2.fTo e x63)) (ok := true) (qsWay25) (zv := (.agg #[.int .i64 0, .int .i64 0, .slice none 0 0])) rfl Try.underlying125 (fun _ => by kernel_rfl) (fun _ => ⟨_, rfl, ⟨rfl, trivial⟩, trivial, ⟨rfl, trivial⟩, trivial, ls_nil, trivial, trivial⟩) (mapAs StackEdge.enc StackKnown.ty E) (by rfl) (by rfl) (by rfl) (fun _ => rfl))),
 .ev ⟨[(77, .tup [.agg (qsWay7 E e_2.fTo e x63), .one (B (mget (qsWay20 e_2.fTo e x63) E).isSome)])], []⟩ ht,
 .ev ⟨[(71, .tup [.agg (qsWay7 E e_2.fTo e x63), .one (B (mget (qsWay20 e_2.fTo e x63) E).isSome)])], []⟩ ht,
 .ev ⟨[(71, .tup [.agg (qsWay7 E e_2.fTo e x63), .one (B (mget (qsWay20 e_2.fTo e x63) E).isSome)])], []⟩ ht,
 .mt ⟨[], []⟩ [] (some 6) (by kernel_rfl) (by rfl) (mt_alloc2 6 129 ht rfl (by rfl) (by rfl)) rfl rfl rfl rfl,
 .mu ⟨[sl 15 (.ptr 6 0), (78, .sv (.agg (qsWay7 E e_2.fTo e x63)))], [.gone, .gone, .gone, .gone, .gone, .gone, .box [I 0, I 0, .v (.slice none 0 0)] 129 false]⟩ 6 _ _ rfl rfl (by kernel_rfl) (by rfl) (mu_store2 ht rfl (by rfl) (by rfl) (by rfl) (by rfl) (fun h => by cases h) (by rfl) (by rfl)) rfl rfl rfl rfl rfl rfl rfl,
 .ev ⟨[sl 79 (B (mget (qsWay20 e_2.fTo e x63) E).isSome)], []⟩ ht,
 trivial⟩
 refine En.seq ?_
 refine En.sr ?_
 refine WL.rn ht hn 2 ⟨[(qsWay4 Bk), sl 9 (I e), (qsWay10), (qsWay13), sl 13 (I x63), sl 14 (.ptr 5 0), sl 15 (.ptr 6 0), (qsWay6 signs), (qsWay3 signs), sl 50 (I x50), (qsWay15), sl 56 (I (l2_2.length : Int)), sl 57 (I x57), (qsWay16 gs), sl 63 (I x63), sl 81 (B (!(mget (qsWay20 e_2.fTo e x63) E).isSome))], [(qsWay2 gc gs), mapI StackEdge.enc StackKnown.ty E, rowI 76 StackWay.ty l2_2, mapI encI3 StackWay.ty m3_2, .box (StackWay.cl e_2) 76 false, .box [I e_2.fTo, I e, I x63] 79 false, .box (qsWay7 E e_2.fTo e x63) 129 false]⟩ ?_
 refine En.cd (b := (!(mget (qsWay20 e_2.fTo e x63) E).isSome)) (fun hb => ?_) (fun hb => ?_)
 replace h := h.1 hb
 refine En.exit rfl ?_
 exact En.at (I := fun zz => J_2 zz) (T := fun zz => ⟨[(qsWay4 Bk), sl 9 (I e), (qsWay10), (qsWay13), (qsWay6 signs), (qsWay3 signs), sl 50 (I x50), (qsWay15), sl 56 (I (l2_2.length : Int)), sl 57 (I x57), (qsWay16 gs), sl 63 (I x63)], [(qsWay2 gc gs), mapI StackEdge.enc StackKnown.ty E, rowI 76 StackWay.ty l2_2, mapI encI3 StackWay.ty zz, .box (StackWay.cl e_2) 76 false, .gone, .gone]⟩) m3_2 h (by kernel_rfl)
 replace h := h.2 hb
 refine En.skip ?_
 refine En.seq ?_
 obtain ⟨hp_2, h⟩ := h
 obtain ⟨hp_3, h⟩ := h
 refine En.regionA ⟨[(qsWay4 Bk), sl 9 (I e), (qsWay10), (qsWay13), sl 13 (I x63), sl 14 (.ptr 5 0), sl 15 (.ptr 6 0), (qsWay6 signs), (qsWay3 signs), sl 50 (I x50), (qsWay15), sl 56 (I (l2_2.length : Int)), sl 57 (I x57), (qsWay16 gs), sl 63 (I x63)], [.sv (.one (I x63)), .sv (.one (.ptr 4 1)), .sv (.one (I e_2.fCost)), .sv (.one (.ptr 6 1)), .sv (.one (I ((mget (qsWay20 e_2.fTo e x63) E).getD (qsWay25)).fCost)), .sv (.one (I (wr (e_2.fCost + ((mget (qsWay20 e_2.fTo e x63) E).getD (qsWay25)).fCost)))), .sv (.one (I (qsWay1 E e_2.fCost e_2.fTo e x63))), .sv (.one (.ptr 4 2)), .sv (.one (LS StackEdge.ty e_2.fOver)), .sv (.one (.own 7)), .sv (.agg [I e_2.fTo, I e, I x63]), .sv (.one (LS StackEdge.ty ([(qsWay20 e_2.fTo e x63)] : (qsWay21)))), .sv (.one (.own 8)), .sv (.agg [I x63, I (qsWay1 E e_2.fCost e_2.fTo e x63), .own 8]), .sv (.one (.ptr 9 0)), .tup []], [⟨(qsWay2 gc gs), none, none, none⟩, ⟨mapI StackEdge.enc StackKnown.ty E, none, none, none⟩, ⟨rowI 76 StackWay.ty l2_2, none, none, none⟩, ⟨mapI encI3 StackWay.ty m3_2, none, none, none⟩, ⟨.box (StackWay.cl e_2) 76 false, none, none, none⟩, ⟨.box [I e_2.fTo, I e, I x63] 79 false, none, none, none⟩, ⟨.box (qsWay7 E e_2.fTo e x63) 129 false, none, none, none⟩, ⟨rowI 79 StackEdge.ty e_2.fOver, some 9, some 12, none⟩, ⟨rowI 79 StackEdge.ty (e_2.fOver ++ ([(qsWay20 e_2.fTo e x63)] : (qsWay21))), some 12, none, none⟩, ⟨.box [I 0, I 0, .v (.slice none 0 0)] 76 false, some 14, none, some (15, (qsWay24 E x63 e_2.fCost e_2.fTo e))⟩]⟩ ⟨[(qsWay4 Bk), sl 9 (I e), (qsWay10), (qsWay13), sl 13 (I x63), sl 17 (.ptr 9 0), (qsWay6 signs), (qsWay3 signs), sl 50 (I x50), (qsWay15), sl 56 (I (l2_2.length : Int)), sl 57 (I x57), (qsWay16 gs), sl 63 (I x63)], [(qsWay2 gc gs), mapI StackEdge.enc StackKnown.ty E, rowI 76 StackWay.ty l2_2, mapI encI3 StackWay.ty m3_2, .box (StackWay.cl e_2) 76 false, .gone, .gone, .gone, rowI 79 StackEdge.ty (e_2.fOver ++ ([(qsWay20 e_2.fTo e x63)] : (qsWay21))), (qsWay24 E x63 e_2.fCost e_2.fTo e)]⟩ (by kernel_rfl) hn (by kernel_rfl) (by rfl) (by kernel_rfl) ?_ (by kernel_rfl) ?_
 exact ⟨.ev ⟨[sl 13 (I x63)], []⟩ ht,
 .ev ⟨[(qsWay13)], []⟩ ht,
 .ev ⟨[sl 83 (.ptr 4 1)], [.gone, .gone, .gone, .gone, .box (StackWay.cl e_2) 76 false]⟩ ht,
 .ev ⟨[sl 15 (.ptr 6 0)], []⟩ ht,
 .ev ⟨[sl 85 (.ptr 6 1)], [.gone, .gone, .gone, .gone, .gone, .gone, .box (qsWay7 E e_2.fTo e x63) 129 false]⟩ ht,
 .ev ⟨[sl 84 (I e_2.fCost), sl 86 (I ((mget (qsWay20 e_2.fTo e x63) E).getD (qsWay25)).fCost)], []⟩ ht,
 .ev ⟨[sl 87 (I (wr (e_2.fCost + ((mget (qsWay20 e_2.fTo e x63) E).getD (qsWay25)).fCost)))], []⟩ ht,
 .ev ⟨[(qsWay13)], []⟩ ht,
 .ev ⟨[sl 89 (.ptr 4 2)], [.gone, .gone, .gone, .gone, .box (StackWay.cl e_2) 76 false]⟩ ht,
 .mt ⟨[sl 90 (LS StackEdge.ty e_2.fOver)], []⟩ [] (some 7) (by kernel_rfl) (by rfl) (mt_callI 7 (cloneStackEdge_ct e_2.fOver hp_2) en65 (caps := []) [] rfl rfl (by rfl) (by kernel_rfl) (by kernel_rfl) (by rfl) (by rfl)) rfl rfl rfl rfl,
 .ev ⟨[sl 14 (.ptr 5 0)], [.gone, .gone, .gone, .gone, .gone, .box [I e_2.fTo, I e, I x63] 79 false]⟩ ht,
 .mt ⟨[(92, .sv (.agg [I e_2.fTo, I e, I x63]))], []⟩ [] none (by kernel_rfl) (by rfl) (mt_seal (q := 8) (e := 79) (mt_lit (T := StackEdge.ty) ([(qsWay20 e_2.fTo e x63)] : (qsWay21)) (mt_bsl 8 (r := cellsOf StackEdge.ty ([(qsWay20 e_2.fTo e x63)] : (qsWay21))) ht rfl (by rfl) (by rfl) (by rfl) (by kernel_rfl) (by rfl)) (fun _ h => by cases h) (fun _ => rfl) (fun _ => rfl) (by rfl) (Nat.le_of_ble_eq_true rfl))) rfl rfl rfl rfl,
 .mt ⟨[sl 91 (.own 7), sl 93 (LS StackEdge.ty ([(qsWay20 e_2.fTo e x63)] : (qsWay21)))], [.gone, .gone, .gone, .gone, .gone, .gone, .gone, rowI 79 StackEdge.ty e_2.fOver]⟩ [7] (some 8) (by kernel_rfl) (by rfl) (mt_append (T := StackEdge.ty) (l := e_2.fOver) (es := ([(qsWay20 e_2.fTo e x63)] : (qsWay21))) (p := 8) ht rfl (by rfl) (by rfl) (by rfl) (by rfl) (by decide) (by rfl) (by rfl) (srcLS (T := StackEdge.ty) (es := ([(qsWay20 e_2.fTo e x63)] : (qsWay21))) (fun _ h => by cases h) (by decide) (by rfl)) (by exact hp_3) (by exact hp_3.le (by decide))) rfl rfl rfl rfl,
 .ev ⟨[sl 82 (I x63), sl 88 (I (qsWay1 E e_2.fCost e_2.fTo e x63)), sl 94 (.own 8)], []⟩ ht,
 .mt ⟨[], []⟩ [] (some 9) (by kernel_rfl) (by rfl) (mt_alloc2 9 76 ht rfl (by rfl) (by rfl)) rfl rfl rfl rfl,
 .mu ⟨[sl 17 (.ptr 9 0), (95, .sv (.agg [I x63, I (qsWay1 E e_2.fCost e_2.fTo e x63), .own 8]))], [.gone, .gone, .gone, .gone, .gone, .gone, .gone, .gone, .gone, .box [I 0, I 0, .v (.slice none 0 0)] 76 false]⟩ 9 _ _ rfl rfl (by kernel_rfl) (by rfl) (mu_store2 ht rfl (by rfl) (by rfl) (by rfl) (by rfl) (fun h => by cases h) (by rfl) (by rfl)) rfl rfl rfl rfl rfl rfl rfl,
 trivial⟩
 refine En.sr ?_
 refine WL.r ht hn 2 ⟨[(qsWay4 Bk), sl 9 (I e), (qsWay10), (qsWay13), sl 13 (I x63), sl 17 (.ptr 9 0), (qsWay6 signs), (qsWay3 signs), sl 50 (I x50), (qsWay15), sl 56 (I (l2_2.length : Int)), sl 57 (I x57), (qsWay16 gs), sl 63 (I x63), sl 97 (.own 3), sl 98 (I x63)], [(qsWay2 gc gs), mapI StackEdge.enc StackKnown.ty E, rowI 76 StackWay.ty l2_2, mapI encI3 StackWay.ty m3_2, .box (StackWay.cl e_2) 76 false, .gone, .gone, .gone, rowI 79 StackEdge.ty (e_2.fOver ++ ([(qsWay20 e_2.fTo e x63)] : (qsWay21))), (qsWay24 E x63 e_2.fCost e_2.fTo e)]⟩ ?_
 refine WL.v hn (val_lookup (T := StackWay.ty) (D := m3_2) keyI3 (k := x63) (ok := true) (qsWay0) (zv := (.agg #[.int .i64 0, .int .i64 0, .slice none 0 0])) rfl Try.underlying131 (fun _ => by kernel_rfl) (fun _ => ⟨_, rfl, ⟨rfl, trivial⟩, trivial, ⟨rfl, trivial⟩, trivial, ls_nil, trivial, trivial⟩) (mapAs encI3 StackWay.ty m3_2) (by rfl) (by rfl) (by rfl) (fun _ => rfl)) ?_
 refine WL.rn ht hn 6 ⟨[(qsWay4 Bk), sl 9 (I e), (qsWay10), (qsWay13), sl 13 (I x63), sl 17 (.ptr 9 0), sl 18 (.ptr 10 0), sl 19 (B (mget x63 m3_2).isSome), (qsWay6 signs), (qsWay3 signs), sl 50 (I x50), (qsWay15), sl 56 (I (l2_2.length : Int)), sl 57 (I x57), (qsWay16 gs), sl 63 (I x63)], [(qsWay2 gc gs), mapI StackEdge.enc StackKnown.ty E, rowI 76 StackWay.ty l2_2, mapI encI3 StackWay.ty m3_2, .box (StackWay.cl e_2) 76 false, .gone, .gone, .gone, rowI 79 StackEdge.ty (e_2.fOver ++ ([(qsWay20 e_2.fTo e x63)] : (qsWay21))), (qsWay24 E x63 e_2.fCost e_2.fTo e), .box (StackWay.cl ((mget x63 m3_2).getD (qsWay0))) 76 false]⟩ ?_
 refine En.sr ?_
 refine WL.r ht hn 3 ⟨[(qsWay4 Bk), sl 9 (I e), (qsWay10), (qsWay13), sl 13 (I x63), sl 17 (.ptr 9 0), sl 18 (.ptr 10 0), (qsWay6 signs), (qsWay3 signs), sl 50 (I x50), (qsWay15), sl 56 (I (l2_2.length : Int)), sl 57 (I x57), (qsWay16 gs), sl 63 (I x63), sl 104 (B (!(mget x63 m3_2).isSome))], [(qsWay2 gc gs), mapI StackEdge.enc StackKnown.ty E, rowI 76 StackWay.ty l2_2, mapI encI3 StackWay.ty m3_2, .box (StackWay.cl e_2) 76 false, .gone, .gone, .gone, rowI 79 StackEdge.ty (e_2.fOver ++ ([(qsWay20 e_2.fTo e x63)] : (qsWay21))), (qsWay24 E x63 e_2.fCost e_2.fTo e), .box (StackWay.cl ((mget x63 m3_2).getD (qsWay0))) 76 false]⟩ ?_
 refine WL.thru ⟨[(qsWay4 Bk), sl 9 (I e), (qsWay10), (qsWay13), sl 13 (I x63), sl 17 (.ptr 9 0), (qsWay6 signs), (qsWay3 signs), sl 50 (I x50), (qsWay15), sl 56 (I (l2_2.length : Int)), sl 57 (I x57), (qsWay16 gs), sl 63 (I x63), sl 110 (B ((!(mget x63 m3_2).isSome) || (decide ((qsWay1 E e_2.fCost e_2.fTo e x63) < ((mget x63 m3_2).getD (qsWay0)).fCost))))], [(qsWay2 gc gs), mapI StackEdge.enc StackKnown.ty E, rowI 76 StackWay.ty l2_2, mapI encI3 StackWay.ty m3_2, .box (StackWay.cl e_2) 76 false, .gone, .gone, .gone, rowI 79 StackEdge.ty (e_2.fOver ++ ([(qsWay20 e_2.fTo e x63)] : (qsWay21))), (qsWay24 E x63 e_2.fCost e_2.fTo e), .gone]⟩ ?_ ?_
 refine splitB (!(mget x63 m3_2).isSome) (fun hb0 => ?_) (fun hb0 => ?_)
 refine WL.sB 104 hb0 ?_
 refine WL.r ht hn 6 ⟨[(qsWay4 Bk), sl 9 (I e), (qsWay10), (qsWay13), sl 13 (I x63), sl 17 (.ptr 9 0), (qsWay6 signs), (qsWay3 signs), sl 50 (I x50), (qsWay15), sl 56 (I (l2_2.length : Int)), sl 57 (I x57), (qsWay16 gs), sl 63 (I x63), sl 110 (B true)], [(qsWay2 gc gs), mapI StackEdge.enc StackKnown.ty E, rowI 76 StackWay.ty l2_2, mapI encI3 StackWay.ty m3_2, .box (StackWay.cl e_2) 76 false, .gone, .gone, .gone, rowI 79 StackEdge.ty (e_2.fOver ++ ([(qsWay20 e_2.fTo e x63)] : (qsWay21))), (qsWay24 E x63 e_2.fCost e_2.fTo e), .gone]⟩ ?_
 exact WL.nil (sub_ok (by simp only [hb0]; kernel_rfl))
 refine WL.sB 104 hb0 ?_
 refine WL.r ht hn 6 ⟨[(qsWay4 Bk), sl 9 (I e), (qsWay10), (qsWay13), sl 13 (I x63), sl 17 (.ptr 9 0), (qsWay6 signs), (qsWay3 signs), sl 50 (I x50), (qsWay15), sl 56 (I (l2_2.length : Int)), sl 57 (I x57), (qsWay16 gs), sl 63 (I x63), sl 110 (B (decide ((qsWay1 E e_2.fCost e_2.fTo e x63) < ((mget x63 m3_2).getD (qsWay0)).fCost)))], [(qsWay2 gc gs), mapI StackEdge.enc StackKnown.ty E, rowI 76 StackWay.ty l2_2, mapI encI3 StackWay.ty m3_2, .box (StackWay.cl e_2) 76 false, .gone, .gone, .gone, rowI 79 StackEdge.ty (e_2.fOver ++ ([(qsWay20 e_2.fTo e x63)] : (qsWay21))), (qsWay24 E x63 e_2.fCost e_2.fTo e), .gone]⟩ ?_
 exact WL.nil (sub_ok (by simp only [hb0]; kernel_rfl))
 refine En.cd (b := ((!(mget x63 m3_2).isSome) || (decide ((qsWay1 E e_2.fCost e_2.fTo e x63) < ((mget x63 m3_2).getD (qsWay0)).fCost)))) (fun hb => ?_) (fun hb => ?_)
 replace h := h.1 hb
 refine En.region ?_
 refine WL.r ht hn 3 ⟨[(qsWay4 Bk), sl 9 (I e), (qsWay10), (qsWay13), (qsWay6 signs), (qsWay3 signs), sl 50 (I x50), (qsWay15), sl 56 (I (l2_2.length : Int)), sl 57 (I x57), (qsWay16 gs), sl 63 (I x63), sl 111 (.own 3), sl 112 (I x63), (113, .sv (.agg [I x63, I (qsWay1 E e_2.fCost e_2.fTo e x63), .own 8]))], [(qsWay2 gc gs), mapI StackEdge.enc StackKnown.ty E, rowI 76 StackWay.ty l2_2, mapI encI3 StackWay.ty m3_2, .box (StackWay.cl e_2) 76 false, .gone, .gone, .gone, rowI 79 StackEdge.ty (e_2.fOver ++ ([(qsWay20 e_2.fTo e x63)] : (qsWay21))), .gone, .gone]⟩ ?_
 refine WL.seal (T := StackEdge.ty) (l := (e_2.fOver ++ ([(qsWay20 e_2.fTo e x63)] : (qsWay21)))) (e := 79) 8 rfl ?_
 refine WL.r ht hn 0 ⟨[(qsWay4 Bk), sl 9 (I e), (qsWay10), (qsWay13), (qsWay6 signs), (qsWay3 signs), sl 50 (I x50), (qsWay15), sl 56 (I (l2_2.length : Int)), sl 57 (I x57), (qsWay16 gs), sl 63 (I x63), sl 111 (.own 3), sl 112 (I x63), (113, .sv (.agg [I x63, I (qsWay1 E e_2.fCost e_2.fTo e x63), LS StackEdge.ty (e_2.fOver ++ ([(qsWay20 e_2.fTo e x63)] : (qsWay21)))]))], [(qsWay2 gc gs), mapI StackEdge.enc StackKnown.ty E, rowI 76 StackWay.ty l2_2, mapI encI3 StackWay.ty m3_2, .box (StackWay.cl e_2) 76 false, .gone, .gone, .gone, .gone, .gone, .gone]⟩ ?_
 refine WL.mapPut (T := StackWay.ty) keyI3 (k := x63) (y := (StackWay.mk x63 (qsWay1 E e_2.fCost e_2.fTo e x63) (e_2.fOver ++ ([(qsWay20 e_2.fTo e x63)] : (qsWay21))))) hn (by rfl) (.inl rfl) Try.underlying131 (by rfl) (by rfl) (by rfl) (by rfl) (by rfl) (by rfl) ?_
 refine WL.nil ?_
 exact En.at (I := fun zz => J_2 zz) (T := fun zz => ⟨[(qsWay4 Bk), sl 9 (I e), (qsWay10), (qsWay13), (qsWay6 signs), (qsWay3 signs), sl 50 (I x50), (qsWay15), sl 56 (I (l2_2.length : Int)), sl 57 (I x57), (qsWay16 gs), sl 63 (I x63)], [(qsWay2 gc gs), mapI StackEdge.enc StackKnown.ty E, rowI 76 StackWay.ty l2_2, mapI encI3 StackWay.ty zz, .box (StackWay.cl e_2) 76 false, .gone, .gone]⟩) (mput x63 (StackWay.mk x63 (qsWay1 E e_2.fCost e_2.fTo e x63) (e_2.fOver ++ ([(qsWay20 e_2.fTo e x63)] : (qsWay21)))) m3_2) h (by kernel_rfl)
 replace h := h.2 hb
 refine En.skip ?_
 exact En.at (I := fun zz => J_2 zz) (T := fun zz => ⟨[(qsWay4 Bk), sl 9 (I e), (qsWay10), (qsWay13), (qsWay6 signs), (qsWay3 signs), sl 50 (I x50), (qsWay15), sl 56 (I (l2_2.length : Int)), sl 57 (I x57), (qsWay16 gs), sl 63 (I x63)], [(qsWay2 gc gs), mapI StackEdge.enc StackKnown.ty E, rowI 76 StackWay.ty l2_2, mapI encI3 StackWay.ty zz, .box (StackWay.cl e_2) 76 false, .gone, .gone]⟩) m3_2 h (by kernel_rfl)
 intro m3_3 h
 replace h := hJ_2 _ h
 show En c ⟨[(qsWay4 Bk), sl 9 (I e), (qsWay10), (qsWay13), (qsWay6 signs), (qsWay3 signs), sl 50 (I x50), (qsWay15), sl 56 (I (l2_2.length : Int)), sl 57 (I x57), (qsWay16 gs), sl 63 (I x63)], [(qsWay2 gc gs), mapI StackEdge.enc StackKnown.ty E, rowI 76 StackWay.ty l2_2, mapI encI3 StackWay.ty m3_3, .box (StackWay.cl e_2) 76 false, .gone, .gone]⟩ _
 refine En.region ?_
 refine WL.rn ht hn 2 ⟨[(qsWay4 Bk), sl 9 (I e), (qsWay10), (qsWay13), (qsWay6 signs), (qsWay3 signs), sl 50 (I x50), (qsWay15), sl 56 (I (l2_2.length : Int)), sl 57 (I x57), (qsWay16 gs), sl 63 (I (wr (x63 + 1)))], [(qsWay2 gc gs), mapI StackEdge.enc StackKnown.ty E, rowI 76 StackWay.ty l2_2, mapI encI3 StackWay.ty m3_3, .box (StackWay.cl e_2) 76 false, .gone, .gone]⟩ ?_
 exact En.at (I := fun zz => Inv_3 zz.1 zz.2 ∧ mu_3 zz.1 zz.2 < mu_3 x63 m3_2) (T := fun zz => ⟨[(qsWay4 Bk), sl 9 (I e), (qsWay10), (qsWay13), (qsWay6 signs), (qsWay3 signs), sl 50 (I x50), (qsWay15), sl 56 (I (l2_2.length : Int)), sl 57 (I x57), (qsWay16 gs), sl 63 (I zz.1)], [(qsWay2 gc gs), mapI StackEdge.enc StackKnown.ty E, rowI 76 StackWay.ty l2_2, mapI encI3 StackWay.ty zz.2, .box (StackWay.cl e_2) 76 false]⟩) ((wr (x63 + 1)), m3_3) h (by kernel_rfl)
 replace h := h.2 hb
 refine En.exit rfl ?_
 refine En.region ?_
 refine WL.rn ht hn 2 ⟨[(qsWay4 Bk), sl 9 (I e), (qsWay10), (qsWay6 signs), (qsWay3 signs), sl 50 (I x50), (qsWay15), sl 56 (I (l2_2.length : Int)), sl 57 (I (wr (x57 + 1)))], [(qsWay2 gc gs), mapI StackEdge.enc StackKnown.ty E, rowI 76 StackWay.ty l2_2, mapI encI3 StackWay.ty m3_2, .gone]⟩ ?_
 exact En.at (I := fun zz => Inv_2 zz.1 zz.2 ∧ mu_2 zz.1 zz.2 < mu_2 x57 m3) (T := fun zz => ⟨[(qsWay4 Bk), sl 9 (I e), (qsWay10), (qsWay6 signs), (qsWay3 signs), sl 50 (I x50), (qsWay15), sl 56 (I (l2_2.length : Int)), sl 57 (I zz.1)], [(qsWay2 gc gs), mapI StackEdge.enc StackKnown.ty E, rowI 76 StackWay.ty l2_2, mapI encI3 StackWay.ty zz.2]⟩) ((wr (x57 + 1)), m3_2) h (by kernel_rfl)
 replace h := h.2 hb
 refine En.exit rfl ?_
 refine En.sr ?_
 refine WL.rn ht hn 1 ⟨[(qsWay4 Bk), sl 7 (.v (.slice none 0 0)), (qsWay10), (qsWay6 signs), (qsWay3 signs), sl 50 (I x50)], [(qsWay2 gc gs), mapI StackEdge.enc StackKnown.ty E, .gone, mapI encI3 StackWay.ty m3]⟩ ?_
 refine En.sr ?_
 refine WL.r ht hn 1 ⟨[(qsWay4 Bk), sl 7 (.v (.slice none 0 0)), (qsWay10), (qsWay6 signs), (qsWay3 signs), sl 50 (I x50), sl 116 (.ptr 0 0)], [(qsWay2 gc gs), mapI StackEdge.enc StackKnown.ty E, .gone, mapI encI3 StackWay.ty m3]⟩ ?_
 obtain ⟨hp, h⟩ := h
 refine WL.cE (sSts_ct gc gs E hp) en64 [0, 1] hn rfl ?_
 refine WL.rn ht hn 1 ⟨[(qsWay4 Bk), sl 7 (.v (.slice none 0 0)), (qsWay10), (qsWay6 signs), (qsWay3 signs), sl 50 (I x50), (qsWay8 gs), sl 118 (I 0)], [(qsWay2 gc gs), mapI StackEdge.enc StackKnown.ty E, .gone, mapI encI3 StackWay.ty m3]⟩ ?_
 refine En.block ?_
 refine En.rowNil 7 6 76 StackWay.ty (by rfl) (by rfl) ?_
 obtain ⟨Inv_4, mu_4, h0_2, hI_2⟩ := h
 refine En.loop (σ := Int × (qsWay5)) (fun zz => Inv_4 zz.1 zz.2) (fun zz => mu_4 zz.1 zz.2) (fun zz => ⟨[(qsWay4 Bk), sl 7 (.own 6), (qsWay10), (qsWay6 signs), (qsWay3 signs), sl 50 (I x50), (qsWay8 gs), sl 118 (I zz.1)], [(qsWay2 gc gs), mapI StackEdge.enc StackKnown.ty E, .gone, mapI encI3 StackWay.ty m3, .gone, .gone, rowI 76 StackWay.ty zz.2]⟩) (0, ([] : (qsWay5))) h0_2 (sub_ok (by kernel_rfl)) ?_
 rintro ⟨x118, l6⟩ h
 replace h := hI_2 _ _ h
 show En c ⟨[(qsWay4 Bk), sl 7 (.own 6), (qsWay10), (qsWay6 signs), (qsWay3 signs), sl 50 (I x50), (qsWay8 gs), sl 118 (I x118)], [(qsWay2 gc gs), mapI StackEdge.enc StackKnown.ty E, .gone, mapI encI3 StackWay.ty m3, .gone, .gone, rowI 76 StackWay.ty l6]⟩ _
 refine En.sr ?_
 refine WL.rn ht hn 1 ⟨[(qsWay4 Bk), sl 7 (.own 6), (qsWay10), (qsWay6 signs), (qsWay3 signs), sl 50 (I x50), (qsWay8 gs), sl 118 (I x118), sl 119 (B (decide (x118 < (stsS gs))))], [(qsWay2 gc gs), mapI StackEdge.enc StackKnown.ty E, .gone, mapI encI3 StackWay.ty m3, .gone, .gone, rowI 76 StackWay.ty l6]⟩ ?_
 refine En.seq ?_
 refine En.cd (b := (decide (x118 < (stsS gs)))) (fun hb => ?_) (fun hb => ?_)
 replace h := h.1 hb
 refine En.skip ?_
 obtain ⟨J_3, h, hJ_3⟩ := h
 refine En.seqJ (σ := (qsWay5)) (fun zz => J_3 zz) (fun zz => ⟨[(qsWay4 Bk), sl 7 (.own 6), (qsWay10), (qsWay6 signs), (qsWay3 signs), sl 50 (I x50), (qsWay8 gs), sl 118 (I x118)], [(qsWay2 gc gs), mapI StackEdge.enc StackKnown.ty E, .gone, mapI encI3 StackWay.ty m3, .gone, .gone, rowI 76 StackWay.ty zz, .gone]⟩) ?_ ?_
 refine En.block ?_
 refine En.sr ?_
 refine WL.rn ht hn 2 ⟨[(qsWay4 Bk), sl 7 (.own 6), (qsWay10), sl 20 (I x118), (qsWay6 signs), (qsWay3 signs), sl 50 (I x50), (qsWay8 gs), sl 118 (I x118)], [(qsWay2 gc gs), mapI StackEdge.enc StackKnown.ty E, .gone, mapI encI3 StackWay.ty m3, .gone, .gone, rowI 76 StackWay.ty l6]⟩ ?_
 refine En.sr ?_
 refine WL.r ht hn 2 ⟨[(qsWay4 Bk), sl 7 (.own 6), (qsWay10), sl 20 (I x118), (qsWay6 signs), (qsWay3 signs), sl 50 (I x50), (qsWay8 gs), sl 118 (I x118), sl 122 (.own 3), sl 123 (I x118)], [(qsWay2 gc gs), mapI StackEdge.enc StackKnown.ty E, .gone, mapI encI3 StackWay.ty m3, .gone, .gone, rowI 76 StackWay.ty l6]⟩ ?_
 refine WL.v hn (val_lookup (T := StackWay.ty) (D := m3) keyI3 (k := x118) (ok := true) (qsWay0) (zv := (.agg #[.int .i64 0, .int .i64 0, .slice none 0 0])) rfl Try.underlying131 (fun _ => by kernel_rfl) (fun _ => ⟨_, rfl, ⟨rfl, trivial⟩, trivial, ⟨rfl, trivial⟩, trivial, ls_nil, trivial, trivial⟩) (mapAs encI3 StackWay.ty m3) (by rfl) (by rfl) (by rfl) (fun _ => rfl)) ?_
 refine WL.rn ht hn 6 ⟨[(qsWay4 Bk), sl 7 (.own 6), (qsWay10), sl 20 (I x118), (qsWay12), sl 22 (B (mget x118 m3).isSome), (qsWay6 signs), (qsWay3 signs), sl 50 (I x50), (qsWay8 gs), sl 118 (I x118)], [(qsWay2 gc gs), mapI StackEdge.enc StackKnown.ty E, .gone, mapI encI3 StackWay.ty m3, .gone, .gone, rowI 76 StackWay.ty l6, .box (StackWay.cl ((mget x118 m3).getD (qsWay0))) 76 false]⟩ ?_
 refine En.sr ?_
 refine WL.rn ht hn 1 ⟨[(qsWay4 Bk), sl 7 (.own 6), (qsWay10), sl 20 (I x118), (qsWay12), (qsWay6 signs), (qsWay3 signs), sl 50 (I x50), (qsWay8 gs), sl 118 (I x118), sl 127 (B (mget x118 m3).isSome)], [(qsWay2 gc gs), mapI StackEdge.enc StackKnown.ty E, .gone, mapI encI3 StackWay.ty m3, .gone, .gone, rowI 76 StackWay.ty l6, .box (StackWay.cl ((mget x118 m3).getD (qsWay0))) 76 false]⟩ ?_
 refine En.cd (b := (mget x118 m3).isSome) (fun hb => ?_) (fun hb => ?_)
 replace h := h.1 hb
 refine En.sr ?_
 refine WL.r ht hn 2 ⟨[(qsWay4 Bk), (qsWay10), sl 20 (I x118), (qsWay12), (qsWay6 signs), (qsWay3 signs), sl 50 (I x50), (qsWay8 gs), sl 118 (I x118), sl 128 (.own 6), (129, .sv (.agg (StackWay.cl ((mget x118 m3).getD (qsWay0)))))], [(qsWay2 gc gs), mapI StackEdge.enc StackKnown.ty E, .gone, mapI encI3 StackWay.ty m3, .gone, .gone, rowI 76 StackWay.ty l6, .box (StackWay.cl ((mget x118 m3).getD (qsWay0))) 76 false]⟩ ?_
 refine WL.mt0 (K := []) (p := some (8, rowI 76 StackWay.ty ([((mget x118 m3).getD (qsWay0))] : (qsWay5)))) hn (by rfl) (mt_lit (T := StackWay.ty) ([((mget x118 m3).getD (qsWay0))] : (qsWay5)) (mt_bsl 8 (r := cellsOf StackWay.ty ([((mget x118 m3).getD (qsWay0))] : (qsWay5))) ht rfl (by rfl) (by rfl) (by rfl) (by kernel_rfl) (by rfl)) (fun _ h => by cases h) (fun _ => rfl) (fun _ => rfl) (by rfl) (Nat.le_of_ble_eq_true rfl)) (by rfl) (by rfl) (by rfl) ?_
 refine WL.seal (T := StackWay.ty) (l := ([((mget x118 m3).getD (qsWay0))] : (qsWay5))) (e := 76) 8 rfl ?_
 refine WL.r ht hn 0 ⟨[(qsWay4 Bk), (qsWay10), sl 20 (I x118), (qsWay12), (qsWay6 signs), (qsWay3 signs), sl 50 (I x50), (qsWay8 gs), sl 118 (I x118), sl 128 (.own 6), (129, .sv (.agg (StackWay.cl ((mget x118 m3).getD (qsWay0))))), sl 130 (LS StackWay.ty ([((mget x118 m3).getD (qsWay0))] : (qsWay5)))], [(qsWay2 gc gs), mapI StackEdge.enc StackKnown.ty E, .gone, mapI encI3 StackWay.ty m3, .gone, .gone, rowI 76 StackWay.ty l6, .box (StackWay.cl ((mget x118 m3).getD (qsWay0))) 76 false, .gone]⟩ ?_
 obtain ⟨hp, h⟩ := h
 refine WL.mt (S2 := ⟨[(qsWay4 Bk), (qsWay10), sl 20 (I x118), (qsWay12), (qsWay6 signs), (qsWay3 signs), sl 50 (I x50), (qsWay8 gs), sl 118 (I x118), (129, .sv (.agg (StackWay.cl ((mget x118 m3).getD (qsWay0))))), sl 130 (LS StackWay.ty ([((mget x118 m3).getD (qsWay0))] : (qsWay5)))], [(qsWay2 gc gs), mapI StackEdge.enc StackKnown.ty E, .gone, mapI encI3 StackWay.ty m3, .gone, .gone, rowI 76 StackWay.ty l6, .box (StackWay.cl ((mget x118 m3).getD (qsWay0))) 76 false, .gone]⟩) (K := [6]) (p := some (6, rowI 76 StackWay.ty (l6 ++ ([((mget x118 m3).getD (qsWay0))] : (qsWay5))))) hn (by rfl) (mt_append (T := StackWay.ty) (l := l6) (es := ([((mget x118 m3).getD (qsWay0))] : (qsWay5))) ht rfl (by rfl) (by rfl) (by rfl) (by rfl) (by decide) (by rfl) (by rfl) (srcLS (T := StackWay.ty) (es := ([((mget x118 m3).getD (qsWay0))] : (qsWay5))) (fun _ h => by cases h) (by decide) (by rfl)) (by exact hp) (by exact hp.le (by decide))) (by kernel_rfl) (by rfl) (by rfl) (by rfl) ?_
 refine WL.rn ht hn 1 ⟨[(qsWay4 Bk), sl 7 (.own 6), (qsWay10), sl 20 (I x118), (qsWay12), (qsWay6 signs), (qsWay3 signs), sl 50 (I x50), (qsWay8 gs), sl 118 (I x118)], [(qsWay2 gc gs), mapI StackEdge.enc StackKnown.ty E, .gone, mapI encI3 StackWay.ty m3, .gone, .gone, rowI 76 StackWay.ty (l6 ++ ([((mget x118 m3).getD (qsWay0))] : (qsWay5))), .box (StackWay.cl ((mget x118 m3).getD (qsWay0))) 76 false, .gone]⟩ ?_
 refine En.sr ?_
 refine WL.r ht hn 8 ⟨[(qsWay4 Bk), sl 7 (.own 6), (qsWay10), (qsWay12), (qsWay6 signs), (qsWay3 signs), sl 50 (I x50), (qsWay8 gs), sl 118 (I x118), sl 139 (B (x118 == gc))], [(qsWay2 gc gs), mapI StackEdge.enc StackKnown.ty E, .gone, mapI encI3 StackWay.ty m3, .gone, .gone, rowI 76 StackWay.ty (l6 ++ ([((mget x118 m3).getD (qsWay0))] : (qsWay5))), .box (StackWay.cl ((mget x118 m3).getD (qsWay0))) 76 false, .gone]⟩ ?_
 refine WL.thru ⟨[(qsWay4 Bk), sl 7 (.own 6), (qsWay10), (qsWay12), (qsWay6 signs), (qsWay3 signs), sl 50 (I x50), (qsWay8 gs), sl 118 (I x118), sl 147 (B ((x118 == gc) && ((gs.length : Int) == 0)))], [(qsWay2 gc gs), mapI StackEdge.enc StackKnown.ty E, .gone, mapI encI3 StackWay.ty m3, .gone, .gone, rowI 76 StackWay.ty (l6 ++ ([((mget x118 m3).getD (qsWay0))] : (qsWay5))), .box (StackWay.cl ((mget x118 m3).getD (qsWay0))) 76 false, .gone]⟩ ?_ ?_
 refine splitB (x118 == gc) (fun hb0 => ?_) (fun hb0 => ?_)
 refine WL.sB 139 hb0 ?_
 refine WL.r ht hn 8 ⟨[(qsWay4 Bk), sl 7 (.own 6), (qsWay10), (qsWay12), (qsWay6 signs), (qsWay3 signs), sl 50 (I x50), (qsWay8 gs), sl 118 (I x118), sl 147 (B ((gs.length : Int) == 0))], [(qsWay2 gc gs), mapI StackEdge.enc StackKnown.ty E, .gone, mapI encI3 StackWay.ty m3, .gone, .gone, rowI 76 StackWay.ty (l6 ++ ([((mget x118 m3).getD (qsWay0))] : (qsWay5))), .box (StackWay.cl ((mget x118 m3).getD (qsWay0))) 76 false, .gone]⟩ ?_
 exact WL.nil (sub_ok (by simp only [hb0]; kernel_rfl))
 refine WL.sB 139 hb0 ?_
 refine WL.r ht hn 8 ⟨[(qsWay4 Bk), sl 7 (.own 6), (qsWay10), (qsWay12), (qsWay6 signs), (qsWay3 signs), sl 50 (I x50), (qsWay8 gs), sl 118 (I x118), sl 147 (B false)], [(qsWay2 gc gs), mapI StackEdge.enc StackKnown.ty E, .gone, mapI encI3 StackWay.ty m3, .gone, .gone, rowI 76 StackWay.ty (l6 ++ ([((mget x118 m3).getD (qsWay0))] : (qsWay5))), .box (StackWay.cl ((mget x118 m3).getD (qsWay0))) 76 false, .gone]⟩ ?_
 exact WL.nil (sub_ok (by simp only [hb0]; kernel_rfl))
 refine En.cd (b := ((x118 == gc) && ((gs.length : Int) == 0))) (fun hb => ?_) (fun hb => ?_)
 replace h := h.1 hb
 obtain ⟨hp_r2, h⟩ := h
 obtain ⟨hp_r9, h⟩ := h
 refine En.regionD ⟨[(qsWay4 Bk), sl 7 (.own 6), (qsWay10), (qsWay6 signs), (qsWay3 signs), sl 50 (I x50), (qsWay8 gs), sl 118 (I x118)], [(qsWay2 gc gs), mapI StackEdge.enc StackKnown.ty E, .gone, mapI encI3 StackWay.ty m3, .gone, .gone, rowI 76 StackWay.ty ((l6 ++ ([((mget x118 m3).getD (qsWay0))] : (qsWay5))) ++ ([(StackWay.mk (lstS gs) ((mget x118 m3).getD (qsWay0)).fCost ((mget x118 m3).getD (qsWay0)).fOver)] : (qsWay5))), .gone, .gone, .gone]⟩ (by kernel_rfl) ?_ ?_
 intro N' hF
 refine RD.have 0 #[true, true, true, true, true, true, true, true, true, true, true] ⟨[(qsWay4 Bk), sl 7 (.own 6), (qsWay10), (qsWay6 signs), (qsWay3 signs), sl 50 (I x50), (qsWay8 gs), sl 118 (I x118)], [(qsWay2 gc gs), mapI StackEdge.enc StackKnown.ty E, .gone, mapI encI3 StackWay.ty m3, .gone, .gone, rowI 76 StackWay.ty ((l6 ++ ([((mget x118 m3).getD (qsWay0))] : (qsWay5))) ++ ([(StackWay.mk (lstS gs) ((mget x118 m3).getD (qsWay0)).fCost ((mget x118 m3).getD (qsWay0)).fOver)] : (qsWay5))), .gone, .gone, .gone]⟩ (RD.nil (by kernel_rfl) hF) (fun rd59 => ?_)
 refine RD.have 1 #[true, true, true, true, true, true, true, true, true, true, false] ⟨[(qsWay4 Bk), (qsWay10), (qsWay6 signs), (qsWay3 signs), sl 50 (I x50), (qsWay8 gs), sl 118 (I x118), sl 157 (.own 6)], [(qsWay2 gc gs), mapI StackEdge.enc StackKnown.ty E, .gone, mapI encI3 StackWay.ty m3, .gone, .gone, rowI 76 StackWay.ty ((l6 ++ ([((mget x118 m3).getD (qsWay0))] : (qsWay5))) ++ ([(StackWay.mk (lstS gs) ((mget x118 m3).getD (qsWay0)).fCost ((mget x118 m3).getD (qsWay0)).fOver)] : (qsWay5))), .gone, .gone, .gone]⟩ ?_ (fun rd58 => ?_)
 refine RD.succ [10] (by kernel_rfl) rfl ⟨⟨_, _, _, rfl, ?_, rfl, rd59⟩, trivial⟩
 exact WL.rI ht hn
 refine RD.have 2 #[true, true, true, true, true, true, true, true, true, false, false] ⟨[(qsWay4 Bk), sl 7 (.own 6), (qsWay10), (qsWay6 signs), (qsWay3 signs), sl 50 (I x50), (qsWay8 gs), sl 118 (I x118), (qsWay14), sl 156 (.own 9)], [(qsWay2 gc gs), mapI StackEdge.enc StackKnown.ty E, .gone, mapI encI3 StackWay.ty m3, .gone, .gone, rowI 76 StackWay.ty (l6 ++ ([((mget x118 m3).getD (qsWay0))] : (qsWay5))), .gone, .gone, rowI 76 StackWay.ty ([(StackWay.mk (lstS gs) ((mget x118 m3).getD (qsWay0)).fCost ((mget x118 m3).getD (qsWay0)).fOver)] : (qsWay5))]⟩ ?_ (fun rd57 => ?_)
 refine RD.succ [9] (by kernel_rfl) rfl ⟨⟨_, _, _, rfl, ?_, rfl, rd58⟩, trivial⟩
 refine WL.seal (T := StackWay.ty) (l := ([(StackWay.mk (lstS gs) ((mget x118 m3).getD (qsWay0)).fCost ((mget x118 m3).getD (qsWay0)).fOver)] : (qsWay5))) (e := 76) 9 rfl ?_
 refine WL.r ht hn 0 ⟨[(qsWay4 Bk), sl 7 (.own 6), (qsWay10), (qsWay6 signs), (qsWay3 signs), sl 50 (I x50), (qsWay8 gs), sl 118 (I x118), (qsWay14), sl 156 (LS StackWay.ty ([(StackWay.mk (lstS gs) ((mget x118 m3).getD (qsWay0)).fCost ((mget x118 m3).getD (qsWay0)).fOver)] : (qsWay5)))], [(qsWay2 gc gs), mapI StackEdge.enc StackKnown.ty E, .gone, mapI encI3 StackWay.ty m3, .gone, .gone, rowI 76 StackWay.ty (l6 ++ ([((mget x118 m3).getD (qsWay0))] : (qsWay5))), .gone, .gone, .gone]⟩ ?_
 refine WL.mt (S2 := ⟨[(qsWay4 Bk), (qsWay10), (qsWay6 signs), (qsWay3 signs), sl 50 (I x50), (qsWay8 gs), sl 118 (I x118), sl 156 (LS StackWay.ty ([(StackWay.mk (lstS gs) ((mget x118 m3).getD (qsWay0)).fCost ((mget x118 m3).getD (qsWay0)).fOver)] : (qsWay5)))], [(qsWay2 gc gs), mapI StackEdge.enc StackKnown.ty E, .gone, mapI encI3 StackWay.ty m3, .gone, .gone, rowI 76 StackWay.ty (l6 ++ ([((mget x118 m3).getD (qsWay0))] : (qsWay5))), .gone, .gone, .gone]⟩) (K := [6]) (p := some (6, rowI 76 StackWay.ty ((l6 ++ ([((mget x118 m3).getD (qsWay0))] : (qsWay5))) ++ ([(StackWay.mk (lstS gs) ((mget x118 m3).getD (qsWay0)).fCost ((mget x118 m3).getD (qsWay0)).fOver)] : (qsWay5))))) hn (by rfl) (mt_append (T := StackWay.ty) (l := (l6 ++ ([((mget x118 m3).getD (qsWay0))] : (qsWay5)))) (es := ([(StackWay.mk (lstS gs) ((mget x118 m3).getD (qsWay0)).fCost ((mget x118 m3).getD (qsWay0)).fOver)] : (qsWay5))) ht rfl (by rfl) (by rfl) (by rfl) (by rfl) (by decide) (by rfl) (by rfl) (srcLS (T := StackWay.ty) (es := ([(StackWay.mk (lstS gs) ((mget x118 m3).getD (qsWay0)).fCost ((mget x118 m3).getD (qsWay0)).fOver)] : (qsWay5))) (fun _ h => by cases h) (by decide) (by rfl)) (by exact hp_r9) (by exact hp_r9.le (by decide))) (by kernel_rfl) (by rfl) (by rfl) (by rfl) ?_
 refine WL.nil ?_
 exact sub_ok (by kernel_rfl)
 refine RD.have 3 #[false, true, true, true, true, true, true, true, true, false, false] ⟨[(qsWay4 Bk), sl 7 (.own 6), (qsWay10), (qsWay6 signs), (qsWay3 signs), sl 50 (I x50), (qsWay8 gs), sl 118 (I x118), sl 156 (.own 9)], [(qsWay2 gc gs), mapI StackEdge.enc StackKnown.ty E, .gone, mapI encI3 StackWay.ty m3, .gone, .gone, rowI 76 StackWay.ty (l6 ++ ([((mget x118 m3).getD (qsWay0))] : (qsWay5))), .gone, .gone, rowI 76 StackWay.ty ([(StackWay.mk (lstS gs) ((mget x118 m3).getD (qsWay0)).fCost ((mget x118 m3).getD (qsWay0)).fOver)] : (qsWay5))]⟩ ?_ (fun rd56 => ?_)
 refine RD.succ [0] (by kernel_rfl) rfl ⟨⟨_, _, _, rfl, ?_, rfl, rd57⟩, trivial⟩
 exact WL.rI ht hn
 refine RD.have 3 #[true, true, true, true, true, true, true, true, false, false, false] ⟨[(qsWay4 Bk), sl 7 (.own 6), (qsWay10), (qsWay6 signs), (qsWay3 signs), sl 50 (I x50), (qsWay8 gs), sl 118 (I x118), (qsWay14), (155, .sv (.agg [I (lstS gs), I ((mget x118 m3).getD (qsWay0)).fCost, LS StackEdge.ty ((mget x118 m3).getD (qsWay0)).fOver]))], [(qsWay2 gc gs), mapI StackEdge.enc StackKnown.ty E, .gone, mapI encI3 StackWay.ty m3, .gone, .gone, rowI 76 StackWay.ty (l6 ++ ([((mget x118 m3).getD (qsWay0))] : (qsWay5))), .gone, .gone]⟩ ?_ (fun rd55 => ?_)
 refine RD.succ [8] (by kernel_rfl) rfl ⟨⟨_, _, _, rfl, ?_, rfl, rd57⟩, trivial⟩
 refine WL.mt0 (K := []) (p := some (9, rowI 76 StackWay.ty ([(StackWay.mk (lstS gs) ((mget x118 m3).getD (qsWay0)).fCost ((mget x118 m3).getD (qsWay0)).fOver)] : (qsWay5)))) hn (by rfl) (mt_lit (T := StackWay.ty) ([(StackWay.mk (lstS gs) ((mget x118 m3).getD (qsWay0)).fCost ((mget x118 m3).getD (qsWay0)).fOver)] : (qsWay5)) (mt_bsl 9 (r := cellsOf StackWay.ty ([(StackWay.mk (lstS gs) ((mget x118 m3).getD (qsWay0)).fCost ((mget x118 m3).getD (qsWay0)).fOver)] : (qsWay5))) ht rfl (by rfl) (by rfl) (by rfl) (by kernel_rfl) (by rfl)) (fun _ h => by cases h) (fun _ => rfl) (fun _ => rfl) (by rfl) (Nat.le_of_ble_eq_true rfl)) (by rfl) (by rfl) (by rfl) ?_
 refine WL.nil ?_
 exact sub_ok (by kernel_rfl)
 refine RD.have 4 #[false, true, true, true, true, true, true, true, false, false, false] ⟨[(qsWay4 Bk), sl 7 (.own 6), (qsWay10), (qsWay6 signs), (qsWay3 signs), sl 50 (I x50), (qsWay8 gs), sl 118 (I x118), (155, .sv (.agg [I (lstS gs), I ((mget x118 m3).getD (qsWay0)).fCost, LS StackEdge.ty ((mget x118 m3).getD (qsWay0)).fOver]))], [(qsWay2 gc gs), mapI StackEdge.enc StackKnown.ty E, .gone, mapI encI3 StackWay.ty m3, .gone, .gone, rowI 76 StackWay.ty (l6 ++ ([((mget x118 m3).getD (qsWay0))] : (qsWay5))), .gone, .gone]⟩ ?_ (fun rd54 => ?_)
 refine RD.succ [0, 8] (by kernel_rfl) rfl ⟨⟨_, _, _, rfl, ?_, rfl, rd55⟩, ⟨_, _, _, rfl, ?_, rfl, rd56⟩, trivial⟩
 exact WL.rI ht hn
 refine WL.mt0 (K := []) (p := some (9, rowI 76 StackWay.ty ([(StackWay.mk (lstS gs) ((mget x118 m3).getD (qsWay0)).fCost ((mget x118 m3).getD (qsWay0)).fOver)] : (qsWay5)))) hn (by rfl) (mt_lit (T := StackWay.ty) ([(StackWay.mk (lstS gs) ((mget x118 m3).getD (qsWay0)).fCost ((mget x118 m3).getD (qsWay0)).fOver)] : (qsWay5)) (mt_bsl 9 (r := cellsOf StackWay.ty ([(StackWay.mk (lstS gs) ((mget x118 m3).getD (qsWay0)).fCost ((mget x118 m3).getD (qsWay0)).fOver)] : (qsWay5))) ht rfl (by rfl) (by rfl) (by rfl) (by kernel_rfl) (by rfl)) (fun _ h => by cases h) (fun _ => rfl) (fun _ => rfl) (by rfl) (Nat.le_of_ble_eq_true rfl)) (by rfl) (by rfl) (by rfl) ?_
 refine WL.nil ?_
 exact sub_ok (by kernel_rfl)
 refine RD.have 4 #[true, true, true, true, true, true, true, false, false, false, false] ⟨[(qsWay4 Bk), sl 7 (.own 6), (qsWay10), (qsWay6 signs), (qsWay3 signs), sl 50 (I x50), (qsWay8 gs), sl 118 (I x118), (qsWay14), (qsWay26 gs), (qsWay11 x118 m3), (qsWay9 x118 m3)], [(qsWay2 gc gs), mapI StackEdge.enc StackKnown.ty E, .gone, mapI encI3 StackWay.ty m3, .gone, .gone, rowI 76 StackWay.ty (l6 ++ ([((mget x118 m3).getD (qsWay0))] : (qsWay5))), .gone, .gone]⟩ ?_ (fun rd53 => ?_)
 refine RD.succ [7] (by kernel_rfl) rfl ⟨⟨_, _, _, rfl, ?_, rfl, rd55⟩, trivial⟩
 exact WL.rI ht hn
 refine RD.have 5 #[false, true, true, true, true, true, true, false, false, false, false] ⟨[(qsWay4 Bk), sl 7 (.own 6), (qsWay10), (qsWay6 signs), (qsWay3 signs), sl 50 (I x50), (qsWay8 gs), sl 118 (I x118), (qsWay26 gs), (qsWay11 x118 m3), (qsWay9 x118 m3)], [(qsWay2 gc gs), mapI StackEdge.enc StackKnown.ty E, .gone, mapI encI3 StackWay.ty m3, .gone, .gone, rowI 76 StackWay.ty (l6 ++ ([((mget x118 m3).getD (qsWay0))] : (qsWay5))), .gone, .gone]⟩ ?_ (fun rd52 => ?_)
 refine RD.succ [0, 7] (by kernel_rfl) rfl ⟨⟨_, _, _, rfl, ?_, rfl, rd53⟩, ⟨_, _, _, rfl, ?_, rfl, rd54⟩, trivial⟩
 exact WL.rI ht hn
 exact WL.rI ht hn
 refine RD.have 5 #[true, true, false, true, true, true, true, false, false, false, false] ⟨[(qsWay4 Bk), sl 7 (.own 6), (qsWay10), (qsWay6 signs), (qsWay3 signs), sl 50 (I x50), (qsWay8 gs), sl 118 (I x118), (qsWay14), (qsWay17), (qsWay11 x118 m3), (qsWay9 x118 m3)], [(qsWay2 gc gs), mapI StackEdge.enc StackKnown.ty E, .gone, mapI encI3 StackWay.ty m3, .gone, .gone, rowI 76 StackWay.ty (l6 ++ ([((mget x118 m3).getD (qsWay0))] : (qsWay5))), .gone, .gone]⟩ ?_ (fun rd51 => ?_)
 refine RD.succ [2] (by kernel_rfl) rfl ⟨⟨_, _, _, rfl, ?_, rfl, rd53⟩, trivial⟩
 refine WL.cE (sLst_ct gc gs E hp_r2) en27 [0, 1] hn rfl ?_
 refine WL.nil ?_
 exact sub_ok (by kernel_rfl)
 refine RD.have 5 #[true, true, true, true, false, true, true, false, false, false, false] ⟨[(qsWay4 Bk), sl 7 (.own 6), (qsWay10), (qsWay6 signs), (qsWay3 signs), sl 50 (I x50), (qsWay8 gs), sl 118 (I x118), (qsWay14), (qsWay26 gs), (qsWay18), (qsWay9 x118 m3)], [(qsWay2 gc gs), mapI StackEdge.enc StackKnown.ty E, .gone, mapI encI3 StackWay.ty m3, .gone, .gone, rowI 76 StackWay.ty (l6 ++ ([((mget x118 m3).getD (qsWay0))] : (qsWay5))), .box (StackWay.cl ((mget x118 m3).getD (qsWay0))) 76 false, .gone]⟩ ?_ (fun rd50 => ?_)
 refine RD.succ [4] (by kernel_rfl) rfl ⟨⟨_, _, _, rfl, ?_, rfl, rd53⟩, trivial⟩
 exact WL.rI ht hn
 refine RD.have 5 #[true, true, true, true, true, true, false, false, false, false, false] ⟨[(qsWay4 Bk), sl 7 (.own 6), (qsWay10), (qsWay6 signs), (qsWay3 signs), sl 50 (I x50), (qsWay8 gs), sl 118 (I x118), (qsWay14), (qsWay26 gs), (qsWay11 x118 m3), (qsWay19)], [(qsWay2 gc gs), mapI StackEdge.enc StackKnown.ty E, .gone, mapI encI3 StackWay.ty m3, .gone, .gone, rowI 76 StackWay.ty (l6 ++ ([((mget x118 m3).getD (qsWay0))] : (qsWay5))), .box (StackWay.cl ((mget x118 m3).getD (qsWay0))) 76 false, .gone]⟩ ?_ (fun rd49 => ?_)
 refine RD.succ [6] (by kernel_rfl) rfl ⟨⟨_, _, _, rfl, ?_, rfl, rd53⟩, trivial⟩
 exact WL.rI ht hn
 refine RD.have 6 #[false, true, false, true, true, true, true, false, false, false, false] ⟨[(qsWay4 Bk), sl 7 (.own 6), (qsWay10), (qsWay6 signs), (qsWay3 signs), sl 50 (I x50), (qsWay8 gs), sl 118 (I x118), (qsWay17), (qsWay11 x118 m3), (qsWay9 x118 m3)], [(qsWay2 gc gs), mapI StackEdge.enc StackKnown.ty E, .gone, mapI encI3 StackWay.ty m3, .gone, .gone, rowI 76 StackWay.ty (l6 ++ ([((mget x118 m3).getD (qsWay0))] : (qsWay5))), .gone, .gone]⟩ ?_ (fun rd48 => ?_)
 refine RD.succ [0, 2] (by kernel_rfl) rfl ⟨⟨_, _, _, rfl, ?_, rfl, rd51⟩, ⟨_, _, _, rfl, ?_, rfl, rd52⟩, trivial⟩
 exact WL.rI ht hn
 refine WL.cE (sLst_ct gc gs E hp_r2) en27 [0, 1] hn rfl ?_
 refine WL.nil ?_
 exact sub_ok (by kernel_rfl)
 refine RD.have 6 #[false, true, true, true, false, true, true, false, false, false, false] ⟨[(qsWay4 Bk), sl 7 (.own 6), (qsWay10), (qsWay6 signs), (qsWay3 signs), sl 50 (I x50), (qsWay8 gs), sl 118 (I x118), (qsWay26 gs), (qsWay18), (qsWay9 x118 m3)], [(qsWay2 gc gs), mapI StackEdge.enc StackKnown.ty E, .gone, mapI encI3 StackWay.ty m3, .gone, .gone, rowI 76 StackWay.ty (l6 ++ ([((mget x118 m3).getD (qsWay0))] : (qsWay5))), .box (StackWay.cl ((mget x118 m3).getD (qsWay0))) 76 false, .gone]⟩ ?_ (fun rd47 => ?_)
 refine RD.succ [0, 4] (by kernel_rfl) rfl ⟨⟨_, _, _, rfl, ?_, rfl, rd50⟩, ⟨_, _, _, rfl, ?_, rfl, rd52⟩, trivial⟩
 exact WL.rI ht hn
 exact WL.rI ht hn
 refine RD.have 6 #[false, true, true, true, true, true, false, false, false, false, false] ⟨[(qsWay4 Bk), sl 7 (.own 6), (qsWay10), (qsWay6 signs), (qsWay3 signs), sl 50 (I x50), (qsWay8 gs), sl 118 (I x118), (qsWay26 gs), (qsWay11 x118 m3), (qsWay19)], [(qsWay2 gc gs), mapI StackEdge.enc StackKnown.ty E, .gone, mapI encI3 StackWay.ty m3, .gone, .gone, rowI 76 StackWay.ty (l6 ++ ([((mget x118 m3).getD (qsWay0))] : (qsWay5))), .box (StackWay.cl ((mget x118 m3).getD (qsWay0))) 76 false, .gone]⟩ ?_ (fun rd46 => ?_)
 refine RD.succ [0, 6] (by kernel_rfl) rfl ⟨⟨_, _, _, rfl, ?_, rfl, rd49⟩, ⟨_, _, _, rfl, ?_, rfl, rd52⟩, trivial⟩
 exact WL.rI ht hn
 exact WL.rI ht hn
 refine RD.have 6 #[true, false, false, true, true, true, true, false, false, false, false] ⟨[(qsWay4 Bk), sl 7 (.own 6), (qsWay10), (qsWay6 signs), (qsWay3 signs), sl 50 (I x50), (qsWay8 gs), sl 118 (I x118), (qsWay14), (qsWay11 x118 m3), (qsWay9 x118 m3)], [(qsWay2 gc gs), mapI StackEdge.enc StackKnown.ty E, .gone, mapI encI3 StackWay.ty m3, .gone, .gone, rowI 76 StackWay.ty (l6 ++ ([((mget x118 m3).getD (qsWay0))] : (qsWay5))), .gone, .gone]⟩ ?_ (fun rd45 => ?_)
 refine RD.succ [1] (by kernel_rfl) rfl ⟨⟨_, _, _, rfl, ?_, rfl, rd51⟩, trivial⟩
 exact WL.rI ht hn
 refine RD.have 6 #[true, true, false, true, false, true, true, false, false, false, false] ⟨[(qsWay4 Bk), sl 7 (.own 6), (qsWay10), (qsWay6 signs), (qsWay3 signs), sl 50 (I x50), (qsWay8 gs), sl 118 (I x118), (qsWay14), (qsWay17), (qsWay18), (qsWay9 x118 m3)], [(qsWay2 gc gs), mapI StackEdge.enc StackKnown.ty E, .gone, mapI encI3 StackWay.ty m3, .gone, .gone, rowI 76 StackWay.ty (l6 ++ ([((mget x118 m3).getD (qsWay0))] : (qsWay5))), .box (StackWay.cl ((mget x118 m3).getD (qsWay0))) 76 false, .gone]⟩ ?_ (fun rd44 => ?_)
 refine RD.succ [2, 4] (by kernel_rfl) rfl ⟨⟨_, _, _, rfl, ?_, rfl, rd50⟩, ⟨_, _, _, rfl, ?_, rfl, rd51⟩, trivial⟩
 refine WL.cE (sLst_ct gc gs E hp_r2) en27 [0, 1] hn rfl ?_
 refine WL.nil ?_
 exact sub_ok (by kernel_rfl)
 exact WL.rI ht hn
 refine RD.have 6 #[true, true, false, true, true, true, false, false, false, false, false] ⟨[(qsWay4 Bk), sl 7 (.own 6), (qsWay10), (qsWay6 signs), (qsWay3 signs), sl 50 (I x50), (qsWay8 gs), sl 118 (I x118), (qsWay14), (qsWay17), (qsWay11 x118 m3), (qsWay19)], [(qsWay2 gc gs), mapI StackEdge.enc StackKnown.ty E, .gone, mapI encI3 StackWay.ty m3, .gone, .gone, rowI 76 StackWay.ty (l6 ++ ([((mget x118 m3).getD (qsWay0))] : (qsWay5))), .box (StackWay.cl ((mget x118 m3).getD (qsWay0))) 76 false, .gone]⟩ ?_ (fun rd43 => ?_)
 refine RD.succ [2, 6] (by kernel_rfl) rfl ⟨⟨_, _, _, rfl, ?_, rfl, rd49⟩, ⟨_, _, _, rfl, ?_, rfl, rd51⟩, trivial⟩
 refine WL.cE (sLst_ct gc gs E hp_r2) en27 [0, 1] hn rfl ?_
 refine WL.nil ?_
 exact sub_ok (by kernel_rfl)
 exact WL.rI ht hn
 refine RD.have 6 #[true, true, true, false, false, true, true, false, false, false, false] ⟨[(qsWay4 Bk), sl 7 (.own 6), (qsWay10), (qsWay12), (qsWay6 signs), (qsWay3 signs), sl 50 (I x50), (qsWay8 gs), sl 118 (I x118), (qsWay14), (qsWay26 gs), (qsWay9 x118 m3)], [(qsWay2 gc gs), mapI StackEdge.enc StackKnown.ty E, .gone, mapI encI3 StackWay.ty m3, .gone, .gone, rowI 76 StackWay.ty (l6 ++ ([((mget x118 m3).getD (qsWay0))] : (qsWay5))), .box (StackWay.cl ((mget x118 m3).getD (qsWay0))) 76 false, .gone]⟩ ?_ (fun rd42 => ?_)
 refine RD.succ [3] (by kernel_rfl) rfl ⟨⟨_, _, _, rfl, ?_, rfl, rd50⟩, trivial⟩
 exact WL.rI ht hn
 refine RD.have 6 #[true, true, true, true, false, true, false, false, false, false, false] ⟨[(qsWay4 Bk), sl 7 (.own 6), (qsWay10), (qsWay6 signs), (qsWay3 signs), sl 50 (I x50), (qsWay8 gs), sl 118 (I x118), (qsWay14), (qsWay26 gs), (qsWay18), (qsWay19)], [(qsWay2 gc gs), mapI StackEdge.enc StackKnown.ty E, .gone, mapI encI3 StackWay.ty m3, .gone, .gone, rowI 76 StackWay.ty (l6 ++ ([((mget x118 m3).getD (qsWay0))] : (qsWay5))), .box (StackWay.cl ((mget x118 m3).getD (qsWay0))) 76 false, .gone]⟩ ?_ (fun rd41 => ?_)
 refine RD.succ [4, 6] (by kernel_rfl) rfl ⟨⟨_, _, _, rfl, ?_, rfl, rd49⟩, ⟨_, _, _, rfl, ?_, rfl, rd50⟩, trivial⟩
 exact WL.rI ht hn
 exact WL.rI ht hn
 refine RD.have 6 #[true, true, true, true, true, false, false, false, false, false, false] ⟨[(qsWay4 Bk), sl 7 (.own 6), (qsWay10), (qsWay12), (qsWay6 signs), (qsWay3 signs), sl 50 (I x50), (qsWay8 gs), sl 118 (I x118), (qsWay14), (qsWay26 gs), (qsWay11 x118 m3)], [(qsWay2 gc gs), mapI StackEdge.enc StackKnown.ty E, .gone, mapI encI3 StackWay.ty m3, .gone, .gone, rowI 76 StackWay.ty (l6 ++ ([((mget x118 m3).getD (qsWay0))] : (qsWay5))), .box (StackWay.cl ((mget x118 m3).getD (qsWay0))) 76 false, .gone]⟩ ?_ (fun rd40 => ?_)
 refine RD.succ [5] (by kernel_rfl) rfl ⟨⟨_, _, _, rfl, ?_, rfl, rd49⟩, trivial⟩
 exact WL.rI ht hn
 refine RD.have 7 #[false, false, false, true, true, true, true, false, false, false, false] ⟨[(qsWay4 Bk), sl 7 (.own 6), (qsWay10), (qsWay6 signs), (qsWay3 signs), sl 50 (I x50), (qsWay8 gs), sl 118 (I x118), (qsWay11 x118 m3), (qsWay9 x118 m3)], [(qsWay2 gc gs), mapI StackEdge.enc StackKnown.ty E, .gone, mapI encI3 StackWay.ty m3, .gone, .gone, rowI 76 StackWay.ty (l6 ++ ([((mget x118 m3).getD (qsWay0))] : (qsWay5))), .gone, .gone]⟩ ?_ (fun rd39 => ?_)
 refine RD.succ [0, 1] (by kernel_rfl) rfl ⟨⟨_, _, _, rfl, ?_, rfl, rd45⟩, ⟨_, _, _, rfl, ?_, rfl, rd48⟩, trivial⟩
 exact WL.rI ht hn
 exact WL.rI ht hn
 refine RD.have 7 #[false, true, false, true, false, true, true, false, false, false, false] ⟨[(qsWay4 Bk), sl 7 (.own 6), (qsWay10), (qsWay6 signs), (qsWay3 signs), sl 50 (I x50), (qsWay8 gs), sl 118 (I x118), (qsWay17), (qsWay18), (qsWay9 x118 m3)], [(qsWay2 gc gs), mapI StackEdge.enc StackKnown.ty E, .gone, mapI encI3 StackWay.ty m3, .gone, .gone, rowI 76 StackWay.ty (l6 ++ ([((mget x118 m3).getD (qsWay0))] : (qsWay5))), .box (StackWay.cl ((mget x118 m3).getD (qsWay0))) 76 false, .gone]⟩ ?_ (fun rd38 => ?_)
 refine RD.succ [0, 2, 4] (by kernel_rfl) rfl ⟨⟨_, _, _, rfl, ?_, rfl, rd44⟩, ⟨_, _, _, rfl, ?_, rfl, rd47⟩, ⟨_, _, _, rfl, ?_, rfl, rd48⟩, trivial⟩
 exact WL.rI ht hn
 refine WL.cE (sLst_ct gc gs E hp_r2) en27 [0, 1] hn rfl ?_
 refine WL.nil ?_
 exact sub_ok (by kernel_rfl)
 exact WL.rI ht hn
 refine RD.have 7 #[false, true, false, true, true, true, false, false, false, false, false] ⟨[(qsWay4 Bk), sl 7 (.own 6), (qsWay10), (qsWay6 signs), (qsWay3 signs), sl 50 (I x50), (qsWay8 gs), sl 118 (I x118), (qsWay17), (qsWay11 x118 m3), (qsWay19)], [(qsWay2 gc gs), mapI StackEdge.enc StackKnown.ty E, .gone, mapI encI3 StackWay.ty m3, .gone, .gone, rowI 76 StackWay.ty (l6 ++ ([((mget x118 m3).getD (qsWay0))] : (qsWay5))), .box (StackWay.cl ((mget x118 m3).getD (qsWay0))) 76 false, .gone]⟩ ?_ (fun rd37 => ?_)
 refine RD.succ [0, 2, 6] (by kernel_rfl) rfl ⟨⟨_, _, _, rfl, ?_, rfl, rd43⟩, ⟨_, _, _, rfl, ?_, rfl, rd46⟩, ⟨_, _, _, rfl, ?_, rfl, rd48⟩, trivial⟩
 exact WL.rI ht hn
 refine WL.cE (sLst_ct gc gs E hp_r2) en27 [0, 1] hn rfl ?_
 refine WL.nil ?_
 exact sub_ok (by kernel_rfl)
 exact WL.rI ht hn
 refine RD.have 7 #[false, true, true, false, false, true, true, false, false, false, false] ⟨[(qsWay4 Bk), sl 7 (.own 6), (qsWay10), (qsWay12), (qsWay6 signs), (qsWay3 signs), sl 50 (I x50), (qsWay8 gs), sl 118 (I x118), (qsWay26 gs), (qsWay9 x118 m3)], [(qsWay2 gc gs), mapI StackEdge.enc StackKnown.ty E, .gone, mapI encI3 StackWay.ty m3, .gone, .gone, rowI 76 StackWay.ty (l6 ++ ([((mget x118 m3).getD (qsWay0))] : (qsWay5))), .box (StackWay.cl ((mget x118 m3).getD (qsWay0))) 76 false, .gone]⟩ ?_ (fun rd36 => ?_)
 refine RD.succ [0, 3] (by kernel_rfl) rfl ⟨⟨_, _, _, rfl, ?_, rfl, rd42⟩, ⟨_, _, _, rfl, ?_, rfl, rd47⟩, trivial⟩
 exact WL.rI ht hn
 exact WL.rI ht hn
 refine RD.have 7 #[false, true, true, true, false, true, false, false, false, false, false] ⟨[(qsWay4 Bk), sl 7 (.own 6), (qsWay10), (qsWay6 signs), (qsWay3 signs), sl 50 (I x50), (qsWay8 gs), sl 118 (I x118), (qsWay26 gs), (qsWay18), (qsWay19)], [(qsWay2 gc gs), mapI StackEdge.enc StackKnown.ty E, .gone, mapI encI3 StackWay.ty m3, .gone, .gone, rowI 76 StackWay.ty (l6 ++ ([((mget x118 m3).getD (qsWay0))] : (qsWay5))), .box (StackWay.cl ((mget x118 m3).getD (qsWay0))) 76 false, .gone]⟩ ?_ (fun rd35 => ?_)
 refine RD.succ [0, 4, 6] (by kernel_rfl) rfl ⟨⟨_, _, _, rfl, ?_, rfl, rd41⟩, ⟨_, _, _, rfl, ?_, rfl, rd46⟩, ⟨_, _, _, rfl, ?_, rfl, rd47⟩, trivial⟩
 exact WL.rI ht hn
 exact WL.rI ht hn
 exact WL.rI ht hn
 refine RD.have 7 #[false, true, true, true, true, false, false, false, false, false, false] ⟨[(qsWay4 Bk), sl 7 (.own 6), (qsWay10), (qsWay12), (qsWay6 signs), (qsWay3 signs), sl 50 (I x50), (qsWay8 gs), sl 118 (I x118), (qsWay26 gs), (qsWay11 x118 m3)], [(qsWay2 gc gs), mapI StackEdge.enc StackKnown.ty E, .gone, mapI encI3 StackWay.ty m3, .gone, .gone, rowI 76 StackWay.ty (l6 ++ ([((mget x118 m3).getD (qsWay0))] : (qsWay5))), .box (StackWay.cl ((mget x118 m3).getD (qsWay0))) 76 false, .gone]⟩ ?_ (fun rd34 => ?_)
 refine RD.succ [0, 5] (by kernel_rfl) rfl ⟨⟨_, _, _, rfl, ?_, rfl, rd40⟩, ⟨_, _, _, rfl, ?_, rfl, rd46⟩, trivial⟩
 exact WL.rI ht hn
 exact WL.rI ht hn
 refine RD.have 7 #[true, false, false, true, false, true, true, false, false, false, false] ⟨[(qsWay4 Bk), sl 7 (.own 6), (qsWay10), (qsWay6 signs), (qsWay3 signs), sl 50 (I x50), (qsWay8 gs), sl 118 (I x118), (qsWay14), (qsWay18), (qsWay9 x118 m3)], [(qsWay2 gc gs), mapI StackEdge.enc StackKnown.ty E, .gone, mapI encI3 StackWay.ty m3, .gone, .gone, rowI 76 StackWay.ty (l6 ++ ([((mget x118 m3).getD (qsWay0))] : (qsWay5))), .box (StackWay.cl ((mget x118 m3).getD (qsWay0))) 76 false, .gone]⟩ ?_ (fun rd33 => ?_)
 refine RD.succ [1, 4] (by kernel_rfl) rfl ⟨⟨_, _, _, rfl, ?_, rfl, rd44⟩, ⟨_, _, _, rfl, ?_, rfl, rd45⟩, trivial⟩
 exact WL.rI ht hn
 exact WL.rI ht hn
 refine RD.have 7 #[true, false, false, true, true, true, false, false, false, false, false] ⟨[(qsWay4 Bk), sl 7 (.own 6), (qsWay10), (qsWay6 signs), (qsWay3 signs), sl 50 (I x50), (qsWay8 gs), sl 118 (I x118), (qsWay14), (qsWay11 x118 m3), (qsWay19)], [(qsWay2 gc gs), mapI StackEdge.enc StackKnown.ty E, .gone, mapI encI3 StackWay.ty m3, .gone, .gone, rowI 76 StackWay.ty (l6 ++ ([((mget x118 m3).getD (qsWay0))] : (qsWay5))), .box (StackWay.cl ((mget x118 m3).getD (qsWay0))) 76 false, .gone]⟩ ?_ (fun rd32 => ?_)
 refine RD.succ [1, 6] (by kernel_rfl) rfl ⟨⟨_, _, _, rfl, ?_, rfl, rd43⟩, ⟨_, _, _, rfl, ?_, rfl, rd45⟩, trivial⟩
 exact WL.rI ht hn
 exact WL.rI ht hn
 refine RD.have 7 #[true, true, false, false, false, true, true, false, false, false, false] ⟨[(qsWay4 Bk), sl 7 (.own 6), (qsWay10), (qsWay12), (qsWay6 signs), (qsWay3 signs), sl 50 (I x50), (qsWay8 gs), sl 118 (I x118), (qsWay14), (qsWay17), (qsWay9 x118 m3)], [(qsWay2 gc gs), mapI StackEdge.enc StackKnown.ty E, .gone, mapI encI3 StackWay.ty m3, .gone, .gone, rowI 76 StackWay.ty (l6 ++ ([((mget x118 m3).getD (qsWay0))] : (qsWay5))), .box (StackWay.cl ((mget x118 m3).getD (qsWay0))) 76 false, .gone]⟩ ?_ (fun rd31 => ?_)
 refine RD.succ [2, 3] (by kernel_rfl) rfl ⟨⟨_, _, _, rfl, ?_, rfl, rd42⟩, ⟨_, _, _, rfl, ?_, rfl, rd44⟩, trivial⟩
 refine WL.cE (sLst_ct gc gs E hp_r2) en27 [0, 1] hn rfl ?_
 refine WL.nil ?_
 exact sub_ok (by kernel_rfl)
 exact WL.rI ht hn
 refine RD.have 7 #[true, true, false, true, false, true, false, false, false, false, false] ⟨[(qsWay4 Bk), sl 7 (.own 6), (qsWay10), (qsWay6 signs), (qsWay3 signs), sl 50 (I x50), (qsWay8 gs), sl 118 (I x118), (qsWay14), (qsWay17), (qsWay18), (qsWay19)], [(qsWay2 gc gs), mapI StackEdge.enc StackKnown.ty E, .gone, mapI encI3 StackWay.ty m3, .gone, .gone, rowI 76 StackWay.ty (l6 ++ ([((mget x118 m3).getD (qsWay0))] : (qsWay5))), .box (StackWay.cl ((mget x118 m3).getD (qsWay0))) 76 false, .gone]⟩ ?_ (fun rd30 => ?_)
 refine RD.succ [2, 4, 6] (by kernel_rfl) rfl ⟨⟨_, _, _, rfl, ?_, rfl, rd41⟩, ⟨_, _, _, rfl, ?_, rfl, rd43⟩, ⟨_, _, _, rfl, ?_, rfl, rd44⟩, trivial⟩
 refine WL.cE (sLst_ct gc gs E hp_r2) en27 [0, 1] hn rfl ?_
 refine WL.nil ?_
 exact sub_ok (by kernel_rfl)
 exact WL.rI ht hn
 exact WL.rI ht hn
 refine RD.have 7 #[true, true, false, true, true, false, false, false, false, false, false] ⟨[(qsWay4 Bk), sl 7 (.own 6), (qsWay10), (qsWay12), (qsWay6 signs), (qsWay3 signs), sl 50 (I x50), (qsWay8 gs), sl 118 (I x118), (qsWay14), (qsWay17), (qsWay11 x118 m3)], [(qsWay2 gc gs), mapI StackEdge.enc StackKnown.ty E, .gone, mapI encI3 StackWay.ty m3, .gone, .gone, rowI 76 StackWay.ty (l6 ++ ([((mget x118 m3).getD (qsWay0))] : (qsWay5))), .box (StackWay.cl ((mget x118 m3).getD (qsWay0))) 76 false, .gone]⟩ ?_ (fun rd29 => ?_)
 refine RD.succ [2, 5] (by kernel_rfl) rfl ⟨⟨_, _, _, rfl, ?_, rfl, rd40⟩, ⟨_, _, _, rfl, ?_, rfl, rd43⟩, trivial⟩
 refine WL.cE (sLst_ct gc gs E hp_r2) en27 [0, 1] hn rfl ?_
 refine WL.nil ?_
 exact sub_ok (by kernel_rfl)
 exact WL.rI ht hn
 refine RD.have 7 #[true, true, true, false, false, true, false, false, false, false, false] ⟨[(qsWay4 Bk), sl 7 (.own 6), (qsWay10), (qsWay12), (qsWay6 signs), (qsWay3 signs), sl 50 (I x50), (qsWay8 gs), sl 118 (I x118), (qsWay14), (qsWay26 gs), (qsWay19)], [(qsWay2 gc gs), mapI StackEdge.enc StackKnown.ty E, .gone, mapI encI3 StackWay.ty m3, .gone, .gone, rowI 76 StackWay.ty (l6 ++ ([((mget x118 m3).getD (qsWay0))] : (qsWay5))), .box (StackWay.cl ((mget x118 m3).getD (qsWay0))) 76 false, .gone]⟩ ?_ (fun rd28 => ?_)
 refine RD.succ [3, 6] (by kernel_rfl) rfl ⟨⟨_, _, _, rfl, ?_, rfl, rd41⟩, ⟨_, _, _, rfl, ?_, rfl, rd42⟩, trivial⟩
 exact WL.rI ht hn
 exact WL.rI ht hn
 refine RD.have 7 #[true, true, true, true, false, false, false, false, false, false, false] ⟨[(qsWay4 Bk), sl 7 (.own 6), (qsWay10), (qsWay12), (qsWay6 signs), (qsWay3 signs), sl 50 (I x50), (qsWay8 gs), sl 118 (I x118), (qsWay14), (qsWay26 gs), (qsWay18)], [(qsWay2 gc gs), mapI StackEdge.enc StackKnown.ty E, .gone, mapI encI3 StackWay.ty m3, .gone, .gone, rowI 76 StackWay.ty (l6 ++ ([((mget x118 m3).getD (qsWay0))] : (qsWay5))), .box (StackWay.cl ((mget x118 m3).getD (qsWay0))) 76 false, .gone]⟩ ?_ (fun rd27 => ?_)
 refine RD.succ [4, 5] (by kernel_rfl) rfl ⟨⟨_, _, _, rfl, ?_, rfl, rd40⟩, ⟨_, _, _, rfl, ?_, rfl, rd41⟩, trivial⟩
 exact WL.rI ht hn
 exact WL.rI ht hn
 refine RD.have 8 #[false, false, false, true, false, true, true, false, false, false, false] ⟨[(qsWay4 Bk), sl 7 (.own 6), (qsWay10), (qsWay6 signs), (qsWay3 signs), sl 50 (I x50), (qsWay8 gs), sl 118 (I x118), (qsWay18), (qsWay9 x118 m3)], [(qsWay2 gc gs), mapI StackEdge.enc StackKnown.ty E, .gone, mapI encI3 StackWay.ty m3, .gone, .gone, rowI 76 StackWay.ty (l6 ++ ([((mget x118 m3).getD (qsWay0))] : (qsWay5))), .box (StackWay.cl ((mget x118 m3).getD (qsWay0))) 76 false, .gone]⟩ ?_ (fun rd26 => ?_)
 refine RD.succ [0, 1, 4] (by kernel_rfl) rfl ⟨⟨_, _, _, rfl, ?_, rfl, rd33⟩, ⟨_, _, _, rfl, ?_, rfl, rd38⟩, ⟨_, _, _, rfl, ?_, rfl, rd39⟩, trivial⟩
 exact WL.rI ht hn
 exact WL.rI ht hn
 exact WL.rI ht hn
 refine RD.have 8 #[false, false, false, true, true, true, false, false, false, false, false] ⟨[(qsWay4 Bk), sl 7 (.own 6), (qsWay10), (qsWay6 signs), (qsWay3 signs), sl 50 (I x50), (qsWay8 gs), sl 118 (I x118), (qsWay11 x118 m3), (qsWay19)], [(qsWay2 gc gs), mapI StackEdge.enc StackKnown.ty E, .gone, mapI encI3 StackWay.ty m3, .gone, .gone, rowI 76 StackWay.ty (l6 ++ ([((mget x118 m3).getD (qsWay0))] : (qsWay5))), .box (StackWay.cl ((mget x118 m3).getD (qsWay0))) 76 false, .gone]⟩ ?_ (fun rd25 => ?_)
 refine RD.succ [0, 1, 6] (by kernel_rfl) rfl ⟨⟨_, _, _, rfl, ?_, rfl, rd32⟩, ⟨_, _, _, rfl, ?_, rfl, rd37⟩, ⟨_, _, _, rfl, ?_, rfl, rd39⟩, trivial⟩
 exact WL.rI ht hn
 exact WL.rI ht hn
 exact WL.rI ht hn
 refine RD.have 8 #[false, true, false, false, false, true, true, false, false, false, false] ⟨[(qsWay4 Bk), sl 7 (.own 6), (qsWay10), (qsWay12), (qsWay6 signs), (qsWay3 signs), sl 50 (I x50), (qsWay8 gs), sl 118 (I x118), (qsWay17), (qsWay9 x118 m3)], [(qsWay2 gc gs), mapI StackEdge.enc StackKnown.ty E, .gone, mapI encI3 StackWay.ty m3, .gone, .gone, rowI 76 StackWay.ty (l6 ++ ([((mget x118 m3).getD (qsWay0))] : (qsWay5))), .box (StackWay.cl ((mget x118 m3).getD (qsWay0))) 76 false, .gone]⟩ ?_ (fun rd24 => ?_)
 refine RD.succ [0, 2, 3] (by kernel_rfl) rfl ⟨⟨_, _, _, rfl, ?_, rfl, rd31⟩, ⟨_, _, _, rfl, ?_, rfl, rd36⟩, ⟨_, _, _, rfl, ?_, rfl, rd38⟩, trivial⟩
 exact WL.rI ht hn
 refine WL.cE (sLst_ct gc gs E hp_r2) en27 [0, 1] hn rfl ?_
 refine WL.nil ?_
 exact sub_ok (by kernel_rfl)
 exact WL.rI ht hn
 refine RD.have 8 #[false, true, false, true, false, true, false, false, false, false, false] ⟨[(qsWay4 Bk), sl 7 (.own 6), (qsWay10), (qsWay6 signs), (qsWay3 signs), sl 50 (I x50), (qsWay8 gs), sl 118 (I x118), (qsWay17), (qsWay18), (qsWay19)], [(qsWay2 gc gs), mapI StackEdge.enc StackKnown.ty E, .gone, mapI encI3 StackWay.ty m3, .gone, .gone, rowI 76 StackWay.ty (l6 ++ ([((mget x118 m3).getD (qsWay0))] : (qsWay5))), .box (StackWay.cl ((mget x118 m3).getD (qsWay0))) 76 false, .gone]⟩ ?_ (fun rd23 => ?_)
 refine RD.succ [0, 2, 4, 6] (by kernel_rfl) rfl ⟨⟨_, _, _, rfl, ?_, rfl, rd30⟩, ⟨_, _, _, rfl, ?_, rfl, rd35⟩, ⟨_, _, _, rfl, ?_, rfl, rd37⟩, ⟨_, _, _, rfl, ?_, rfl, rd38⟩, trivial⟩
 exact WL.rI ht hn
 refine WL.cE (sLst_ct gc gs E hp_r2) en27 [0, 1] hn rfl ?_
 refine WL.nil ?_
 exact sub_ok (by kernel_rfl)
 exact WL.rI ht hn
 exact WL.rI ht hn
 refine RD.have 8 #[false, true, false, true, true, false, false, false, false, false, false] ⟨[(qsWay4 Bk), sl 7 (.own 6), (qsWay10), (qsWay12), (qsWay6 signs), (qsWay3 signs), sl 50 (I x50), (qsWay8 gs), sl 118 (I x118), (qsWay17), (qsWay11 x118 m3)], [(qsWay2 gc gs), mapI StackEdge.enc StackKnown.ty E, .gone, mapI encI3 StackWay.ty m3, .gone, .gone, rowI 76 StackWay.ty (l6 ++ ([((mget x118 m3).getD (qsWay0))] : (qsWay5))), .box (StackWay.cl ((mget x118 m3).getD (qsWay0))) 76 false, .gone]⟩ ?_ (fun rd22 => ?_)
 refine RD.succ [0, 2, 5] (by kernel_rfl) rfl ⟨⟨_, _, _, rfl, ?_, rfl, rd29⟩, ⟨_, _, _, rfl, ?_, rfl, rd34⟩, ⟨_, _, _, rfl, ?_, rfl, rd37⟩, trivial⟩
 exact WL.rI ht hn
 refine WL.cE (sLst_ct gc gs E hp_r2) en27 [0, 1] hn rfl ?_
 refine WL.nil ?_
 exact sub_ok (by kernel_rfl)
 exact WL.rI ht hn
 refine RD.have 8 #[false, true, true, false, false, true, false, false, false, false, false] ⟨[(qsWay4 Bk), sl 7 (.own 6), (qsWay10), (qsWay12), (qsWay6 signs), (qsWay3 signs), sl 50 (I x50), (qsWay8 gs), sl 118 (I x118), (qsWay26 gs), (qsWay19)], [(qsWay2 gc gs), mapI StackEdge.enc StackKnown.ty E, .gone, mapI encI3 StackWay.ty m3, .gone, .gone, rowI 76 StackWay.ty (l6 ++ ([((mget x118 m3).getD (qsWay0))] : (qsWay5))), .box (StackWay.cl ((mget x118 m3).getD (qsWay0))) 76 false, .gone]⟩ ?_ (fun rd21 => ?_)
 refine RD.succ [0, 3, 6] (by kernel_rfl) rfl ⟨⟨_, _, _, rfl, ?_, rfl, rd28⟩, ⟨_, _, _, rfl, ?_, rfl, rd35⟩, ⟨_, _, _, rfl, ?_, rfl, rd36⟩, trivial⟩
 exact WL.rI ht hn
 exact WL.rI ht hn
 exact WL.rI ht hn
 refine RD.have 8 #[false, true, true, true, false, false, false, false, false, false, false] ⟨[(qsWay4 Bk), sl 7 (.own 6), (qsWay10), (qsWay12), (qsWay6 signs), (qsWay3 signs), sl 50 (I x50), (qsWay8 gs), sl 118 (I x118), (qsWay26 gs), (qsWay18)], [(qsWay2 gc gs), mapI StackEdge.enc StackKnown.ty E, .gone, mapI encI3 StackWay.ty m3, .gone, .gone, rowI 76 StackWay.ty (l6 ++ ([((mget x118 m3).getD (qsWay0))] : (qsWay5))), .box (StackWay.cl ((mget x118 m3).getD (qsWay0))) 76 false, .gone]⟩ ?_ (fun rd20 => ?_)
 refine RD.succ [0, 4, 5] (by kernel_rfl) rfl ⟨⟨_, _, _, rfl, ?_, rfl, rd27⟩, ⟨_, _, _, rfl, ?_, rfl, rd34⟩, ⟨_, _, _, rfl, ?_, rfl, rd35⟩, trivial⟩
 exact WL.rI ht hn
 exact WL.rI ht hn
 exact WL.rI ht hn
 refine RD.have 8 #[true, false, false, false, false, true, true, false, false, false, false] ⟨[(qsWay4 Bk), sl 7 (.own 6), (qsWay10), (qsWay12), (qsWay6 signs), (qsWay3 signs), sl 50 (I x50), (qsWay8 gs), sl 118 (I x118), (qsWay14), (qsWay9 x118 m3)], [(qsWay2 gc gs), mapI StackEdge.enc StackKnown.ty E, .gone, mapI encI3 StackWay.ty m3, .gone, .gone, rowI 76 StackWay.ty (l6 ++ ([((mget x118 m3).getD (qsWay0))] : (qsWay5))), .box (StackWay.cl ((mget x118 m3).getD (qsWay0))) 76 false, .gone]⟩ ?_ (fun rd19 => ?_)
 refine RD.succ [1, 3] (by kernel_rfl) rfl ⟨⟨_, _, _, rfl, ?_, rfl, rd31⟩, ⟨_, _, _, rfl, ?_, rfl, rd33⟩, trivial⟩
 exact WL.rI ht hn
 exact WL.rI ht hn
 refine RD.have 8 #[true, false, false, true, false, true, false, false, false, false, false] ⟨[(qsWay4 Bk), sl 7 (.own 6), (qsWay10), (qsWay6 signs), (qsWay3 signs), sl 50 (I x50), (qsWay8 gs), sl 118 (I x118), (qsWay14), (qsWay18), (qsWay19)], [(qsWay2 gc gs), mapI StackEdge.enc StackKnown.ty E, .gone, mapI encI3 StackWay.ty m3, .gone, .gone, rowI 76 StackWay.ty (l6 ++ ([((mget x118 m3).getD (qsWay0))] : (qsWay5))), .box (StackWay.cl ((mget x118 m3).getD (qsWay0))) 76 false, .gone]⟩ ?_ (fun rd18 => ?_)
 refine RD.succ [1, 4, 6] (by kernel_rfl) rfl ⟨⟨_, _, _, rfl, ?_, rfl, rd30⟩, ⟨_, _, _, rfl, ?_, rfl, rd32⟩, ⟨_, _, _, rfl, ?_, rfl, rd33⟩, trivial⟩
 exact WL.rI ht hn
 exact WL.rI ht hn
 exact WL.rI ht hn
 refine RD.have 8 #[true, false, false, true, true, false, false, false, false, false, false] ⟨[(qsWay4 Bk), sl 7 (.own 6), (qsWay10), (qsWay12), (qsWay6 signs), (qsWay3 signs), sl 50 (I x50), (qsWay8 gs), sl 118 (I x118), (qsWay14), (qsWay11 x118 m3)], [(qsWay2 gc gs), mapI StackEdge.enc StackKnown.ty E, .gone, mapI encI3 StackWay.ty m3, .gone, .gone, rowI 76 StackWay.ty (l6 ++ ([((mget x118 m3).getD (qsWay0))] : (qsWay5))), .box (StackWay.cl ((mget x118 m3).getD (qsWay0))) 76 false, .gone]⟩ ?_ (fun rd17 => ?_)
 refine RD.succ [1, 5] (by kernel_rfl) rfl ⟨⟨_, _, _, rfl, ?_, rfl, rd29⟩, ⟨_, _, _, rfl, ?_, rfl, rd32⟩, trivial⟩
 exact WL.rI ht hn
 exact WL.rI ht hn
 refine RD.have 8 #[true, true, false, false, false, true, false, false, false, false, false] ⟨[(qsWay4 Bk), sl 7 (.own 6), (qsWay10), (qsWay12), (qsWay6 signs), (qsWay3 signs), sl 50 (I x50), (qsWay8 gs), sl 118 (I x118), (qsWay14), (qsWay17), (qsWay19)], [(qsWay2 gc gs), mapI StackEdge.enc StackKnown.ty E, .gone, mapI encI3 StackWay.ty m3, .gone, .gone, rowI 76 StackWay.ty (l6 ++ ([((mget x118 m3).getD (qsWay0))] : (qsWay5))), .box (StackWay.cl ((mget x118 m3).getD (qsWay0))) 76 false, .gone]⟩ ?_ (fun rd16 => ?_)
 refine RD.succ [2, 3, 6] (by kernel_rfl) rfl ⟨⟨_, _, _, rfl, ?_, rfl, rd28⟩, ⟨_, _, _, rfl, ?_, rfl, rd30⟩, ⟨_, _, _, rfl, ?_, rfl, rd31⟩, trivial⟩
 refine WL.cE (sLst_ct gc gs E hp_r2) en27 [0, 1] hn rfl ?_
 refine WL.nil ?_
 exact sub_ok (by kernel_rfl)
 exact WL.rI ht hn
 exact WL.rI ht hn
 refine RD.have 8 #[true, true, false, true, false, false, false, false, false, false, false] ⟨[(qsWay4 Bk), sl 7 (.own 6), (qsWay10), (qsWay12), (qsWay6 signs), (qsWay3 signs), sl 50 (I x50), (qsWay8 gs), sl 118 (I x118), (qsWay14), (qsWay17), (qsWay18)], [(qsWay2 gc gs), mapI StackEdge.enc StackKnown.ty E, .gone, mapI encI3 StackWay.ty m3, .gone, .gone, rowI 76 StackWay.ty (l6 ++ ([((mget x118 m3).getD (qsWay0))] : (qsWay5))), .box (StackWay.cl ((mget x118 m3).getD (qsWay0))) 76 false, .gone]⟩ ?_ (fun rd15 => ?_)
 refine RD.succ [2, 4, 5] (by kernel_rfl) rfl ⟨⟨_, _, _, rfl, ?_, rfl, rd27⟩, ⟨_, _, _, rfl, ?_, rfl, rd29⟩, ⟨_, _, _, rfl, ?_, rfl, rd30⟩, trivial⟩
 refine WL.cE (sLst_ct gc gs E hp_r2) en27 [0, 1] hn rfl ?_
 refine WL.nil ?_
 exact sub_ok (by kernel_rfl)
 exact WL.rI ht hn
 exact WL.rI ht hn
 refine RD.have 8 #[true, true, true, false, false, false, false, false, false, false, false] ⟨[(qsWay4 Bk), sl 7 (.own 6), (qsWay10), (qsWay12), (qsWay6 signs), (qsWay3 signs), sl 50 (I x50), (qsWay8 gs), sl 118 (I x118), (qsWay14), (qsWay26 gs)], [(qsWay2 gc gs), mapI StackEdge.enc StackKnown.ty E, .gone, mapI encI3 StackWay.ty m3, .gone, .gone, rowI 76 StackWay.ty (l6 ++ ([((mget x118 m3).getD (qsWay0))] : (qsWay5))), .box (StackWay.cl ((mget x118 m3).getD (qsWay0))) 76 false, .gone]⟩ ?_ (fun rd14 => ?_)
 refine RD.succ [3, 5] (by kernel_rfl) rfl ⟨⟨_, _, _, rfl, ?_, rfl, rd27⟩, ⟨_, _, _, rfl, ?_, rfl, rd28⟩, trivial⟩
 exact WL.rI ht hn
 exact WL.rI ht hn
 refine RD.have 9 #[false, false, false, false, false, true, true, false, false, false, false] ⟨[(qsWay4 Bk), sl 7 (.own 6), (qsWay10), (qsWay12), (qsWay6 signs), (qsWay3 signs), sl 50 (I x50), (qsWay8 gs), sl 118 (I x118), (qsWay9 x118 m3)], [(qsWay2 gc gs), mapI StackEdge.enc StackKnown.ty E, .gone, mapI encI3 StackWay.ty m3, .gone, .gone, rowI 76 StackWay.ty (l6 ++ ([((mget x118 m3).getD (qsWay0))] : (qsWay5))), .box (StackWay.cl ((mget x118 m3).getD (qsWay0))) 76 false, .gone]⟩ ?_ (fun rd13 => ?_)
 refine RD.succ [0, 1, 3] (by kernel_rfl) rfl ⟨⟨_, _, _, rfl, ?_, rfl, rd19⟩, ⟨_, _, _, rfl, ?_, rfl, rd24⟩, ⟨_, _, _, rfl, ?_, rfl, rd26⟩, trivial⟩
 exact WL.rI ht hn
 exact WL.rI ht hn
 exact WL.rI ht hn
 refine RD.have 9 #[false, false, false, true, false, true, false, false, false, false, false] ⟨[(qsWay4 Bk), sl 7 (.own 6), (qsWay10), (qsWay6 signs), (qsWay3 signs), sl 50 (I x50), (qsWay8 gs), sl 118 (I x118), (qsWay18), (qsWay19)], [(qsWay2 gc gs), mapI StackEdge.enc StackKnown.ty E, .gone, mapI encI3 StackWay.ty m3, .gone, .gone, rowI 76 StackWay.ty (l6 ++ ([((mget x118 m3).getD (qsWay0))] : (qsWay5))), .box (StackWay.cl ((mget x118 m3).getD (qsWay0))) 76 false, .gone]⟩ ?_ (fun rd12 => ?_)
 refine RD.succ [0, 1, 4, 6] (by kernel_rfl) rfl ⟨⟨_, _, _, rfl, ?_, rfl, rd18⟩, ⟨_, _, _, rfl, ?_, rfl, rd23⟩, ⟨_, _, _, rfl, ?_, rfl, rd25⟩, ⟨_, _, _, rfl, ?_, rfl, rd26⟩, trivial⟩
 exact WL.rI ht hn
 exact WL.rI ht hn
 exact WL.rI ht hn
 exact WL.rI ht hn
 refine RD.have 9 #[false, false, false, true, true, false, false, false, false, false, false] ⟨[(qsWay4 Bk), sl 7 (.own 6), (qsWay10), (qsWay12), (qsWay6 signs), (qsWay3 signs), sl 50 (I x50), (qsWay8 gs), sl 118 (I x118), (qsWay11 x118 m3)], [(qsWay2 gc gs), mapI StackEdge.enc StackKnown.ty E, .gone, mapI encI3 StackWay.ty m3, .gone, .gone, rowI 76 StackWay.ty (l6 ++ ([((mget x118 m3).getD (qsWay0))] : (qsWay5))), .box (StackWay.cl ((mget x118 m3).getD (qsWay0))) 76 false, .gone]⟩ ?_ (fun rd11 => ?_)
 refine RD.succ [0, 1, 5] (by kernel_rfl) rfl ⟨⟨_, _, _, rfl, ?_, rfl, rd17⟩, ⟨_, _, _, rfl, ?_, rfl, rd22⟩, ⟨_, _, _, rfl, ?_, rfl, rd25⟩, trivial⟩
 exact WL.rI ht hn
 exact WL.rI ht hn
 exact WL.rI ht hn
 refine RD.have 9 #[false, true, false, false, false, true, false, false, false, false, false] ⟨[(qsWay4 Bk), sl 7 (.own 6), (qsWay10), (qsWay12), (qsWay6 signs), (qsWay3 signs), sl 50 (I x50), (qsWay8 gs), sl 118 (I x118), (qsWay17), (qsWay19)], [(qsWay2 gc gs), mapI StackEdge.enc StackKnown.ty E, .gone, mapI encI3 StackWay.ty m3, .gone, .gone, rowI 76 StackWay.ty (l6 ++ ([((mget x118 m3).getD (qsWay0))] : (qsWay5))), .box (StackWay.cl ((mget x118 m3).getD (qsWay0))) 76 false, .gone]⟩ ?_ (fun rd10 => ?_)
 refine RD.succ [0, 2, 3, 6] (by kernel_rfl) rfl ⟨⟨_, _, _, rfl, ?_, rfl, rd16⟩, ⟨_, _, _, rfl, ?_, rfl, rd21⟩, ⟨_, _, _, rfl, ?_, rfl, rd23⟩, ⟨_, _, _, rfl, ?_, rfl, rd24⟩, trivial⟩
 exact WL.rI ht hn
 refine WL.cE (sLst_ct gc gs E hp_r2) en27 [0, 1] hn rfl ?_
 refine WL.nil ?_
 exact sub_ok (by kernel_rfl)
 exact WL.rI ht hn
 exact WL.rI ht hn
 refine RD.have 9 #[false, true, false, true, false, false, false, false, false, false, false] ⟨[(qsWay4 Bk), sl 7 (.own 6), (qsWay10), (qsWay12), (qsWay6 signs), (qsWay3 signs), sl 50 (I x50), (qsWay8 gs), sl 118 (I x118), (qsWay17), (qsWay18)], [(qsWay2 gc gs), mapI StackEdge.enc StackKnown.ty E, .gone, mapI encI3 StackWay.ty m3, .gone, .gone, rowI 76 StackWay.ty (l6 ++ ([((mget x118 m3).getD (qsWay0))] : (qsWay5))), .box (StackWay.cl ((mget x118 m3).getD (qsWay0))) 76 false, .gone]⟩ ?_ (fun rd9 => ?_)
 refine RD.succ [0, 2, 4, 5] (by kernel_rfl) rfl ⟨⟨_, _, _, rfl, ?_, rfl, rd15⟩, ⟨_, _, _, rfl, ?_, rfl, rd20⟩, ⟨_, _, _, rfl, ?_, rfl, rd22⟩, ⟨_, _, _, rfl, ?_, rfl, rd23⟩, trivial⟩
 exact WL.rI ht hn
 refine WL.cE (sLst_ct gc gs E hp_r2) en27 [0, 1] hn rfl ?_
 refine WL.nil ?_
 exact sub_ok (by kernel_rfl)
 exact WL.rI ht hn
 exact WL.rI ht hn
 refine RD.have 9 #[false, true, true, false, false, false, false, false, false, false, false] ⟨[(qsWay4 Bk), sl 7 (.own 6), (qsWay10), (qsWay12), (qsWay6 signs), (qsWay3 signs), sl 50 (I x50), (qsWay8 gs), sl 118 (I x118), (qsWay26 gs)], [(qsWay2 gc gs), mapI StackEdge.enc StackKnown.ty E, .gone, mapI encI3 StackWay.ty m3, .gone, .gone, rowI 76 StackWay.ty (l6 ++ ([((mget x118 m3).getD (qsWay0))] : (qsWay5))), .box (StackWay.cl ((mget x118 m3).getD (qsWay0))) 76 false, .gone]⟩ ?_ (fun rd8 => ?_)
 refine RD.succ [0, 3, 5] (by kernel_rfl) rfl ⟨⟨_, _, _, rfl, ?_, rfl, rd14⟩, ⟨_, _, _, rfl, ?_, rfl, rd20⟩, ⟨_, _, _, rfl, ?_, rfl, rd21⟩, trivial⟩
 exact WL.rI ht hn
 exact WL.rI ht hn
 exact WL.rI ht hn
 refine RD.have 9 #[true, false, false, false, false, true, false, false, false, false, false] ⟨[(qsWay4 Bk), sl 7 (.own 6), (qsWay10), (qsWay12), (qsWay6 signs), (qsWay3 signs), sl 50 (I x50), (qsWay8 gs), sl 118 (I x118), (qsWay14), (qsWay19)], [(qsWay2 gc gs), mapI StackEdge.enc StackKnown.ty E, .gone, mapI encI3 StackWay.ty m3, .gone, .gone, rowI 76 StackWay.ty (l6 ++ ([((mget x118 m3).getD (qsWay0))] : (qsWay5))), .box (StackWay.cl ((mget x118 m3).getD (qsWay0))) 76 false, .gone]⟩ ?_ (fun rd7 => ?_)
 refine RD.succ [1, 3, 6] (by kernel_rfl) rfl ⟨⟨_, _, _, rfl, ?_, rfl, rd16⟩, ⟨_, _, _, rfl, ?_, rfl, rd18⟩, ⟨_, _, _, rfl, ?_, rfl, rd19⟩, trivial⟩
 exact WL.rI ht hn
 exact WL.rI ht hn
 exact WL.rI ht hn
 refine RD.have 9 #[true, false, false, true, false, false, false, false, false, false, false] ⟨[(qsWay4 Bk), sl 7 (.own 6), (qsWay10), (qsWay12), (qsWay6 signs), (qsWay3 signs), sl 50 (I x50), (qsWay8 gs), sl 118 (I x118), (qsWay14), (qsWay18)], [(qsWay2 gc gs), mapI StackEdge.enc StackKnown.ty E, .gone, mapI encI3 StackWay.ty m3, .gone, .gone, rowI 76 StackWay.ty (l6 ++ ([((mget x118 m3).getD (qsWay0))] : (qsWay5))), .box (StackWay.cl ((mget x118 m3).getD (qsWay0))) 76 false, .gone]⟩ ?_ (fun rd6 => ?_)
 refine RD.succ [1, 4, 5] (by kernel_rfl) rfl ⟨⟨_, _, _, rfl, ?_, rfl, rd15⟩, ⟨_, _, _, rfl, ?_, rfl, rd17⟩, ⟨_, _, _, rfl, ?_, rfl, rd18⟩, trivial⟩
 exact WL.rI ht hn
 exact WL.rI ht hn
 exact WL.rI ht hn
 refine RD.have 9 #[true, true, false, false, false, false, false, false, false, false, false] ⟨[(qsWay4 Bk), sl 7 (.own 6), (qsWay10), (qsWay12), (qsWay6 signs), (qsWay3 signs), sl 50 (I x50), (qsWay8 gs), sl 118 (I x118), (qsWay14), (qsWay17)], [(qsWay2 gc gs), mapI StackEdge.enc StackKnown.ty E, .gone, mapI encI3 StackWay.ty m3, .gone, .gone, rowI 76 StackWay.ty (l6 ++ ([((mget x118 m3).getD (qsWay0))] : (qsWay5))), .box (StackWay.cl ((mget x118 m3).getD (qsWay0))) 76 false, .gone]⟩ ?_ (fun rd5 => ?_)
 refine RD.succ [2, 3, 5] (by kernel_rfl) rfl ⟨⟨_, _, _, rfl, ?_, rfl, rd14⟩, ⟨_, _, _, rfl, ?_, rfl, rd15⟩, ⟨_, _, _, rfl, ?_, rfl, rd16⟩, trivial⟩
 refine WL.cE (sLst_ct gc gs E hp_r2) en27 [0, 1] hn rfl ?_
 refine WL.nil ?_
 exact sub_ok (by kernel_rfl)
 exact WL.rI ht hn
 exact WL.rI ht hn
 refine RD.have 10 #[false, false, false, false, false, true, false, false, false, false, false] ⟨[(qsWay4 Bk), sl 7 (.own 6), (qsWay10), (qsWay12), (qsWay6 signs), (qsWay3 signs), sl 50 (I x50), (qsWay8 gs), sl 118 (I x118), (qsWay19)], [(qsWay2 gc gs), mapI StackEdge.enc StackKnown.ty E, .gone, mapI encI3 StackWay.ty m3, .gone, .gone, rowI 76 StackWay.ty (l6 ++ ([((mget x118 m3).getD (qsWay0))] : (qsWay5))), .box (StackWay.cl ((mget x118 m3).getD (qsWay0))) 76 false, .gone]⟩ ?_ (fun rd4 => ?_)
 refine RD.succ [0, 1, 3, 6] (by kernel_rfl) rfl ⟨⟨_, _, _, rfl, ?_, rfl, rd7⟩, ⟨_, _, _, rfl, ?_, rfl, rd10⟩, ⟨_, _, _, rfl, ?_, rfl, rd12⟩, ⟨_, _, _, rfl, ?_, rfl, rd13⟩, trivial⟩
 exact WL.rI ht hn
 exact WL.rI ht hn
 exact WL.rI ht hn
 exact WL.rI ht hn
 refine RD.have 10 #[false, false, false, true, false, false, false, false, false, false, false] ⟨[(qsWay4 Bk), sl 7 (.own 6), (qsWay10), (qsWay12), (qsWay6 signs), (qsWay3 signs), sl 50 (I x50), (qsWay8 gs), sl 118 (I x118), (qsWay18)], [(qsWay2 gc gs), mapI StackEdge.enc StackKnown.ty E, .gone, mapI encI3 StackWay.ty m3, .gone, .gone, rowI 76 StackWay.ty (l6 ++ ([((mget x118 m3).getD (qsWay0))] : (qsWay5))), .box (StackWay.cl ((mget x118 m3).getD (qsWay0))) 76 false, .gone]⟩ ?_ (fun rd3 => ?_)
 refine RD.succ [0, 1, 4, 5] (by kernel_rfl) rfl ⟨⟨_, _, _, rfl, ?_, rfl, rd6⟩, ⟨_, _, _, rfl, ?_, rfl, rd9⟩, ⟨_, _, _, rfl, ?_, rfl, rd11⟩, ⟨_, _, _, rfl, ?_, rfl, rd12⟩, trivial⟩
 exact WL.rI ht hn
 exact WL.rI ht hn
 exact WL.rI ht hn
 exact WL.rI ht hn
 refine RD.have 10 #[false, true, false, false, false, false, false, false, false, false, false] ⟨[(qsWay4 Bk), sl 7 (.own 6), (qsWay10), (qsWay12), (qsWay6 signs), (qsWay3 signs), sl 50 (I x50), (qsWay8 gs), sl 118 (I x118), (qsWay17)], [(qsWay2 gc gs), mapI StackEdge.enc StackKnown.ty E, .gone, mapI encI3 StackWay.ty m3, .gone, .gone, rowI 76 StackWay.ty (l6 ++ ([((mget x118 m3).getD (qsWay0))] : (qsWay5))), .box (StackWay.cl ((mget x118 m3).getD (qsWay0))) 76 false, .gone]⟩ ?_ (fun rd2 => ?_)
 refine RD.succ [0, 2, 3, 5] (by kernel_rfl) rfl ⟨⟨_, _, _, rfl, ?_, rfl, rd5⟩, ⟨_, _, _, rfl, ?_, rfl, rd8⟩, ⟨_, _, _, rfl, ?_, rfl, rd9⟩, ⟨_, _, _, rfl, ?_, rfl, rd10⟩, trivial⟩
 exact WL.rI ht hn
 refine WL.cE (sLst_ct gc gs E hp_r2) en27 [0, 1] hn rfl ?_
 refine WL.nil ?_
 exact sub_ok (by kernel_rfl)
 exact WL.rI ht hn
 exact WL.rI ht hn
 refine RD.have 10 #[true, false, false, false, false, false, false, false, false, false, false] ⟨[(qsWay4 Bk), sl 7 (.own 6), (qsWay10), (qsWay12), (qsWay6 signs), (qsWay3 signs), sl 50 (I x50), (qsWay8 gs), sl 118 (I x118), (qsWay14)], [(qsWay2 gc gs), mapI StackEdge.enc StackKnown.ty E, .gone, mapI encI3 StackWay.ty m3, .gone, .gone, rowI 76 StackWay.ty (l6 ++ ([((mget x118 m3).getD (qsWay0))] : (qsWay5))), .box (StackWay.cl ((mget x118 m3).getD (qsWay0))) 76 false, .gone]⟩ ?_ (fun rd1 => ?_)
 refine RD.succ [1, 3, 5] (by kernel_rfl) rfl ⟨⟨_, _, _, rfl, ?_, rfl, rd5⟩, ⟨_, _, _, rfl, ?_, rfl, rd6⟩, ⟨_, _, _, rfl, ?_, rfl, rd7⟩, trivial⟩
 exact WL.rI ht hn
 exact WL.rI ht hn
 exact WL.rI ht hn
 refine RD.have 11 #[false, false, false, false, false, false, false, false, false, false, false] ⟨[(qsWay4 Bk), sl 7 (.own 6), (qsWay10), (qsWay12), (qsWay6 signs), (qsWay3 signs), sl 50 (I x50), (qsWay8 gs), sl 118 (I x118)], [(qsWay2 gc gs), mapI StackEdge.enc StackKnown.ty E, .gone, mapI encI3 StackWay.ty m3, .gone, .gone, rowI 76 StackWay.ty (l6 ++ ([((mget x118 m3).getD (qsWay0))] : (qsWay5))), .box (StackWay.cl ((mget x118 m3).getD (qsWay0))) 76 false, .gone]⟩ ?_ (fun rd0 => ?_)
 refine RD.succ [0, 1, 3, 5] (by kernel_rfl) rfl ⟨⟨_, _, _, rfl, ?_, rfl, rd1⟩, ⟨_, _, _, rfl, ?_, rfl, rd2⟩, ⟨_, _, _, rfl, ?_, rfl, rd3⟩, ⟨_, _, _, rfl, ?_, rfl, rd4⟩, trivial⟩
 exact WL.rI ht hn
 exact WL.rI ht hn
 exact WL.rI ht hn
 exact WL.rI ht hn
 exact RD.start rd0 rfl (by kernel_rfl) (sub_ok (by kernel_rfl))
 exact En.at (I := fun zz => J_3 zz) (T := fun zz => ⟨[(qsWay4 Bk), sl 7 (.own 6), (qsWay10), (qsWay6 signs), (qsWay3 signs), sl 50 (I x50), (qsWay8 gs), sl 118 (I x118)], [(qsWay2 gc gs), mapI StackEdge.enc StackKnown.ty E, .gone, mapI encI3 StackWay.ty m3, .gone, .gone, rowI 76 StackWay.ty zz, .gone]⟩) ((l6 ++ ([((mget x118 m3).getD (qsWay0))] : (qsWay5))) ++ ([(StackWay.mk (lstS gs) ((mget x118 m3).getD (qsWay0)).fCost ((mget x118 m3).getD (qsWay0)).fOver)] : (qsWay5))) h (by kernel_rfl)
 replace h := h.2 hb
 refine En.skip ?_
 exact En.at (I := fun zz => J_3 zz) (T := fun zz => ⟨[(qsWay4 Bk), sl 7 (.own 6), (qsWay10), (qsWay6 signs), (qsWay3 signs), sl 50 (I x50), (qsWay8 gs), sl 118 (I x118)], [(qsWay2 gc gs), mapI StackEdge.enc StackKnown.ty E, .gone, mapI encI3 StackWay.ty m3, .gone, .gone, rowI 76 StackWay.ty zz, .gone]⟩) (l6 ++ ([((mget x118 m3).getD (qsWay0))] : (qsWay5))) h (by kernel_rfl)
 replace h := h.2 hb
 refine En.skip ?_
 exact En.at (I := fun zz => J_3 zz) (T := fun zz => ⟨[(qsWay4 Bk), sl 7 (.own 6), (qsWay10), (qsWay6 signs), (qsWay3 signs), sl 50 (I x50), (qsWay8 gs), sl 118 (I x118)], [(qsWay2 gc gs), mapI StackEdge.enc StackKnown.ty E, .gone, mapI encI3 StackWay.ty m3, .gone, .gone, rowI 76 StackWay.ty zz, .gone]⟩) l6 h (by kernel_rfl)
 intro l6_2 h
 replace h := hJ_3 _ h
 show En c ⟨[(qsWay4 Bk), sl 7 (.own 6), (qsWay10), (qsWay6 signs), (qsWay3 signs), sl 50 (I x50), (qsWay8 gs), sl 118 (I x118)], [(qsWay2 gc gs), mapI StackEdge.enc StackKnown.ty E, .gone, mapI encI3 StackWay.ty m3, .gone, .gone, rowI 76 StackWay.ty l6_2, .gone]⟩ _
 refine En.region ?_
 refine WL.rn ht hn 2 ⟨[(qsWay4 Bk), sl 7 (.own 6), (qsWay10), (qsWay6 signs), (qsWay3 signs), sl 50 (I x50), (qsWay8 gs), sl 118 (I (wr (x118 + 1)))], [(qsWay2 gc gs), mapI StackEdge.enc StackKnown.ty E, .gone, mapI encI3 StackWay.ty m3, .gone, .gone, rowI 76 StackWay.ty l6_2, .gone]⟩ ?_
 exact En.at (I := fun zz => Inv_4 zz.1 zz.2 ∧ mu_4 zz.1 zz.2 < mu_4 x118 l6) (T := fun zz => ⟨[(qsWay4 Bk), sl 7 (.own 6), (qsWay10), (qsWay6 signs), (qsWay3 signs), sl 50 (I x50), (qsWay8 gs), sl 118 (I zz.1)], [(qsWay2 gc gs), mapI StackEdge.enc StackKnown.ty E, .gone, mapI encI3 StackWay.ty m3, .gone, .gone, rowI 76 StackWay.ty zz.2]⟩) ((wr (x118 + 1)), l6_2) h (by kernel_rfl)
 replace h := h.2 hb
 refine En.exit rfl ?_
 refine En.region ?_
 refine WL.rn ht hn 2 ⟨[(qsWay4 Bk), sl 7 (.own 6), (qsWay6 signs), (qsWay3 signs), sl 50 (I (wr (x50 + 1)))], [(qsWay2 gc gs), mapI StackEdge.enc StackKnown.ty E, .gone, .gone, .gone, .gone, rowI 76 StackWay.ty l6]⟩ ?_
 refine En.move 6 2 (by rfl) (by rfl) ?_
 exact En.at (I := fun zz => Inv zz.1 zz.2 ∧ mu zz.1 zz.2 < mu x50 l2_2) (T := fun zz => ⟨[(qsWay4 Bk), sl 7 (.own 2), (qsWay6 signs), (qsWay3 signs), sl 50 (I zz.1)], [(qsWay2 gc gs), mapI StackEdge.enc StackKnown.ty E, rowI 76 StackWay.ty zz.2]⟩) ((wr (x50 + 1)), l6) h (by kernel_rfl)
 replace h := h.2 hb
 refine En.exit rfl ?_
 refine En.sr ?_
 refine WL.rn ht hn 2 ⟨[(qsWay4 Bk), sl 6 (.own 2)], [(qsWay2 gc gs), mapI StackEdge.enc StackKnown.ty E, rowI 76 StackWay.ty l2_2]⟩ ?_
 refine En.ret ?_
 refine En.seal (T := StackWay.ty) (l := l2_2) (e := 76) 2 rfl ?_
 exact En.backE [0] ht l2_2 h (by kernel_rfl) (by rfl) rfl
theorem en26 : ∀ args w, (callFunc 26 args).run Try.prog w = .ok (.enter 26 args) w := enters_of Try.func26 (by kernel_rfl) rfl
structure WayPre (gc : Int) (gs : List Int) (E : EMap) (fr : Int) (signs : List Int) : Prop where
 gl : gs.length ≤ 3
 sl : signs.length ≤ 20
 cost : CostOk E
 fr : 0 ≤ fr ∧ fr < (gs.length : Int) + 4
section
variable {E : EMap} {w : StackWay} {sign t : Int} {b : WMap} {gc : Int} {gs : List Int}
theorem try_1 (h : (!(mget (StackEdge.mk w.fTo sign t) E).isSome) = true) : b = tryS E w sign t b := (if_pos h).symm
theorem try_2 (h : (!(mget (StackEdge.mk w.fTo sign t) E).isSome) = false) (h2 : ((!(mget t b).isSome) || (decide ((newW E w sign t).fCost < ((mget t b).getD wy0).fCost))) = true) : mput t (newW E w sign t) b = tryS E w sign t b := ((if_neg (by rw [h]; decide)).trans (if_pos h2)).symm
theorem try_3 (h : (!(mget (StackEdge.mk w.fTo sign t) E).isSome) = false) (h2 : ((!(mget t b).isSome) || (decide ((newW E w sign t).fCost < ((mget t b).getD wy0).fCost))) = false) : b = tryS E w sign t b := ((if_neg (by rw [h]; decide)).trans (if_neg (by rw [h2]; decide))).symm
theorem item_1 (h : (mget t b).isSome = true) (h2 : ((t == gc) && ((gs.length : Int) == 0)) = true) : itemS gc gs b t = [(mget t b).getD wy0] ++ [StackWay.mk (lstS gs) ((mget t b).getD wy0).fCost ((mget t b).getD wy0).fOver] := by
 unfold itemS
 rw [if_pos h, if_pos h2]
theorem item_2 (h : (mget t b).isSome = true) (h2 : ((t == gc) && ((gs.length : Int) == 0)) = false) : itemS gc gs b t = [(mget t b).getD wy0] := by
 unfold itemS
 rw [if_pos h, if_neg (by rw [h2]; decide), List.append_nil]
theorem item_3 (h : (mget t b).isSome = false) : itemS gc gs b t = [] := by
 unfold itemS
 rw [if_neg (by rw [h]; decide)]
theorem fold_take {α β : Type} {f : β → α → β} {l : List α} {k : Nat} {b : β} (h : k < l.length) : (l.take (k + 1)).foldl f b = f ((l.take k).foldl f b) l[k] := by
 rw [List.take_add_one, List.getElem?_eq_getElem h, List.foldl_append]
 rfl
theorem fold_len : ∀ {signs : List Int} {l : List StackWay}, l.length ≤ 2 * (gs.length + 4) → (signs.foldl (stepW gc gs E) l).length ≤ 2 * (gs.length + 4)
 | [], _, h => h
 | s :: signs, l, _ => fold_len (signs := signs) out_len
theorem start_len {fr : Int} : (startS gc gs fr).length ≤ 2 := by
 unfold startS
 split <;> simp
end
theorem sWay_ct (gc : Int) (gs : (List Int)) (E : (List (StackEdge × StackKnown))) (fr : Int) (signs : (List Int)) (hp : WayPre gc gs E fr signs)  : CtE 26 [.sv (.one (.ptr 0 0)), .sv (.one (I fr)), .sv (.one (LS intT signs))] [.box [I gc, LS intT gs, .own 1] 127 false, mapI StackEdge.enc StackKnown.ty E] [0] (fun (_ : Unit) => True) (fun _ => .sv (.one (LS StackWay.ty (waysS gc gs E fr signs)))) (fun _ => [.box [I gc, LS intT gs, .own 1] 127 false, mapI StackEdge.enc StackKnown.ty E]) := by
 refine (sWay_walk gc gs E fr signs (fun res_ => res_ = waysS gc gs E fr signs) ?_).imp (fun r hr => ⟨(), trivial, by subst hr; rfl, by subst hr; rfl⟩)
 unfold sWay_vc
 obtain ⟨hgs, hsl, hE, hfr⟩ := hp
 have hg1 : gs.length ≤ 1000 := by omega
 intro _
 refine ⟨fun l => l = startS gc gs fr, ⟨fun h => ?_, fun h => ?_⟩, ?_⟩
 ·refine ⟨hg1, capOk_of (by simp), ?_⟩
  show _ = startS gc gs fr
  unfold startS
  rw [if_pos h]
 ·show _ = startS gc gs fr
  unfold startS
  rw [if_neg (by rw [h]; decide), List.append_nil]
 rintro _ rfl
 have hst := start_len (gc := gc) (gs := gs) (fr := fr)
 refine ⟨fun i l => ∃ k : Nat, i = k ∧ k ≤ signs.length ∧ l = (signs.take k).foldl (stepW gc gs E) (startS gc gs fr), fun i _ => signs.length - i.toNat, ⟨0, rfl, Nat.zero_le _, rfl⟩, ?_⟩
 rintro i l ⟨k, rfl, hk, hl⟩
 have hlen : l.length ≤ 2 * (gs.length + 4) := by rw [hl]; exact fold_len (by omega)
 have hwo : ∀ w ∈ l, w.fOver.length ≤ 20 := fun w hw => by
  rw [hl] at hw
  have := (fold_ok hE (start_ok hE hfr) w hw).len
  rw [List.length_take] at this
  omega
 refine ⟨fun hb => ?_, fun hb => ?_⟩
 ·have hlt := dlt hb
  refine ⟨_, idx_at hlt, fun i m => ∃ j : Nat, i = j ∧ j ≤ l.length ∧ m = bestF E (gs.length + 4) signs[k] (l.take j) [], fun i _ => l.length - i.toNat, ⟨0, rfl, Nat.zero_le _, rfl⟩, ?_⟩
  rintro i m ⟨j, rfl, hj, rfl⟩
  refine ⟨fun hb2 => ?_, fun hb2 => ?_⟩
  ·have hjt := dlt hb2
   refine ⟨_, idx_at hjt, hg1, fun i m => ∃ t : Nat, i = t ∧ t ≤ gs.length + 4 ∧ m = rowS E l[j] signs[k] t (bestF E (gs.length + 4) signs[k] (l.take j) []), fun i _ => gs.length + 4 - i.toNat, ⟨0, rfl, Nat.zero_le _, rfl⟩, ?_⟩
   rintro i m ⟨t, rfl, ht, rfl⟩
   refine ⟨fun hb3 => ?_, fun hb3 => ?_⟩
   ·have htn : t < gs.length + 4 := by have := of_decide_eq_true hb3; unfold stsS at this; omega
    have hov := hwo l[j] (List.getElem_mem hjt)
    refine ⟨fun m => m = tryS E l[j] signs[k] (t : Int) (rowS E l[j] signs[k] t (bestF E (gs.length + 4) signs[k] (l.take j) [])), ⟨fun h => try_1 h, fun h => ⟨by omega, capOk_of (by simp only [List.length_cons, List.length_nil]; omega), fun h2 => try_2 h h2, fun h2 => try_3 h h2⟩⟩, ?_⟩
    rintro _ rfl
    exact ⟨⟨t + 1, wsucc (by omega), htn, rowS_succ.symm⟩, mu_up htn (by omega)⟩
   ·obtain rfl : t = gs.length + 4 := by have := of_decide_eq_false hb3; unfold stsS at this; omega
    exact ⟨⟨j + 1, wsucc (by omega), hjt, (fold_take (f := fun b w => rowS E w signs[k] (gs.length + 4) b) hjt).symm⟩, mu_up hjt (by omega)⟩
  ·obtain rfl : j = l.length := by have := dge hb2; omega
   rw [List.take_length]
   refine ⟨hg1, fun i l6 => ∃ t : Nat, i = t ∧ t ≤ gs.length + 4 ∧ l6 = outS gc gs (bestF E (gs.length + 4) signs[k] l []) t, fun i _ => gs.length + 4 - i.toNat, ⟨0, rfl, Nat.zero_le _, rfl⟩, ?_⟩
   rintro i l6 ⟨t, rfl, ht, rfl⟩
   refine ⟨fun hb3 => ?_, fun hb3 => ?_⟩
   ·have htn : t < gs.length + 4 := by have := of_decide_eq_true hb3; unfold stsS at this; omega
    have hol : (outS gc gs (bestF E (gs.length + 4) signs[k] l []) t).length ≤ 2 * t := out_len
    refine ⟨fun x => x = outS gc gs (bestF E (gs.length + 4) signs[k] l []) t ++ itemS gc gs (bestF E (gs.length + 4) signs[k] l []) (t : Int), ⟨fun h => ⟨capOk_of (by simp only [List.length_cons, List.length_nil]; omega), fun h2 => ⟨hg1, capOk_of (by simp only [List.length_append, List.length_cons, List.length_nil]; omega), ?_⟩, fun h2 => ?_⟩, fun h => ?_⟩, ?_⟩
    ·rw [item_1 h h2, ← List.append_assoc]
    ·rw [item_2 h h2]
    ·rw [item_3 h, List.append_nil]
    rintro _ rfl
    exact ⟨⟨t + 1, wsucc (by omega), htn, outS_succ.symm⟩, mu_up htn (by omega)⟩
   ·obtain rfl : t = gs.length + 4 := by have := of_decide_eq_false hb3; unfold stsS at this; omega
    refine ⟨⟨k + 1, wsucc (by omega), hlt, ?_⟩, mu_up hlt (by omega)⟩
    rw [fold_take hlt, ← hl]
    rfl
 ·have hge := dge hb
  rw [hl, List.take_of_length_le hge]
  rfl
def TldPre (gc : Int) (gs : List Int) (E : EMap) (R : List Int) (e : StackEdge) (n : Nat) : Prop := CostOk E ∧ (∀ e k, mget e E = some k → KOk E k) ∧ keyE E e ∧ costE E e < n ∧ n ≤ 3000 ∧ (R.length : Int) + costE E e ≤ 100000
def TldPost (gc : Int) (gs : List Int) (E : EMap) (R : List Int) (e : StackEdge) (r : List Int) : Prop := (r.length : Int) ≤ R.length + costE E e
def TldC (gc : Int) (gs : List Int) (E : EMap) (n : Nat) : Prop := ∀ (R : List Int) (e : StackEdge), TldPre gc gs E R e n → CtE 28 [.sv (.one (.ptr 0 0)), .sv (.agg [I e.fFrom, I e.fSign, I e.fTo]), .sv (.one (.own 2))] [.box [I gc, LS intT gs, .own 1] 127 false, mapI StackEdge.enc StackKnown.ty E, rowI 3 intT R] [0] (TldPost gc gs E R e) (fun (r : (List Int)) => .sv (.one (.own 2))) (fun (r : (List Int)) => [.box [I gc, LS intT gs, .own 1] 127 false, mapI StackEdge.enc StackKnown.ty E, rowI 3 intT r])
theorem en28 : ∀ args w, (callFunc 28 args).run Try.prog w = .ok (.enter 28 args) w := enters_of Try.func28 (by kernel_rfl) rfl
def sTld_vc (gc : Int) (gs : (List Int)) (E : (List (StackEdge × StackKnown))) (R : (List Int)) (e : StackEdge) (n : Nat) (Q : (List Int) → Prop) : Prop :=
 IfP (decide (((mget e E).getD (StackKnown.mk (0 : Int) (0 : Int) [])).fRule < 0)) (Q R) (capOk R.length (([((mget e E).getD (StackKnown.mk (0 : Int) (0 : Int) [])).fRule] : (List Int)) : (List Int)).length 8 ∧
 ∃ (Inv : Int → (List Int) → Prop) (mu : Int → (List Int) → Nat), Inv 0 (R ++ ([((mget e E).getD (StackKnown.mk (0 : Int) (0 : Int) [])).fRule] : (List Int))) ∧
 ∀ (x28 : Int) (l2 : (List Int)) , Inv x28 l2 → (IfP (decide (x28 < (((mget e E).getD (StackKnown.mk (0 : Int) (0 : Int) [])).fOver.length : Int))) (∃ e_2, idx ((mget e E).getD (StackKnown.mk (0 : Int) (0 : Int) [])).fOver x28 = some e_2 ∧
 (TldPre gc gs E l2 e_2 n) ∧
 ∀ r : (List Int), (TldPost gc gs E l2 e_2) r →
 ((Inv (wr (x28 + 1)) r ∧ mu (wr (x28 + 1)) r < mu x28 l2))) (Q l2)))
noncomputable abbrev qsTld0 := (StackKnown.mk (0 : Int) (0 : Int) [])
noncomputable abbrev qsTld1 (gc : Int) (gs : (List Int)) := (.box [I gc, LS intT gs, .own 1] 127 false : Item)
noncomputable abbrev qsTld2 (e : StackEdge) (E : (List (StackEdge × StackKnown))) := sl 27 (I (((mget e E).getD (qsTld0)).fOver.length : Int))
noncomputable abbrev qsTld3 (e : StackEdge) (E : (List (StackEdge × StackKnown))) := sl 26 (LS StackEdge.ty ((mget e E).getD (qsTld0)).fOver)
noncomputable abbrev qsTld4 (y0 : Nat → Nat) := sl 0 (.pptr 0 0 (y0 0))
noncomputable abbrev qsTld5 (e : StackEdge) (E : (List (StackEdge × StackKnown))) := (StackKnown.cl ((mget e E).getD (qsTld0)))
theorem sTld_walk (gc : Int) (gs : (List Int)) (E : (List (StackEdge × StackKnown))) (R : (List Int)) (e : StackEdge) (n : Nat) (ih : TldC gc gs E n) (Q : (List Int) → Prop) (h : sTld_vc gc gs E R e n Q) : CtE 28 [.sv (.one (.ptr 0 0)), .sv (.agg [I e.fFrom, I e.fSign, I e.fTo]), .sv (.one (.own 2))] [.box [I gc, LS intT gs, .own 1] 127 false, mapI StackEdge.enc StackKnown.ty E, rowI 3 intT R] [0] Q (fun (r : (List Int)) => .sv (.one (.own 2))) (fun (r : (List Int)) => [.box [I gc, LS intT gs, .own 1] 127 false, mapI StackEdge.enc StackKnown.ty E, rowI 3 intT r]) := by
 have ht := tab_ok
 refine CtE.body Try.func28 rfl rfl rfl (by kernel_rfl) (by kernel_rfl) (fun c Bk hn => ?_)
 unfold sTld_vc at h
 show En c ⟨[(qsTld4 Bk), (1, .sv (.agg (StackEdge.cl e))), sl 2 (.own 2)], [(qsTld1 gc gs), mapI StackEdge.enc StackKnown.ty E, rowI 3 intT R]⟩ _
 refine En.sr ?_
 refine WL.rn ht hn 2 ⟨[(qsTld4 Bk), sl 2 (.own 2), sl 4 (.ptr 3 0)], [(qsTld1 gc gs), mapI StackEdge.enc StackKnown.ty E, rowI 3 intT R, .box (StackEdge.cl e) 79 false]⟩ ?_
 refine En.seq ?_
 refine En.regionA ⟨[(qsTld4 Bk), sl 2 (.own 2), sl 4 (.ptr 3 0)], [.sv (.one (.ptr 0 0)), .sv (.one (.ptr 0 0)), .sv (.one (.ptr 0 2)), .sv (.one (.own 1)), .sv (.agg (StackEdge.cl e)), .sv (.agg (qsTld5 e E)), .sv (.one (.ptr 4 0)), .tup []], [⟨(qsTld1 gc gs), none, none, none⟩, ⟨mapI StackEdge.enc StackKnown.ty E, none, none, none⟩, ⟨rowI 3 intT R, none, none, none⟩, ⟨.box (StackEdge.cl e) 79 false, none, none, none⟩, ⟨.box [I 0, I 0, .v (.slice none 0 0)] 129 false, some 6, none, some (7, .box (qsTld5 e E) 129 false)⟩]⟩ ⟨[(qsTld4 Bk), sl 2 (.own 2), sl 7 (.ptr 4 0)], [(qsTld1 gc gs), mapI StackEdge.enc StackKnown.ty E, rowI 3 intT R, .gone, .box (qsTld5 e E) 129 false]⟩ (by kernel_rfl) hn (by kernel_rfl) (by rfl) (by kernel_rfl) ?_ (by kernel_rfl) ?_
 exact ⟨.ev ⟨[(qsTld4 Bk)], []⟩ ht,
 .ev ⟨[sl 10 (.ptr 0 0)], []⟩ ht,
 .ev ⟨[sl 11 (.ptr 0 0)], []⟩ ht,
 .ev ⟨[sl 12 (.ptr 0 2)], [(qsTld1 gc gs)]⟩ ht,
 .ev ⟨[sl 4 (.ptr 3 0)], [.gone, .gone, .gone, .box (StackEdge.cl e) 79 false]⟩ ht,
 .vl ⟨[sl 13 (.own 1), (14, .sv (.agg (StackEdge.cl e)))], [.gone, mapI StackEdge.enc StackKnown.ty E]⟩ (mt_val (val_lookup (T := StackKnown.ty) (D := E) StackEdge.keyLaw (k := e) (ok := false) (qsTld0) (zv := (.agg #[.int .i64 0, .int .i64 0, .slice none 0 0])) rfl Try.underlying125 (fun _ => by kernel_rfl) (fun _ => ⟨_, rfl, ⟨rfl, trivial⟩, trivial, ⟨rfl, trivial⟩, trivial, ls_nil, trivial, trivial⟩) (mapAs StackEdge.enc StackKnown.ty E) (by rfl) (by rfl) (by rfl) (fun _ => rfl))),
 .mt ⟨[], []⟩ [] (some 4) (by kernel_rfl) (by rfl) (mt_alloc2 4 129 ht rfl (by rfl) (by rfl)) rfl rfl rfl rfl,
 .mu ⟨[sl 7 (.ptr 4 0), (15, .sv (.agg (qsTld5 e E)))], [.gone, .gone, .gone, .gone, .box [I 0, I 0, .v (.slice none 0 0)] 129 false]⟩ 4 _ _ rfl rfl (by kernel_rfl) (by rfl) (mu_store2 ht rfl (by rfl) (by rfl) (by rfl) (by rfl) (fun h => by cases h) (by rfl) (by rfl)) rfl rfl rfl rfl rfl rfl rfl,
 trivial⟩
 refine En.seq ?_
 refine En.sr ?_
 refine WL.rn ht hn 3 ⟨[(qsTld4 Bk), sl 2 (.own 2), sl 7 (.ptr 4 0), sl 18 (B (decide (((mget e E).getD (qsTld0)).fRule < 0)))], [(qsTld1 gc gs), mapI StackEdge.enc StackKnown.ty E, rowI 3 intT R, .gone, .box (qsTld5 e E) 129 false]⟩ ?_
 refine En.cd (b := (decide (((mget e E).getD (qsTld0)).fRule < 0))) (fun hb => ?_) (fun hb => ?_)
 replace h := h.1 hb
 refine En.sr ?_
 refine WL.rn ht hn 2 ⟨[(qsTld4 Bk), sl 6 (.own 2)], [(qsTld1 gc gs), mapI StackEdge.enc StackKnown.ty E, rowI 3 intT R, .gone, .gone]⟩ ?_
 refine En.ret ?_
 exact En.backE [0] ht R h (by kernel_rfl) (by rfl) rfl
 replace h := h.2 hb
 refine En.skip ?_
 refine En.sr ?_
 refine WL.r ht hn 3 ⟨[(qsTld4 Bk), sl 7 (.ptr 4 0), sl 20 (.own 2), sl 22 (I ((mget e E).getD (qsTld0)).fRule)], [(qsTld1 gc gs), mapI StackEdge.enc StackKnown.ty E, rowI 3 intT R, .gone, .box (qsTld5 e E) 129 false]⟩ ?_
 refine WL.mt0 (K := []) (p := some (5, rowI 3 intT ([((mget e E).getD (qsTld0)).fRule] : (List Int)))) hn (by rfl) (mt_lit (T := intT) ([((mget e E).getD (qsTld0)).fRule] : (List Int)) (mt_bsl 5 (r := cellsOf intT ([((mget e E).getD (qsTld0)).fRule] : (List Int))) ht rfl (by rfl) (by rfl) (by rfl) (by kernel_rfl) (by rfl)) (fun _ h => by cases h) (fun _ => rfl) (fun _ => rfl) (by rfl) (Nat.le_of_ble_eq_true rfl)) (by rfl) (by rfl) (by rfl) ?_
 refine WL.seal (T := intT) (l := ([((mget e E).getD (qsTld0)).fRule] : (List Int))) (e := 3) 5 rfl ?_
 refine WL.r ht hn 0 ⟨[(qsTld4 Bk), sl 7 (.ptr 4 0), sl 20 (.own 2), sl 22 (I ((mget e E).getD (qsTld0)).fRule), sl 23 (LS intT ([((mget e E).getD (qsTld0)).fRule] : (List Int)))], [(qsTld1 gc gs), mapI StackEdge.enc StackKnown.ty E, rowI 3 intT R, .gone, .box (qsTld5 e E) 129 false, .gone]⟩ ?_
 obtain ⟨hp, h⟩ := h
 refine WL.mt (S2 := ⟨[(qsTld4 Bk), sl 7 (.ptr 4 0), sl 22 (I ((mget e E).getD (qsTld0)).fRule), sl 23 (LS intT ([((mget e E).getD (qsTld0)).fRule] : (List Int)))], [(qsTld1 gc gs), mapI StackEdge.enc StackKnown.ty E, rowI 3 intT R, .gone, .box (qsTld5 e E) 129 false, .gone]⟩) (K := [2]) (p := some (2, rowI 3 intT (R ++ ([((mget e E).getD (qsTld0)).fRule] : (List Int))))) hn (by rfl) (mt_append (T := intT) (l := R) (es := ([((mget e E).getD (qsTld0)).fRule] : (List Int))) ht rfl (by rfl) (by rfl) (by rfl) (by rfl) (by decide) (by rfl) (by rfl) (srcLS (T := intT) (es := ([((mget e E).getD (qsTld0)).fRule] : (List Int))) (fun _ h => by cases h) (by decide) (by rfl)) (by exact hp) (by exact hp.le (by decide))) (by kernel_rfl) (by rfl) (by rfl) (by rfl) ?_
 refine WL.rn ht hn 1 ⟨[(qsTld4 Bk), sl 2 (.own 2), sl 7 (.ptr 4 0)], [(qsTld1 gc gs), mapI StackEdge.enc StackKnown.ty E, rowI 3 intT (R ++ ([((mget e E).getD (qsTld0)).fRule] : (List Int))), .gone, .box (qsTld5 e E) 129 false, .gone]⟩ ?_
 refine En.seq ?_
 refine En.sr ?_
 refine WL.rn ht hn 4 ⟨[(qsTld4 Bk), sl 2 (.own 2), (qsTld3 e E), (qsTld2 e E), sl 28 (I 0)], [(qsTld1 gc gs), mapI StackEdge.enc StackKnown.ty E, rowI 3 intT (R ++ ([((mget e E).getD (qsTld0)).fRule] : (List Int))), .gone, .gone, .gone]⟩ ?_
 refine En.block ?_
 obtain ⟨Inv, mu, h0, hI⟩ := h
 refine En.loop (σ := Int × (List Int)) (fun zz => Inv zz.1 zz.2) (fun zz => mu zz.1 zz.2) (fun zz => ⟨[(qsTld4 Bk), sl 2 (.own 2), (qsTld3 e E), (qsTld2 e E), sl 28 (I zz.1)], [(qsTld1 gc gs), mapI StackEdge.enc StackKnown.ty E, rowI 3 intT zz.2, .gone, .gone, .gone]⟩) (0, (R ++ ([((mget e E).getD (qsTld0)).fRule] : (List Int)))) h0 (sub_ok (by kernel_rfl)) ?_
 rintro ⟨x28, l2⟩ h
 replace h := hI _ _ h
 show En c ⟨[(qsTld4 Bk), sl 2 (.own 2), (qsTld3 e E), (qsTld2 e E), sl 28 (I x28)], [(qsTld1 gc gs), mapI StackEdge.enc StackKnown.ty E, rowI 3 intT l2, .gone, .gone, .gone]⟩ _
 refine En.sr ?_
 refine WL.rn ht hn 1 ⟨[(qsTld4 Bk), sl 2 (.own 2), (qsTld3 e E), (qsTld2 e E), sl 28 (I x28), sl 29 (B (decide (x28 < (((mget e E).getD (qsTld0)).fOver.length : Int))))], [(qsTld1 gc gs), mapI StackEdge.enc StackKnown.ty E, rowI 3 intT l2, .gone, .gone, .gone]⟩ ?_
 refine En.seq ?_
 refine En.cd (b := (decide (x28 < (((mget e E).getD (qsTld0)).fOver.length : Int)))) (fun hb => ?_) (fun hb => ?_)
 replace h := h.1 hb
 refine En.skip ?_
 refine En.seq ?_
 refine En.block ?_
 refine En.sr ?_
 obtain ⟨e_2, he, h⟩ := h
 refine WL.v hn (val_ix (T := StackEdge.ty) (l := ((mget e E).getD (qsTld0)).fOver) (i := x28) ht rfl he) ?_
 refine WL.v hn (val_ld (s := .agg (StackEdge.cl e_2)) ht rfl) ?_
 refine WL.rn ht hn 2 ⟨[(qsTld4 Bk), sl 2 (.own 2), sl 9 (.ptr 6 0), (qsTld3 e E), (qsTld2 e E), sl 28 (I x28)], [(qsTld1 gc gs), mapI StackEdge.enc StackKnown.ty E, rowI 3 intT l2, .gone, .gone, .gone, .box (StackEdge.cl e_2) 79 false]⟩ ?_
 refine En.region ?_
 refine WL.r ht hn 3 ⟨[(qsTld4 Bk), (qsTld3 e E), (qsTld2 e E), sl 28 (I x28), sl 32 (.ptr 0 0), (33, .sv (.agg (StackEdge.cl e_2))), sl 34 (.own 2)], [(qsTld1 gc gs), mapI StackEdge.enc StackKnown.ty E, rowI 3 intT l2, .gone, .gone, .gone, .gone]⟩ ?_
 obtain ⟨hp, h⟩ := h
 refine WL.callQ [(qsTld4 Bk), (qsTld3 e E), (qsTld2 e E), sl 28 (I x28), sl 32 (.ptr 0 0), (33, .sv (.agg (StackEdge.cl e_2)))] (ih l2 e_2 hp) en28 (caps := []) [0, 1, 2] hn (by rfl) rfl (by rfl) (argsAs (by kernel_rfl) (by rfl)) (by kernel_rfl) (by decide) (by kernel_rfl) (by rfl) (by rfl) (fun r hr_2 => ⟨by rfl, _, by rfl, ?_⟩)
 replace h := h r hr_2
 refine WL.rn ht hn 1 ⟨[(qsTld4 Bk), sl 2 (.own 2), (qsTld3 e E), (qsTld2 e E), sl 28 (I x28)], [(qsTld1 gc gs), mapI StackEdge.enc StackKnown.ty E, rowI 3 intT r, .gone, .gone, .gone, .gone]⟩ ?_
 refine En.region ?_
 refine WL.rn ht hn 2 ⟨[(qsTld4 Bk), sl 2 (.own 2), (qsTld3 e E), (qsTld2 e E), sl 28 (I (wr (x28 + 1)))], [(qsTld1 gc gs), mapI StackEdge.enc StackKnown.ty E, rowI 3 intT r, .gone, .gone, .gone, .gone]⟩ ?_
 exact En.at (I := fun zz => Inv zz.1 zz.2 ∧ mu zz.1 zz.2 < mu x28 l2) (T := fun zz => ⟨[(qsTld4 Bk), sl 2 (.own 2), (qsTld3 e E), (qsTld2 e E), sl 28 (I zz.1)], [(qsTld1 gc gs), mapI StackEdge.enc StackKnown.ty E, rowI 3 intT zz.2, .gone, .gone, .gone]⟩) ((wr (x28 + 1)), r) h (by kernel_rfl)
 replace h := h.2 hb
 refine En.exit rfl ?_
 refine En.sr ?_
 refine WL.rn ht hn 2 ⟨[(qsTld4 Bk), sl 6 (.own 2)], [(qsTld1 gc gs), mapI StackEdge.enc StackKnown.ty E, rowI 3 intT l2, .gone, .gone, .gone]⟩ ?_
 refine En.ret ?_
 exact En.backE [0] ht l2 h (by kernel_rfl) (by rfl) rfl
theorem sumC_take {E : EMap} (h : CostOk E) {o : List StackEdge} {j : Nat} : sumC E (o.take j) ≤ sumC E o := by
 have h1 := sumC_nn h (o.drop j)
 have h2 : sumC E (o.take j ++ o.drop j) = _ := sumC_app
 rw [List.take_append_drop] at h2
 omega
theorem sumC_step {E : EMap} {o : List StackEdge} {j : Nat} (hj : j < o.length) : sumC E (o.take (j + 1)) = sumC E (o.take j) + costE E o[j] := by
 rw [List.take_add_one, List.getElem?_eq_getElem hj, sumC_app]
 exact congrArg _ sumC_one
theorem tld_ok {gc : Int} {gs : List Int} {E : EMap} {R : List Int} {e : StackEdge} {n : Nat} (hp : TldPre gc gs E R e (n + 1)) : sTld_vc gc gs E R e n (TldPost gc gs E R e) := by
 obtain ⟨hE, hK, he, hc, hn, hR⟩ := hp
 obtain ⟨k, hk⟩ := Option.isSome_iff_exists.1 he
 have hce : costE E e = k.fCost := by unfold costE; rw [hk]; rfl
 have hko := hK e k hk
 have hnn := hko.cost
 have hlen := hko.len
 unfold sTld_vc
 rw [hk]
 simp only [Option.getD_some]
 rw [hce] at hc hR
 refine ⟨fun _ => ?_, fun h => ?_⟩
 ·show (R.length : Int) ≤ R.length + costE E e
  omega
 have hru : ¬ k.fRule < 0 := of_decide_eq_false h
 obtain ⟨hkey, hsum⟩ := hko.ok.resolve_left hru
 have hs := hsum (by omega)
 refine ⟨capOk_of (by simp only [List.length_cons, List.length_nil]; omega), fun i l => ∃ j : Nat, i = j ∧ j ≤ k.fOver.length ∧ (l.length : Int) ≤ R.length + 1 + sumC E (k.fOver.take j), fun i _ => k.fOver.length - i.toNat, ⟨0, rfl, Nat.zero_le _, ?_⟩, ?_⟩
 ·rw [List.take_zero, List.length_append]
  show (((R.length + 1 : Nat)) : Int) ≤ R.length + 1 + 0
  omega
 rintro i l ⟨j, rfl, hj, hl⟩
 refine ⟨fun hb => ?_, fun hb => ?_⟩
 ·have hlt := dlt hb
  have hst := sumC_step (E := E) hlt
  have ht := sumC_take hE (o := k.fOver) (j := j + 1)
  have ht0 := sumC_nn hE (k.fOver.take j)
  refine ⟨_, idx_at hlt, ⟨hE, hK, hkey _ (List.getElem_mem hlt), by omega, by omega, by omega⟩, fun r hr => ⟨⟨j + 1, wsucc (by omega), hlt, ?_⟩, mu_up hlt (by omega)⟩⟩
  have hr : (r.length : Int) ≤ l.length + costE E k.fOver[j] := hr
  omega
 ·have ht := sumC_take hE (o := k.fOver) (j := j)
  show (l.length : Int) ≤ R.length + costE E e
  omega
theorem tldAll (gc : Int) (gs : List Int) (E : EMap) : ∀ n, TldC gc gs E n
 | 0 => fun R e hp => by
  have h1 := (costE_ok hp.1 e).1
  have h2 := hp.2.2.2.1
  exact absurd h2 (by omega)
 | n + 1 => fun R e hp => sTld_walk gc gs E R e n (tldAll gc gs E n) _ (tld_ok hp)
theorem sTld_ct (gc : Int) (gs : List Int) (E : EMap) (R : List Int) (e : StackEdge) (hp : TldPre gc gs E R e 2001) : CtE 28 [.sv (.one (.ptr 0 0)), .sv (.agg [I e.fFrom, I e.fSign, I e.fTo]), .sv (.one (.own 2))] [.box [I gc, LS intT gs, .own 1] 127 false, mapI StackEdge.enc StackKnown.ty E, rowI 3 intT R] [0] (TldPost gc gs E R e) (fun (r : (List Int)) => .sv (.one (.own 2))) (fun (r : (List Int)) => [.box [I gc, LS intT gs, .own 1] 127 false, mapI StackEdge.enc StackKnown.ty E, rowI 3 intT r]) := tldAll gc gs E 2001 R e hp
def sFnd_vc (l : (List ApiPush)) (goal : ApiConfig) (Q : (List (StackEdge × StackKnown)) → Prop) : Prop :=
 l.length ≤ 9223372036854775807 →
 goal.fStack.length ≤ 9223372036854775807 →
 (∃ (Inv : Int → (List (StackEdge × StackKnown)) → Prop) (mu : Int → (List (StackEdge × StackKnown)) → Nat), Inv 0 ([] : List (StackEdge × StackKnown)) ∧
 ∀ (x25 : Int) (m1 : (List (StackEdge × StackKnown))) , Inv x25 m1 → (IfP (decide (x25 < (goal.fStack.length : Int))) (∃ e, idx goal.fStack x25 = some e ∧
 ∃ J : (List (StackEdge × StackKnown)) → Prop, (IfP (x25 == 0) (J (mput (StackEdge.mk goal.fControl e (wr ((wr (3 + x25)) + 1))) (StackKnown.mk (-1) 0 []) m1)) (J m1)) ∧
 (∀ (m1_2 : (List (StackEdge × StackKnown))), J m1_2 → (Inv (wr (x25 + 1)) (mput (StackEdge.mk (wr (3 + x25)) e (wr ((wr (3 + x25)) + 1))) (StackKnown.mk (-1) 0 []) m1_2) ∧ mu (wr (x25 + 1)) (mput (StackEdge.mk (wr (3 + x25)) e (wr ((wr (3 + x25)) + 1))) (StackKnown.mk (-1) 0 []) m1_2) < mu x25 m1))) (∃ (Inv_2 : Bool → (List (StackEdge × StackKnown)) → Prop) (mu_2 : Bool → (List (StackEdge × StackKnown)) → Nat), Inv_2 true m1 ∧
 ∀ (x9 : Bool) (m1_3 : (List (StackEdge × StackKnown))) , Inv_2 x9 m1_3 → (IfP x9 (∃ (Inv_3 : Bool → Int → (List (StackEdge × StackKnown)) → Prop) (mu_3 : Bool → Int → (List (StackEdge × StackKnown)) → Nat), Inv_3 false 0 m1_3 ∧
 ∀ (x9_2 : Bool) (x59 : Int) (m1_4 : (List (StackEdge × StackKnown))) , Inv_3 x9_2 x59 m1_4 → (IfP (decide (x59 < (l.length : Int))) (∃ e_2, idx l x59 = some e_2 ∧
 (WayPre goal.fControl goal.fStack m1_4 e_2.fTo e_2.fPut) ∧
 ∃ (Inv_4 : Bool → Int → (List (StackEdge × StackKnown)) → Prop) (mu_4 : Bool → Int → (List (StackEdge × StackKnown)) → Nat), Inv_4 x9_2 0 m1_4 ∧
 ∀ (x9_3 : Bool) (x71 : Int) (m1_5 : (List (StackEdge × StackKnown))) , Inv_4 x9_3 x71 m1_5 → (IfP (decide (x71 < ((waysS goal.fControl goal.fStack m1_4 e_2.fTo e_2.fPut).length : Int))) (∃ J_2 : Bool → (List (StackEdge × StackKnown)) → Prop, (∃ e_3, idx (waysS goal.fControl goal.fStack m1_4 e_2.fTo e_2.fPut) x71 = some e_3 ∧
 IfP ((!(mget (StackEdge.mk e_2.fFrom e_2.fTop e_3.fTo) m1_5).isSome) || (decide ((wr (e_3.fCost + 1)) < ((mget (StackEdge.mk e_2.fFrom e_2.fTop e_3.fTo) m1_5).getD (StackKnown.mk (0 : Int) (0 : Int) [])).fCost))) (J_2 true (mput (StackEdge.mk e_2.fFrom e_2.fTop e_3.fTo) (StackKnown.mk x59 (if 1099511627776 < (wr (e_3.fCost + 1)) then 1099511627776 else (wr (e_3.fCost + 1))) e_3.fOver) m1_5)) (J_2 x9_3 m1_5)) ∧
 (∀ (x9_4 : Bool) (m1_6 : (List (StackEdge × StackKnown))), J_2 x9_4 m1_6 → (Inv_4 x9_4 (wr (x71 + 1)) m1_6 ∧ mu_4 x9_4 (wr (x71 + 1)) m1_6 < mu_4 x9_3 x71 m1_5))) ((Inv_3 x9_3 (wr (x59 + 1)) m1_5 ∧ mu_3 x9_3 (wr (x59 + 1)) m1_5 < mu_3 x9_2 x59 m1_4)))) ((Inv_2 x9_2 m1_4 ∧ mu_2 x9_2 m1_4 < mu_2 x9 m1_3)))) (Q m1_3)))))
noncomputable abbrev qsFnd0 (goal : ApiConfig) := (.box [I goal.fControl, LS intT goal.fStack, .own 1] 127 false : Item)
noncomputable abbrev qsFnd1 (goal : ApiConfig) (y0) (y1 : Int) (y2) := sl 70 (I ((waysS goal.fControl goal.fStack y0 y1 y2).length : Int))
noncomputable abbrev qsFnd2 (goal : ApiConfig) (y0) (y1 : Int) (y2) := sl 69 (LS StackWay.ty (waysS goal.fControl goal.fStack y0 y1 y2))
noncomputable abbrev qsFnd3 (l : (List ApiPush)) (goal : ApiConfig) (y0 : Int) (y1 : Int) := ([sl 0 (LS ApiPush.ty l), sl 3 (.ptr 0 0), sl 5 (.ptr 2 0), sl 7 (I y0), sl 8 (I (wr (3 + y1))), sl 23 (LS intT goal.fStack), sl 24 (I (goal.fStack.length : Int)), sl 25 (I y1)] : List (Nat × SC))
noncomputable abbrev qsFnd4 (l : (List ApiPush)) := sl 0 (LS ApiPush.ty l)
noncomputable abbrev qsFnd5 (l : (List ApiPush)) := sl 58 (I (l.length : Int))
noncomputable abbrev qsFnd6 := (StackKnown.mk (0 : Int) (0 : Int) [])
noncomputable abbrev qsFnd7 (l : (List ApiPush)) := sl 57 (LS ApiPush.ty l)
noncomputable abbrev qsFnd8 := sl 5 (.ptr 2 0)
noncomputable abbrev qsFnd9 (goal : ApiConfig) (y0) := ([.box (ApiConfig.cl goal) 39 false, mapI StackEdge.enc StackKnown.ty y0, (qsFnd0 goal)] : List Item)
noncomputable abbrev qsFnd10 (goal : ApiConfig) := sl 24 (I (goal.fStack.length : Int))
noncomputable abbrev qsFnd11 := sl 11 (.ptr 3 0)
noncomputable abbrev qsFnd12 := (StackEdge × StackKnown)
noncomputable abbrev qsFnd13 (goal : ApiConfig) (y0) (y1) := ([.gone, mapI StackEdge.enc StackKnown.ty y0, (qsFnd0 goal), .box (ApiPush.cl y1) 41 false, .gone, .gone, .gone] : List Item)
noncomputable abbrev qsFnd14 (goal : ApiConfig) (y0) := ([.gone, mapI StackEdge.enc StackKnown.ty y0, (qsFnd0 goal)] : List Item)
noncomputable abbrev qsFnd15 (y0 : Int) := (wr ((wr (3 + y0)) + 1))
set_option maxHeartbeats 2000000 in
theorem sFnd_walk (l : (List ApiPush)) (goal : ApiConfig) (Q : (List (StackEdge × StackKnown)) → Prop) (h : sFnd_vc l goal Q) : CtE 25 [.sv (.one (LS ApiPush.ty l)), .sv (.agg [I goal.fControl, LS intT goal.fStack])] [] [] Q (fun (r : (List (StackEdge × StackKnown))) => .sv (.one (.ptr 0 0))) (fun (r : (List (StackEdge × StackKnown))) => [.box [I goal.fControl, LS intT goal.fStack, .own 1] 127 false, mapI StackEdge.enc StackKnown.ty r]) := by
 have ht := tab_ok
 refine CtE.body Try.func25 rfl rfl rfl (by kernel_rfl) (by kernel_rfl) (fun c Bk hn => ?_)
 unfold sFnd_vc at h
 show En c ⟨[(qsFnd4 l), (1, .sv (.agg (ApiConfig.cl goal)))], []⟩ _
 refine En.lenL 0 (by rfl) (fun hl => ?_)
 replace h := h hl
 clear hl
 refine En.lenA 1 1 (by rfl) (by rfl) (fun hl => ?_)
 replace h := h hl
 clear hl
 refine En.sr ?_
 refine WL.rn ht hn 2 ⟨[(qsFnd4 l), sl 3 (.ptr 0 0)], [.box (ApiConfig.cl goal) 39 false]⟩ ?_
 refine En.sr ?_
 refine WL.r ht hn 1 ⟨[(qsFnd4 l), sl 3 (.ptr 0 0), (18, .sv (.agg (ApiConfig.cl goal)))], [.box (ApiConfig.cl goal) 39 false]⟩ ?_
 refine WL.mt0 (K := []) (p := some (1, mapI StackEdge.enc StackKnown.ty ([] : List (qsFnd12)))) hn (by rfl) (mt_makeMap StackEdge.enc StackKnown.ty 1 rfl) (by rfl) (by rfl) (by rfl) ?_
 refine WL.rn ht hn 3 ⟨[(qsFnd4 l), sl 3 (.ptr 0 0), (qsFnd8)], [.box (ApiConfig.cl goal) 39 false, mapI StackEdge.enc StackKnown.ty ([] : List (qsFnd12)), (qsFnd0 goal)]⟩ ?_
 refine En.seq ?_
 refine En.sr ?_
 refine WL.rn ht hn 4 ⟨[(qsFnd4 l), sl 3 (.ptr 0 0), (qsFnd8), sl 23 (LS intT goal.fStack), (qsFnd10 goal), sl 25 (I 0)], [.box (ApiConfig.cl goal) 39 false, mapI StackEdge.enc StackKnown.ty ([] : List (qsFnd12)), (qsFnd0 goal)]⟩ ?_
 refine En.block ?_
 obtain ⟨Inv, mu, h0_4, hI_4⟩ := h
 refine En.loop (σ := Int × (List (qsFnd12))) (fun zz => Inv zz.1 zz.2) (fun zz => mu zz.1 zz.2) (fun zz => ⟨[(qsFnd4 l), sl 3 (.ptr 0 0), (qsFnd8), sl 23 (LS intT goal.fStack), (qsFnd10 goal), sl 25 (I zz.1)], [.box (ApiConfig.cl goal) 39 false, mapI StackEdge.enc StackKnown.ty zz.2, (qsFnd0 goal)]⟩) (0, ([] : List (qsFnd12))) h0_4 (sub_ok (by kernel_rfl)) ?_
 rintro ⟨x25, m1⟩ h
 replace h := hI_4 _ _ h
 show En c ⟨[(qsFnd4 l), sl 3 (.ptr 0 0), (qsFnd8), sl 23 (LS intT goal.fStack), (qsFnd10 goal), sl 25 (I x25)], (qsFnd9 goal m1)⟩ _
 refine En.sr ?_
 refine WL.rn ht hn 1 ⟨[(qsFnd4 l), sl 3 (.ptr 0 0), (qsFnd8), sl 23 (LS intT goal.fStack), (qsFnd10 goal), sl 25 (I x25), sl 26 (B (decide (x25 < (goal.fStack.length : Int))))], (qsFnd9 goal m1)⟩ ?_
 refine En.seq ?_
 refine En.cd (b := (decide (x25 < (goal.fStack.length : Int)))) (fun hb => ?_) (fun hb => ?_)
 replace h := h.1 hb
 refine En.skip ?_
 refine En.seq ?_
 refine En.block ?_
 refine En.sr ?_
 refine WL.r ht hn 1 ⟨[(qsFnd4 l), sl 3 (.ptr 0 0), (qsFnd8), sl 23 (LS intT goal.fStack), (qsFnd10 goal), sl 25 (I x25), sl 27 (I x25)], (qsFnd9 goal m1)⟩ ?_
 obtain ⟨e, he, h⟩ := h
 refine WL.v hn (val_ix (T := intT) (l := goal.fStack) (i := x25) ht rfl he) ?_
 refine WL.v hn (val_ld (s := .one (I e)) ht rfl) ?_
 refine WL.rn ht hn 2 ⟨[(qsFnd4 l), sl 3 (.ptr 0 0), (qsFnd8), sl 6 (I x25), sl 7 (I e), sl 23 (LS intT goal.fStack), (qsFnd10 goal), sl 25 (I x25)], (qsFnd9 goal m1)⟩ ?_
 refine En.sr ?_
 refine WL.rn ht hn 3 ⟨[(qsFnd4 l), sl 3 (.ptr 0 0), (qsFnd8), sl 6 (I x25), sl 7 (I e), sl 8 (I (wr (3 + x25))), sl 23 (LS intT goal.fStack), (qsFnd10 goal), sl 25 (I x25)], (qsFnd9 goal m1)⟩ ?_
 obtain ⟨J, h, hJ⟩ := h
 refine En.seqJ (σ := (List (qsFnd12))) (fun zz => J zz) (fun zz => ⟨(qsFnd3 l goal e x25), [.box (ApiConfig.cl goal) 39 false, mapI StackEdge.enc StackKnown.ty zz, (qsFnd0 goal)]⟩) ?_ ?_
 refine En.sr ?_
 refine WL.rn ht hn 2 ⟨[(qsFnd4 l), sl 3 (.ptr 0 0), (qsFnd8), sl 7 (I e), sl 8 (I (wr (3 + x25))), sl 23 (LS intT goal.fStack), (qsFnd10 goal), sl 25 (I x25), sl 33 (B (x25 == 0))], (qsFnd9 goal m1)⟩ ?_
 refine En.cd (b := (x25 == 0)) (fun hb => ?_) (fun hb => ?_)
 replace h := h.1 hb
 refine En.regionA ⟨(qsFnd3 l goal e x25), [.sv (.one (.ptr 2 0)), .sv (.one (.ptr 2 0)), .sv (.one (.ptr 2 2)), .sv (.one (.own 1)), .sv (.one (.ptr 0 0)), .sv (.one (I goal.fControl)), .sv (.one (I e)), .sv (.one (I (wr (3 + x25)))), .sv (.one (I (qsFnd15 x25))), .sv (.agg [I goal.fControl, I e, I (qsFnd15 x25)]), .sv (.agg [I (-1), I 0, LS StackEdge.ty []]), .tup []], [⟨.box (ApiConfig.cl goal) 39 false, none, none, none⟩, ⟨mapI StackEdge.enc StackKnown.ty m1, none, none, some (11, mapI StackEdge.enc StackKnown.ty (mput (StackEdge.mk goal.fControl e (qsFnd15 x25)) (StackKnown.mk (-1) 0 []) m1))⟩, ⟨(qsFnd0 goal), none, none, none⟩]⟩ ⟨(qsFnd3 l goal e x25), [.box (ApiConfig.cl goal) 39 false, mapI StackEdge.enc StackKnown.ty (mput (StackEdge.mk goal.fControl e (qsFnd15 x25)) (StackKnown.mk (-1) 0 []) m1), (qsFnd0 goal)]⟩ (by kernel_rfl) hn (by kernel_rfl) (by rfl) (by kernel_rfl) ?_ (by kernel_rfl) ?_
 exact ⟨.ev ⟨[(qsFnd8)], []⟩ ht,
 .ev ⟨[sl 34 (.ptr 2 0)], []⟩ ht,
 .ev ⟨[sl 35 (.ptr 2 0)], []⟩ ht,
 .ev ⟨[sl 36 (.ptr 2 2)], [.gone, .gone, (qsFnd0 goal)]⟩ ht,
 .ev ⟨[sl 3 (.ptr 0 0)], []⟩ ht,
 .ev ⟨[sl 38 (.ptr 0 0)], [.box (ApiConfig.cl goal) 39 false]⟩ ht,
 .ev ⟨[sl 7 (I e)], []⟩ ht,
 .ev ⟨[sl 8 (I (wr (3 + x25)))], []⟩ ht,
 .ev ⟨[sl 41 (I (wr (3 + x25)))], []⟩ ht,
 .ev ⟨[sl 39 (I goal.fControl), sl 40 (I e), sl 42 (I (qsFnd15 x25))], []⟩ ht,
 .mt ⟨[], []⟩ [] none (by kernel_rfl) (by rfl) (mt_weaken (mt_ev ht (by kernel_rfl)) (nil_Agg (T := StackEdge.ty) (cells := [I (-1), I 0, .v (.slice none 0 0)]) 2 rfl)) rfl rfl rfl rfl,
 .mu ⟨[sl 37 (.own 1), (43, .sv (.agg [I goal.fControl, I e, I (qsFnd15 x25)])), (44, .sv (.agg [I (-1), I 0, LS StackEdge.ty []]))], [.gone, mapI StackEdge.enc StackKnown.ty m1]⟩ 1 _ _ rfl rfl (by kernel_rfl) (by rfl) (mu_mapPut (T := StackKnown.ty) StackEdge.keyLaw (k := (StackEdge.mk goal.fControl e (qsFnd15 x25))) (y := (StackKnown.mk (-1) 0 [])) (.inl rfl) Try.underlying125 (by rfl) (by rfl) (by rfl) (by rfl) (by rfl)) rfl rfl rfl rfl rfl rfl rfl,
 trivial⟩
 exact En.at (I := fun zz => J zz) (T := fun zz => ⟨(qsFnd3 l goal e x25), [.box (ApiConfig.cl goal) 39 false, mapI StackEdge.enc StackKnown.ty zz, (qsFnd0 goal)]⟩) (mput (StackEdge.mk goal.fControl e (qsFnd15 x25)) (StackKnown.mk (-1) 0 []) m1) h (by kernel_rfl)
 replace h := h.2 hb
 refine En.skip ?_
 exact En.at (I := fun zz => J zz) (T := fun zz => ⟨(qsFnd3 l goal e x25), [.box (ApiConfig.cl goal) 39 false, mapI StackEdge.enc StackKnown.ty zz, (qsFnd0 goal)]⟩) m1 h (by kernel_rfl)
 intro m1_2 h
 replace h := hJ _ h
 show En c ⟨(qsFnd3 l goal e x25), [.box (ApiConfig.cl goal) 39 false, mapI StackEdge.enc StackKnown.ty m1_2, (qsFnd0 goal)]⟩ _
 refine En.region ?_
 refine WL.r ht hn 10 ⟨[(qsFnd4 l), sl 3 (.ptr 0 0), (qsFnd8), sl 23 (LS intT goal.fStack), (qsFnd10 goal), sl 25 (I x25), sl 48 (.own 1), (53, .sv (.agg [I (wr (3 + x25)), I e, I (qsFnd15 x25)])), (54, .sv (.agg [I (-1), I 0, .v (.slice none 0 0)]))], [.box (ApiConfig.cl goal) 39 false, mapI StackEdge.enc StackKnown.ty m1_2, (qsFnd0 goal)]⟩ ?_
 refine WL.nilAgg (T := StackEdge.ty) 54 2 (by rfl) (by rfl) ?_
 refine WL.mapPut (T := StackKnown.ty) StackEdge.keyLaw (k := (StackEdge.mk (wr (3 + x25)) e (qsFnd15 x25))) (y := (StackKnown.mk (-1) 0 [])) hn (by rfl) (.inl rfl) Try.underlying125 (by rfl) (by rfl) (by rfl) (by rfl) (by rfl) (by rfl) ?_
 refine WL.nil ?_
 refine En.region ?_
 refine WL.rn ht hn 2 ⟨[(qsFnd4 l), sl 3 (.ptr 0 0), (qsFnd8), sl 23 (LS intT goal.fStack), (qsFnd10 goal), sl 25 (I (wr (x25 + 1)))], [.box (ApiConfig.cl goal) 39 false, mapI StackEdge.enc StackKnown.ty (mput (StackEdge.mk (wr (3 + x25)) e (qsFnd15 x25)) (StackKnown.mk (-1) 0 []) m1_2), (qsFnd0 goal)]⟩ ?_
 exact En.at (I := fun zz => Inv zz.1 zz.2 ∧ mu zz.1 zz.2 < mu x25 m1) (T := fun zz => ⟨[(qsFnd4 l), sl 3 (.ptr 0 0), (qsFnd8), sl 23 (LS intT goal.fStack), (qsFnd10 goal), sl 25 (I zz.1)], [.box (ApiConfig.cl goal) 39 false, mapI StackEdge.enc StackKnown.ty zz.2, (qsFnd0 goal)]⟩) ((wr (x25 + 1)), (mput (StackEdge.mk (wr (3 + x25)) e (qsFnd15 x25)) (StackKnown.mk (-1) 0 []) m1_2)) h (by kernel_rfl)
 replace h := h.2 hb
 refine En.exit rfl ?_
 refine En.seq ?_
 refine En.sr ?_
 refine WL.rn ht hn 1 ⟨[(qsFnd4 l), (qsFnd8), sl 9 (B true)], [.gone, mapI StackEdge.enc StackKnown.ty m1, (qsFnd0 goal)]⟩ ?_
 refine En.block ?_
 obtain ⟨Inv_2, mu_2, h0_3, hI_3⟩ := h
 refine En.loop (σ := Bool × (List (qsFnd12))) (fun zz => Inv_2 zz.1 zz.2) (fun zz => mu_2 zz.1 zz.2) (fun zz => ⟨[(qsFnd4 l), (qsFnd8), sl 9 (B zz.1)], [.gone, mapI StackEdge.enc StackKnown.ty zz.2, (qsFnd0 goal)]⟩) (true, m1) h0_3 (sub_ok (by kernel_rfl)) ?_
 rintro ⟨x9, m1_3⟩ h
 replace h := hI_3 _ _ h
 show En c ⟨[(qsFnd4 l), (qsFnd8), sl 9 (B x9)], (qsFnd14 goal m1_3)⟩ _
 refine En.seq ?_
 refine En.sr ?_
 refine WL.rn ht hn 1 ⟨[(qsFnd4 l), (qsFnd8), sl 56 (B x9)], (qsFnd14 goal m1_3)⟩ ?_
 refine En.cd (b := x9) (fun hb => ?_) (fun hb => ?_)
 replace h := h.1 hb
 refine En.skip ?_
 refine En.block ?_
 refine En.sr ?_
 refine WL.rn ht hn 1 ⟨[(qsFnd4 l), (qsFnd8), sl 9 (B false)], (qsFnd14 goal m1_3)⟩ ?_
 refine En.sr ?_
 refine WL.rn ht hn 3 ⟨[(qsFnd4 l), (qsFnd8), sl 9 (B false), (qsFnd7 l), (qsFnd5 l), sl 59 (I 0)], (qsFnd14 goal m1_3)⟩ ?_
 refine En.block ?_
 obtain ⟨Inv_3, mu_3, h0_2, hI_2⟩ := h
 refine En.loop (σ := Bool × Int × (List (qsFnd12))) (fun zz => Inv_3 zz.1 zz.2.1 zz.2.2) (fun zz => mu_3 zz.1 zz.2.1 zz.2.2) (fun zz => ⟨[(qsFnd4 l), (qsFnd8), sl 9 (B zz.1), (qsFnd7 l), (qsFnd5 l), sl 59 (I zz.2.1)], [.gone, mapI StackEdge.enc StackKnown.ty zz.2.2, (qsFnd0 goal)]⟩) (false, 0, m1_3) h0_2 (sub_ok (by kernel_rfl)) ?_
 rintro ⟨x9_2, x59, m1_4⟩ h
 replace h := hI_2 _ _ _ h
 show En c ⟨[(qsFnd4 l), (qsFnd8), sl 9 (B x9_2), (qsFnd7 l), (qsFnd5 l), sl 59 (I x59)], [.gone, mapI StackEdge.enc StackKnown.ty m1_4, (qsFnd0 goal)]⟩ _
 refine En.sr ?_
 refine WL.rn ht hn 1 ⟨[(qsFnd4 l), (qsFnd8), sl 9 (B x9_2), (qsFnd7 l), (qsFnd5 l), sl 59 (I x59), sl 60 (B (decide (x59 < (l.length : Int))))], [.gone, mapI StackEdge.enc StackKnown.ty m1_4, (qsFnd0 goal)]⟩ ?_
 refine En.seq ?_
 refine En.cd (b := (decide (x59 < (l.length : Int)))) (fun hb => ?_) (fun hb => ?_)
 replace h := h.1 hb
 refine En.skip ?_
 refine En.seq ?_
 refine En.block ?_
 refine En.sr ?_
 refine WL.r ht hn 1 ⟨[(qsFnd4 l), (qsFnd8), sl 9 (B x9_2), (qsFnd7 l), (qsFnd5 l), sl 59 (I x59), sl 61 (I x59)], [.gone, mapI StackEdge.enc StackKnown.ty m1_4, (qsFnd0 goal)]⟩ ?_
 obtain ⟨e_2, he_2, h⟩ := h
 refine WL.v hn (val_ix (T := ApiPush.ty) (l := l) (i := x59) ht rfl he_2) ?_
 refine WL.v hn (val_ld (s := .agg (ApiPush.cl e_2)) ht rfl) ?_
 refine WL.rn ht hn 3 ⟨[(qsFnd4 l), (qsFnd8), sl 9 (B x9_2), sl 10 (I x59), (qsFnd11), (qsFnd7 l), (qsFnd5 l), sl 59 (I x59)], [.gone, mapI StackEdge.enc StackKnown.ty m1_4, (qsFnd0 goal), .box (ApiPush.cl e_2) 41 false]⟩ ?_
 refine En.sr ?_
 refine WL.r ht hn 5 ⟨[(qsFnd4 l), (qsFnd8), sl 9 (B x9_2), sl 10 (I x59), (qsFnd11), (qsFnd7 l), (qsFnd5 l), sl 59 (I x59), sl 64 (.ptr 2 0), sl 66 (I e_2.fTo), sl 68 (LS intT e_2.fPut)], [.gone, mapI StackEdge.enc StackKnown.ty m1_4, (qsFnd0 goal), .box (ApiPush.cl e_2) 41 false]⟩ ?_
 obtain ⟨hp, h⟩ := h
 refine WL.cE (sWay_ct goal.fControl goal.fStack m1_4 e_2.fTo e_2.fPut hp) en26 [2, 1] hn rfl ?_
 refine WL.rn ht hn 2 ⟨[(qsFnd4 l), (qsFnd8), sl 9 (B x9_2), sl 10 (I x59), (qsFnd11), (qsFnd7 l), (qsFnd5 l), sl 59 (I x59), (qsFnd2 goal m1_4 e_2.fTo e_2.fPut), (qsFnd1 goal m1_4 e_2.fTo e_2.fPut), sl 71 (I 0)], [.gone, mapI StackEdge.enc StackKnown.ty m1_4, (qsFnd0 goal), .box (ApiPush.cl e_2) 41 false]⟩ ?_
 refine En.block ?_
 obtain ⟨Inv_4, mu_4, h0, hI⟩ := h
 refine En.loop (σ := Bool × Int × (List (qsFnd12))) (fun zz => Inv_4 zz.1 zz.2.1 zz.2.2) (fun zz => mu_4 zz.1 zz.2.1 zz.2.2) (fun zz => ⟨[(qsFnd4 l), (qsFnd8), sl 9 (B zz.1), sl 10 (I x59), (qsFnd11), (qsFnd7 l), (qsFnd5 l), sl 59 (I x59), (qsFnd2 goal m1_4 e_2.fTo e_2.fPut), (qsFnd1 goal m1_4 e_2.fTo e_2.fPut), sl 71 (I zz.2.1)], [.gone, mapI StackEdge.enc StackKnown.ty zz.2.2, (qsFnd0 goal), .box (ApiPush.cl e_2) 41 false]⟩) (x9_2, 0, m1_4) h0 (sub_ok (by kernel_rfl)) ?_
 rintro ⟨x9_3, x71, m1_5⟩ h
 replace h := hI _ _ _ h
 show En c ⟨[(qsFnd4 l), (qsFnd8), sl 9 (B x9_3), sl 10 (I x59), (qsFnd11), (qsFnd7 l), (qsFnd5 l), sl 59 (I x59), (qsFnd2 goal m1_4 e_2.fTo e_2.fPut), (qsFnd1 goal m1_4 e_2.fTo e_2.fPut), sl 71 (I x71)], [.gone, mapI StackEdge.enc StackKnown.ty m1_5, (qsFnd0 goal), .box (ApiPush.cl e_2) 41 false]⟩ _
 refine En.sr ?_
 refine WL.rn ht hn 1 ⟨[(qsFnd4 l), (qsFnd8), sl 9 (B x9_3), sl 10 (I x59), (qsFnd11), (qsFnd7 l), (qsFnd5 l), sl 59 (I x59), (qsFnd2 goal m1_4 e_2.fTo e_2.fPut), (qsFnd1 goal m1_4 e_2.fTo e_2.fPut), sl 71 (I x71), sl 72 (B (decide (x71 < ((waysS goal.fControl goal.fStack m1_4 e_2.fTo e_2.fPut).length : Int))))], [.gone, mapI StackEdge.enc StackKnown.ty m1_5, (qsFnd0 goal), .box (ApiPush.cl e_2) 41 false]⟩ ?_
 refine En.seq ?_
 refine En.cd (b := (decide (x71 < ((waysS goal.fControl goal.fStack m1_4 e_2.fTo e_2.fPut).length : Int)))) (fun hb => ?_) (fun hb => ?_)
 replace h := h.1 hb
 refine En.skip ?_
 obtain ⟨J_2, h, hJ_2⟩ := h
 refine En.seqJ (σ := Bool × (List (qsFnd12))) (fun zz => J_2 zz.1 zz.2) (fun zz => ⟨[(qsFnd4 l), (qsFnd8), sl 9 (B zz.1), sl 10 (I x59), (qsFnd11), (qsFnd7 l), (qsFnd5 l), sl 59 (I x59), (qsFnd2 goal m1_4 e_2.fTo e_2.fPut), (qsFnd1 goal m1_4 e_2.fTo e_2.fPut), sl 71 (I x71)], (qsFnd13 goal zz.2 e_2)⟩) ?_ ?_
 refine En.block ?_
 refine En.sr ?_
 obtain ⟨e_3, he_3, h⟩ := h
 refine WL.v hn (val_ix (T := StackWay.ty) (l := (waysS goal.fControl goal.fStack m1_4 e_2.fTo e_2.fPut)) (i := x71) ht rfl he_3) ?_
 refine WL.v hn (val_ld (s := .agg (StackWay.cl e_3)) ht rfl) ?_
 refine WL.rn ht hn 2 ⟨[(qsFnd4 l), (qsFnd8), sl 9 (B x9_3), sl 10 (I x59), (qsFnd11), sl 13 (.ptr 4 0), (qsFnd7 l), (qsFnd5 l), sl 59 (I x59), (qsFnd2 goal m1_4 e_2.fTo e_2.fPut), (qsFnd1 goal m1_4 e_2.fTo e_2.fPut), sl 71 (I x71)], [.gone, mapI StackEdge.enc StackKnown.ty m1_5, (qsFnd0 goal), .box (ApiPush.cl e_2) 41 false, .box (StackWay.cl e_3) 76 false]⟩ ?_
 refine En.sr ?_
 refine WL.rn ht hn 9 ⟨[(qsFnd4 l), (qsFnd8), sl 9 (B x9_3), sl 10 (I x59), (qsFnd11), sl 13 (.ptr 4 0), sl 14 (.ptr 5 0), (qsFnd7 l), (qsFnd5 l), sl 59 (I x59), (qsFnd2 goal m1_4 e_2.fTo e_2.fPut), (qsFnd1 goal m1_4 e_2.fTo e_2.fPut), sl 71 (I x71)], [.gone, mapI StackEdge.enc StackKnown.ty m1_5, (qsFnd0 goal), .box (ApiPush.cl e_2) 41 false, .box (StackWay.cl e_3) 76 false, .box [I e_2.fFrom, I e_2.fTop, I e_3.fTo] 79 false]⟩ ?_
 refine En.seq ?_
 refine En.regionA ⟨[(qsFnd4 l), (qsFnd8), sl 9 (B x9_3), sl 10 (I x59), (qsFnd11), sl 13 (.ptr 4 0), sl 14 (.ptr 5 0), (qsFnd7 l), (qsFnd5 l), sl 59 (I x59), (qsFnd2 goal m1_4 e_2.fTo e_2.fPut), (qsFnd1 goal m1_4 e_2.fTo e_2.fPut), sl 71 (I x71)], [.sv (.one (.ptr 2 0)), .sv (.one (.ptr 2 0)), .sv (.one (.ptr 2 2)), .sv (.one (.own 1)), .sv (.agg [I e_2.fFrom, I e_2.fTop, I e_3.fTo]), .tup [.agg (StackKnown.cl ((mget (StackEdge.mk e_2.fFrom e_2.fTop e_3.fTo) m1_5).getD (qsFnd6))), .one (B (mget (StackEdge.mk e_2.fFrom e_2.fTop e_3.fTo) m1_5).isSome)], .tup [.agg (StackKnown.cl ((mget (StackEdge.mk e_2.fFrom e_2.fTop e_3.fTo) m1_5).getD (qsFnd6))), .one (B (mget (StackEdge.mk e_2.fFrom e_2.fTop e_3.fTo) m1_5).isSome)], .sv (.agg (StackKnown.cl ((mget (StackEdge.mk e_2.fFrom e_2.fTop e_3.fTo) m1_5).getD (qsFnd6)))), .sv (.one (B (mget (StackEdge.mk e_2.fFrom e_2.fTop e_3.fTo) m1_5).isSome)), .sv (.one (.ptr 6 0)), .tup [], .sv (.one (B (mget (StackEdge.mk e_2.fFrom e_2.fTop e_3.fTo) m1_5).isSome))], [⟨.gone, none, none, none⟩, ⟨mapI StackEdge.enc StackKnown.ty m1_5, none, none, none⟩, ⟨(qsFnd0 goal), none, none, none⟩, ⟨.box (ApiPush.cl e_2) 41 false, none, none, none⟩, ⟨.box (StackWay.cl e_3) 76 false, none, none, none⟩, ⟨.box [I e_2.fFrom, I e_2.fTop, I e_3.fTo] 79 false, none, none, none⟩, ⟨.box [I 0, I 0, .v (.slice none 0 0)] 129 false, some 9, none, some (10, .box (StackKnown.cl ((mget (StackEdge.mk e_2.fFrom e_2.fTop e_3.fTo) m1_5).getD (qsFnd6))) 129 false)⟩]⟩ ⟨[(qsFnd4 l), (qsFnd8), sl 9 (B x9_3), sl 10 (I x59), (qsFnd11), sl 13 (.ptr 4 0), sl 14 (.ptr 5 0), sl 15 (.ptr 6 0), sl 16 (B (mget (StackEdge.mk e_2.fFrom e_2.fTop e_3.fTo) m1_5).isSome), (qsFnd7 l), (qsFnd5 l), sl 59 (I x59), (qsFnd2 goal m1_4 e_2.fTo e_2.fPut), (qsFnd1 goal m1_4 e_2.fTo e_2.fPut), sl 71 (I x71)], [.gone, mapI StackEdge.enc StackKnown.ty m1_5, (qsFnd0 goal), .box (ApiPush.cl e_2) 41 false, .box (StackWay.cl e_3) 76 false, .box [I e_2.fFrom, I e_2.fTop, I e_3.fTo] 79 false, .box (StackKnown.cl ((mget (StackEdge.mk e_2.fFrom e_2.fTop e_3.fTo) m1_5).getD (qsFnd6))) 129 false]⟩ (by kernel_rfl) hn (by kernel_rfl) (by rfl) (by kernel_rfl) ?_ (by kernel_rfl) ?_
 exact ⟨.ev ⟨[(qsFnd8)], []⟩ ht,
 .ev ⟨[sl 83 (.ptr 2 0)], []⟩ ht,
 .ev ⟨[sl 84 (.ptr 2 0)], []⟩ ht,
 .ev ⟨[sl 85 (.ptr 2 2)], [.gone, .gone, (qsFnd0 goal)]⟩ ht,
 .ev ⟨[sl 14 (.ptr 5 0)], [.gone, .gone, .gone, .gone, .gone, .box [I e_2.fFrom, I e_2.fTop, I e_3.fTo] 79 false]⟩ ht,
 .vl ⟨[sl 86 (.own 1), (87, .sv (.agg [I e_2.fFrom, I e_2.fTop, I e_3.fTo]))], [.gone, mapI StackEdge.enc StackKnown.ty m1_5]⟩ (mt_val (val_lookup (T := StackKnown.ty) (D := m1_5) StackEdge.keyLaw (k := (StackEdge.mk e_2.fFrom e_2.fTop e_3.fTo)) (ok := true) (qsFnd6) (zv := (.agg #[.int .i64 0, .int .i64 0, .slice none 0 0])) rfl Try.underlying125 (fun _ => by kernel_rfl) (fun _ => ⟨_, rfl, ⟨rfl, trivial⟩, trivial, ⟨rfl, trivial⟩, trivial, ls_nil, trivial, trivial⟩) (mapAs StackEdge.enc StackKnown.ty m1_5) (by rfl) (by rfl) (by rfl) (fun _ => rfl))),
 .ev ⟨[(88, .tup [.agg (StackKnown.cl ((mget (StackEdge.mk e_2.fFrom e_2.fTop e_3.fTo) m1_5).getD (qsFnd6))), .one (B (mget (StackEdge.mk e_2.fFrom e_2.fTop e_3.fTo) m1_5).isSome)])], []⟩ ht,
 .ev ⟨[(82, .tup [.agg (StackKnown.cl ((mget (StackEdge.mk e_2.fFrom e_2.fTop e_3.fTo) m1_5).getD (qsFnd6))), .one (B (mget (StackEdge.mk e_2.fFrom e_2.fTop e_3.fTo) m1_5).isSome)])], []⟩ ht,
 .ev ⟨[(82, .tup [.agg (StackKnown.cl ((mget (StackEdge.mk e_2.fFrom e_2.fTop e_3.fTo) m1_5).getD (qsFnd6))), .one (B (mget (StackEdge.mk e_2.fFrom e_2.fTop e_3.fTo) m1_5).isSome)])], []⟩ ht,
 .mt ⟨[], []⟩ [] (some 6) (by kernel_rfl) (by rfl) (mt_alloc2 6 129 ht rfl (by rfl) (by rfl)) rfl rfl rfl rfl,
 .mu ⟨[sl 15 (.ptr 6 0), (89, .sv (.agg (StackKnown.cl ((mget (StackEdge.mk e_2.fFrom e_2.fTop e_3.fTo) m1_5).getD (qsFnd6)))))], [.gone, .gone, .gone, .gone, .gone, .gone, .box [I 0, I 0, .v (.slice none 0 0)] 129 false]⟩ 6 _ _ rfl rfl (by kernel_rfl) (by rfl) (mu_store2 ht rfl (by rfl) (by rfl) (by rfl) (by rfl) (fun h => by cases h) (by rfl) (by rfl)) rfl rfl rfl rfl rfl rfl rfl,
 .ev ⟨[sl 90 (B (mget (StackEdge.mk e_2.fFrom e_2.fTop e_3.fTo) m1_5).isSome)], []⟩ ht,
 trivial⟩
 refine En.sr ?_
 refine WL.rn ht hn 4 ⟨[(qsFnd4 l), (qsFnd8), sl 9 (B x9_3), sl 10 (I x59), (qsFnd11), sl 13 (.ptr 4 0), sl 14 (.ptr 5 0), sl 15 (.ptr 6 0), sl 16 (B (mget (StackEdge.mk e_2.fFrom e_2.fTop e_3.fTo) m1_5).isSome), sl 17 (I (wr (e_3.fCost + 1))), (qsFnd7 l), (qsFnd5 l), sl 59 (I x59), (qsFnd2 goal m1_4 e_2.fTo e_2.fPut), (qsFnd1 goal m1_4 e_2.fTo e_2.fPut), sl 71 (I x71)], [.gone, mapI StackEdge.enc StackKnown.ty m1_5, (qsFnd0 goal), .box (ApiPush.cl e_2) 41 false, .box (StackWay.cl e_3) 76 false, .box [I e_2.fFrom, I e_2.fTop, I e_3.fTo] 79 false, .box (StackKnown.cl ((mget (StackEdge.mk e_2.fFrom e_2.fTop e_3.fTo) m1_5).getD (qsFnd6))) 129 false]⟩ ?_
 refine En.sr ?_
 refine WL.r ht hn 3 ⟨[(qsFnd4 l), (qsFnd8), sl 9 (B x9_3), sl 10 (I x59), (qsFnd11), sl 13 (.ptr 4 0), sl 14 (.ptr 5 0), sl 15 (.ptr 6 0), sl 17 (I (wr (e_3.fCost + 1))), (qsFnd7 l), (qsFnd5 l), sl 59 (I x59), (qsFnd2 goal m1_4 e_2.fTo e_2.fPut), (qsFnd1 goal m1_4 e_2.fTo e_2.fPut), sl 71 (I x71), sl 96 (B (!(mget (StackEdge.mk e_2.fFrom e_2.fTop e_3.fTo) m1_5).isSome))], [.gone, mapI StackEdge.enc StackKnown.ty m1_5, (qsFnd0 goal), .box (ApiPush.cl e_2) 41 false, .box (StackWay.cl e_3) 76 false, .box [I e_2.fFrom, I e_2.fTop, I e_3.fTo] 79 false, .box (StackKnown.cl ((mget (StackEdge.mk e_2.fFrom e_2.fTop e_3.fTo) m1_5).getD (qsFnd6))) 129 false]⟩ ?_
 refine WL.thru ⟨[(qsFnd4 l), (qsFnd8), sl 9 (B x9_3), sl 10 (I x59), (qsFnd11), sl 13 (.ptr 4 0), sl 14 (.ptr 5 0), sl 17 (I (wr (e_3.fCost + 1))), (qsFnd7 l), (qsFnd5 l), sl 59 (I x59), (qsFnd2 goal m1_4 e_2.fTo e_2.fPut), (qsFnd1 goal m1_4 e_2.fTo e_2.fPut), sl 71 (I x71), sl 101 (B ((!(mget (StackEdge.mk e_2.fFrom e_2.fTop e_3.fTo) m1_5).isSome) || (decide ((wr (e_3.fCost + 1)) < ((mget (StackEdge.mk e_2.fFrom e_2.fTop e_3.fTo) m1_5).getD (qsFnd6)).fCost))))], [.gone, mapI StackEdge.enc StackKnown.ty m1_5, (qsFnd0 goal), .box (ApiPush.cl e_2) 41 false, .box (StackWay.cl e_3) 76 false, .box [I e_2.fFrom, I e_2.fTop, I e_3.fTo] 79 false, .gone]⟩ ?_ ?_
 refine splitB (!(mget (StackEdge.mk e_2.fFrom e_2.fTop e_3.fTo) m1_5).isSome) (fun hb0 => ?_) (fun hb0 => ?_)
 refine WL.sB 96 hb0 ?_
 refine WL.r ht hn 5 ⟨[(qsFnd4 l), (qsFnd8), sl 9 (B x9_3), sl 10 (I x59), (qsFnd11), sl 13 (.ptr 4 0), sl 14 (.ptr 5 0), sl 17 (I (wr (e_3.fCost + 1))), (qsFnd7 l), (qsFnd5 l), sl 59 (I x59), (qsFnd2 goal m1_4 e_2.fTo e_2.fPut), (qsFnd1 goal m1_4 e_2.fTo e_2.fPut), sl 71 (I x71), sl 101 (B true)], [.gone, mapI StackEdge.enc StackKnown.ty m1_5, (qsFnd0 goal), .box (ApiPush.cl e_2) 41 false, .box (StackWay.cl e_3) 76 false, .box [I e_2.fFrom, I e_2.fTop, I e_3.fTo] 79 false, .gone]⟩ ?_
 exact WL.nil (sub_ok (by simp only [hb0]; kernel_rfl))
 refine WL.sB 96 hb0 ?_
 refine WL.r ht hn 5 ⟨[(qsFnd4 l), (qsFnd8), sl 9 (B x9_3), sl 10 (I x59), (qsFnd11), sl 13 (.ptr 4 0), sl 14 (.ptr 5 0), sl 17 (I (wr (e_3.fCost + 1))), (qsFnd7 l), (qsFnd5 l), sl 59 (I x59), (qsFnd2 goal m1_4 e_2.fTo e_2.fPut), (qsFnd1 goal m1_4 e_2.fTo e_2.fPut), sl 71 (I x71), sl 101 (B (decide ((wr (e_3.fCost + 1)) < ((mget (StackEdge.mk e_2.fFrom e_2.fTop e_3.fTo) m1_5).getD (qsFnd6)).fCost)))], [.gone, mapI StackEdge.enc StackKnown.ty m1_5, (qsFnd0 goal), .box (ApiPush.cl e_2) 41 false, .box (StackWay.cl e_3) 76 false, .box [I e_2.fFrom, I e_2.fTop, I e_3.fTo] 79 false, .gone]⟩ ?_
 exact WL.nil (sub_ok (by simp only [hb0]; kernel_rfl))
 refine En.cd (b := ((!(mget (StackEdge.mk e_2.fFrom e_2.fTop e_3.fTo) m1_5).isSome) || (decide ((wr (e_3.fCost + 1)) < ((mget (StackEdge.mk e_2.fFrom e_2.fTop e_3.fTo) m1_5).getD (qsFnd6)).fCost)))) (fun hb => ?_) (fun hb => ?_)
 replace h := h.1 hb
 refine En.seq ?_
 refine En.regionA ⟨[(qsFnd4 l), (qsFnd8), sl 10 (I x59), (qsFnd11), sl 13 (.ptr 4 0), sl 14 (.ptr 5 0), sl 17 (I (wr (e_3.fCost + 1))), (qsFnd7 l), (qsFnd5 l), sl 59 (I x59), (qsFnd2 goal m1_4 e_2.fTo e_2.fPut), (qsFnd1 goal m1_4 e_2.fTo e_2.fPut), sl 71 (I x71)], [.sv (.one (.ptr 2 0)), .sv (.one (.ptr 2 0)), .sv (.one (.ptr 2 2)), .sv (.one (.own 1)), .sv (.agg [I e_2.fFrom, I e_2.fTop, I e_3.fTo]), .sv (.one (I x59)), .sv (.one (I (wr (e_3.fCost + 1)))), .sv (.one (I (if 1099511627776 < (wr (e_3.fCost + 1)) then 1099511627776 else (wr (e_3.fCost + 1))))), .sv (.one (.ptr 4 2)), .sv (.one (LS StackEdge.ty e_3.fOver)), .sv (.agg [I x59, I (if 1099511627776 < (wr (e_3.fCost + 1)) then 1099511627776 else (wr (e_3.fCost + 1))), LS StackEdge.ty e_3.fOver]), .tup []], [⟨.gone, none, none, none⟩, ⟨mapI StackEdge.enc StackKnown.ty m1_5, none, none, some (11, mapI StackEdge.enc StackKnown.ty (mput (StackEdge.mk e_2.fFrom e_2.fTop e_3.fTo) (StackKnown.mk x59 (if 1099511627776 < (wr (e_3.fCost + 1)) then 1099511627776 else (wr (e_3.fCost + 1))) e_3.fOver) m1_5))⟩, ⟨(qsFnd0 goal), none, none, none⟩, ⟨.box (ApiPush.cl e_2) 41 false, none, none, none⟩, ⟨.box (StackWay.cl e_3) 76 false, none, none, none⟩, ⟨.box [I e_2.fFrom, I e_2.fTop, I e_3.fTo] 79 false, none, none, none⟩, ⟨.gone, none, none, none⟩]⟩ ⟨[(qsFnd4 l), (qsFnd8), sl 10 (I x59), (qsFnd11), (qsFnd7 l), (qsFnd5 l), sl 59 (I x59), (qsFnd2 goal m1_4 e_2.fTo e_2.fPut), (qsFnd1 goal m1_4 e_2.fTo e_2.fPut), sl 71 (I x71)], [.gone, mapI StackEdge.enc StackKnown.ty (mput (StackEdge.mk e_2.fFrom e_2.fTop e_3.fTo) (StackKnown.mk x59 (if 1099511627776 < (wr (e_3.fCost + 1)) then 1099511627776 else (wr (e_3.fCost + 1))) e_3.fOver) m1_5), (qsFnd0 goal), .box (ApiPush.cl e_2) 41 false, .gone, .gone, .gone]⟩ (by kernel_rfl) hn (by kernel_rfl) (by rfl) (by kernel_rfl) ?_ (by kernel_rfl) ?_
 exact ⟨.ev ⟨[(qsFnd8)], []⟩ ht,
 .ev ⟨[sl 102 (.ptr 2 0)], []⟩ ht,
 .ev ⟨[sl 103 (.ptr 2 0)], []⟩ ht,
 .ev ⟨[sl 104 (.ptr 2 2)], [.gone, .gone, (qsFnd0 goal)]⟩ ht,
 .ev ⟨[sl 14 (.ptr 5 0)], [.gone, .gone, .gone, .gone, .gone, .box [I e_2.fFrom, I e_2.fTop, I e_3.fTo] 79 false]⟩ ht,
 .ev ⟨[sl 10 (I x59)], []⟩ ht,
 .ev ⟨[sl 17 (I (wr (e_3.fCost + 1)))], []⟩ ht,
 .ev ⟨[sl 108 (I (wr (e_3.fCost + 1)))], []⟩ ht,
 .ev ⟨[sl 13 (.ptr 4 0)], []⟩ ht,
 .ev ⟨[sl 110 (.ptr 4 2)], [.gone, .gone, .gone, .gone, .box (StackWay.cl e_3) 76 false]⟩ ht,
 .ev ⟨[sl 107 (I x59), sl 109 (I (if 1099511627776 < (wr (e_3.fCost + 1)) then 1099511627776 else (wr (e_3.fCost + 1)))), sl 111 (LS StackEdge.ty e_3.fOver)], []⟩ ht,
 .mu ⟨[sl 105 (.own 1), (106, .sv (.agg [I e_2.fFrom, I e_2.fTop, I e_3.fTo])), (112, .sv (.agg [I x59, I (if 1099511627776 < (wr (e_3.fCost + 1)) then 1099511627776 else (wr (e_3.fCost + 1))), LS StackEdge.ty e_3.fOver]))], [.gone, mapI StackEdge.enc StackKnown.ty m1_5]⟩ 1 _ _ rfl rfl (by kernel_rfl) (by rfl) (mu_mapPut (T := StackKnown.ty) StackEdge.keyLaw (k := (StackEdge.mk e_2.fFrom e_2.fTop e_3.fTo)) (y := (StackKnown.mk x59 (if 1099511627776 < (wr (e_3.fCost + 1)) then 1099511627776 else (wr (e_3.fCost + 1))) e_3.fOver)) (.inl rfl) Try.underlying125 (by rfl) (by rfl) (by rfl) (by rfl) (by rfl)) rfl rfl rfl rfl rfl rfl rfl,
 trivial⟩
 refine En.region ?_
 refine WL.rn ht hn 1 ⟨[(qsFnd4 l), (qsFnd8), sl 9 (B true), sl 10 (I x59), (qsFnd11), (qsFnd7 l), (qsFnd5 l), sl 59 (I x59), (qsFnd2 goal m1_4 e_2.fTo e_2.fPut), (qsFnd1 goal m1_4 e_2.fTo e_2.fPut), sl 71 (I x71)], [.gone, mapI StackEdge.enc StackKnown.ty (mput (StackEdge.mk e_2.fFrom e_2.fTop e_3.fTo) (StackKnown.mk x59 (if 1099511627776 < (wr (e_3.fCost + 1)) then 1099511627776 else (wr (e_3.fCost + 1))) e_3.fOver) m1_5), (qsFnd0 goal), .box (ApiPush.cl e_2) 41 false, .gone, .gone, .gone]⟩ ?_
 exact En.at (I := fun zz => J_2 zz.1 zz.2) (T := fun zz => ⟨[(qsFnd4 l), (qsFnd8), sl 9 (B zz.1), sl 10 (I x59), (qsFnd11), (qsFnd7 l), (qsFnd5 l), sl 59 (I x59), (qsFnd2 goal m1_4 e_2.fTo e_2.fPut), (qsFnd1 goal m1_4 e_2.fTo e_2.fPut), sl 71 (I x71)], (qsFnd13 goal zz.2 e_2)⟩) (true, (mput (StackEdge.mk e_2.fFrom e_2.fTop e_3.fTo) (StackKnown.mk x59 (if 1099511627776 < (wr (e_3.fCost + 1)) then 1099511627776 else (wr (e_3.fCost + 1))) e_3.fOver) m1_5)) h (by kernel_rfl)
 replace h := h.2 hb
 refine En.skip ?_
 exact En.at (I := fun zz => J_2 zz.1 zz.2) (T := fun zz => ⟨[(qsFnd4 l), (qsFnd8), sl 9 (B zz.1), sl 10 (I x59), (qsFnd11), (qsFnd7 l), (qsFnd5 l), sl 59 (I x59), (qsFnd2 goal m1_4 e_2.fTo e_2.fPut), (qsFnd1 goal m1_4 e_2.fTo e_2.fPut), sl 71 (I x71)], (qsFnd13 goal zz.2 e_2)⟩) (x9_3, m1_5) h (by kernel_rfl)
 rintro ⟨x9_4, m1_6⟩ h
 replace h := hJ_2 _ _ h
 show En c ⟨[(qsFnd4 l), (qsFnd8), sl 9 (B x9_4), sl 10 (I x59), (qsFnd11), (qsFnd7 l), (qsFnd5 l), sl 59 (I x59), (qsFnd2 goal m1_4 e_2.fTo e_2.fPut), (qsFnd1 goal m1_4 e_2.fTo e_2.fPut), sl 71 (I x71)], [.gone, mapI StackEdge.enc StackKnown.ty m1_6, (qsFnd0 goal), .box (ApiPush.cl e_2) 41 false, .gone, .gone, .gone]⟩ _
 refine En.region ?_
 refine WL.rn ht hn 2 ⟨[(qsFnd4 l), (qsFnd8), sl 9 (B x9_4), sl 10 (I x59), (qsFnd11), (qsFnd7 l), (qsFnd5 l), sl 59 (I x59), (qsFnd2 goal m1_4 e_2.fTo e_2.fPut), (qsFnd1 goal m1_4 e_2.fTo e_2.fPut), sl 71 (I (wr (x71 + 1)))], [.gone, mapI StackEdge.enc StackKnown.ty m1_6, (qsFnd0 goal), .box (ApiPush.cl e_2) 41 false, .gone, .gone, .gone]⟩ ?_
 exact En.at (I := fun zz => Inv_4 zz.1 zz.2.1 zz.2.2 ∧ mu_4 zz.1 zz.2.1 zz.2.2 < mu_4 x9_3 x71 m1_5) (T := fun zz => ⟨[(qsFnd4 l), (qsFnd8), sl 9 (B zz.1), sl 10 (I x59), (qsFnd11), (qsFnd7 l), (qsFnd5 l), sl 59 (I x59), (qsFnd2 goal m1_4 e_2.fTo e_2.fPut), (qsFnd1 goal m1_4 e_2.fTo e_2.fPut), sl 71 (I zz.2.1)], [.gone, mapI StackEdge.enc StackKnown.ty zz.2.2, (qsFnd0 goal), .box (ApiPush.cl e_2) 41 false]⟩) (x9_4, (wr (x71 + 1)), m1_6) h (by kernel_rfl)
 replace h := h.2 hb
 refine En.exit rfl ?_
 refine En.region ?_
 refine WL.rn ht hn 2 ⟨[(qsFnd4 l), (qsFnd8), sl 9 (B x9_3), (qsFnd7 l), (qsFnd5 l), sl 59 (I (wr (x59 + 1)))], [.gone, mapI StackEdge.enc StackKnown.ty m1_5, (qsFnd0 goal), .gone]⟩ ?_
 exact En.at (I := fun zz => Inv_3 zz.1 zz.2.1 zz.2.2 ∧ mu_3 zz.1 zz.2.1 zz.2.2 < mu_3 x9_2 x59 m1_4) (T := fun zz => ⟨[(qsFnd4 l), (qsFnd8), sl 9 (B zz.1), (qsFnd7 l), (qsFnd5 l), sl 59 (I zz.2.1)], [.gone, mapI StackEdge.enc StackKnown.ty zz.2.2, (qsFnd0 goal)]⟩) (x9_3, (wr (x59 + 1)), m1_5) h (by kernel_rfl)
 replace h := h.2 hb
 refine En.exit rfl ?_
 exact En.at (I := fun zz => Inv_2 zz.1 zz.2 ∧ mu_2 zz.1 zz.2 < mu_2 x9 m1_3) (T := fun zz => ⟨[(qsFnd4 l), (qsFnd8), sl 9 (B zz.1)], [.gone, mapI StackEdge.enc StackKnown.ty zz.2, (qsFnd0 goal)]⟩) (x9_2, m1_4) h (by kernel_rfl)
 replace h := h.2 hb
 refine En.exit rfl ?_
 refine En.sr ?_
 refine WL.rn ht hn 2 ⟨[sl 4 (.ptr 2 0)], (qsFnd14 goal m1_3)⟩ ?_
 refine En.ret ?_
 refine En.move 2 0 (by rfl) (by rfl) ?_
 exact En.backE [] ht m1_3 h (by kernel_rfl) (by rfl) rfl
theorem en25 : ∀ args w, (callFunc 25 args).run Try.prog w = .ok (.enter 25 args) w := enters_of Try.func25 (by kernel_rfl) rfl
def FndPre (l : List ApiPush) (goal : ApiConfig) : Prop := chkS l = 0 ∧ ConfOk goal ∧ goal.fStack.length ≤ 3
def FndQ (l : List ApiPush) (goal : ApiConfig) (E : EMap) : Prop := FndR l goal.fControl goal.fStack E
theorem base_put {l : List ApiPush} {gc : Int} {gs : List Int} {m : EMap} {e : StackEdge} (h : FInv l gc gs m) (h1 : Sat l gc gs e) (h2 : RngE (gs.length + 4) e) : FInv l gc gs (mput e (StackKnown.mk (-1) 0 []) m) ∧ leM m (mput e (StackKnown.mk (-1) 0 []) m) ∧ keyE (mput e (StackKnown.mk (-1) 0 []) m) e := by
 have hle : leM m (mput e (StackKnown.mk (-1) 0 []) m) := put_le fun k0 h0 => (h.ok e k0 h0).cost.1
 refine ⟨h.put h1 h2 hle ⟨⟨Int.le_refl _, by decide⟩, Nat.zero_le _, .inl (by decide)⟩, hle, ?_⟩
 unfold keyE
 rw [mget_put, if_pos rfl]
 rfl
section
variable {l : List ApiPush} {gc : Int} {gs : List Int} {m m1 : EMap} {r : ApiPush} {w : StackWay} {x : Int}
theorem rule_put (hgs : gs.length ≤ 3) (hr : r ∈ l) (hro : RuleOk r) (hI1 : FInv l gc gs m1) (hI : FInv l gc gs m) (hle : leM m1 m) (hw : w ∈ waysS gc gs m1 r.fTo r.fPut)
  (hc : ((!(mget (StackEdge.mk r.fFrom r.fTop w.fTo) m).isSome) || (decide ((wr (w.fCost + 1)) < ((mget (StackEdge.mk r.fFrom r.fTop w.fTo) m).getD (StackKnown.mk (0 : Int) (0 : Int) [])).fCost))) = true) :
  FInv l gc gs (mput (StackEdge.mk r.fFrom r.fTop w.fTo) (StackKnown.mk x (if 1099511627776 < (wr (w.fCost + 1)) then 1099511627776 else (wr (w.fCost + 1))) w.fOver) m) ∧ leM m (mput (StackEdge.mk r.fFrom r.fTop w.fTo) (StackKnown.mk x (if 1099511627776 < (wr (w.fCost + 1)) then 1099511627776 else (wr (w.fCost + 1))) w.fOver) m) ∧
  muE (gs.length + 4) (mput (StackEdge.mk r.fFrom r.fTop w.fTo) (StackKnown.mk x (if 1099511627776 < (wr (w.fCost + 1)) then 1099511627776 else (wr (w.fCost + 1))) w.fOver) m) < muE (gs.length + 4) m := by
 have hwo := ways_ok' (E := m1) (gc := gc) (gs := gs) (signs := r.fPut) hI1.costs (fr := r.fTo) (by have := hro.tto; omega) w hw
 have hwc := hwo.cost
 have hwt := hwo.tto
 rw [wr_in (by omega) (by omega)] at hc ⊢
 have hnew : ∀ k0, mget (StackEdge.mk r.fFrom r.fTop w.fTo) m = some k0 → (if 1099511627776 < w.fCost + 1 then 1099511627776 else w.fCost + 1) < k0.fCost := fun k0 h0 => by
  rw [h0] at hc
  have hc : w.fCost + 1 < k0.fCost := by simpa using hc
  have := (hI.ok _ k0 h0).cost
  split <;> omega
 have hlt : leM m (mput (StackEdge.mk r.fFrom r.fTop w.fTo) (StackKnown.mk x (if 1099511627776 < w.fCost + 1 then 1099511627776 else w.fCost + 1) w.fOver) m) := put_le fun k0 h0 => Int.le_of_lt (hnew k0 h0)
 have hfr := hro.fr
 have hto := hro.top
 have hrng : RngE (gs.length + 4) (StackEdge.mk r.fFrom r.fTop w.fTo) := ⟨⟨hfr.1, by show r.fFrom < _; omega⟩, hto, hwt⟩
 have hF : FInv l gc gs (mput (StackEdge.mk r.fFrom r.fTop w.fTo) (StackKnown.mk x (if 1099511627776 < w.fCost + 1 then 1099511627776 else w.fCost + 1) w.fOver) m) := by
  refine hI.put ((sat_closed l gc gs).rule r hr w.fTo (full_mono (fun e he => ?_) (ways_iff.1 ⟨w, hw, rfl⟩))) hrng hlt ⟨?_, ?_, .inr ⟨fun y hy => (hle.trans hlt).key (hwo.has y hy), fun hcc => ?_⟩⟩
  ·obtain ⟨k, hk⟩ := Option.isSome_iff_exists.1 he.2
   exact hI1.sat e k hk
  ·show 0 ≤ (if 1099511627776 < w.fCost + 1 then 1099511627776 else w.fCost + 1) ∧ (if 1099511627776 < w.fCost + 1 then 1099511627776 else w.fCost + 1) ≤ 1099511627776
   split <;> omega
  ·have := hwo.len
   have := hro.len
   show w.fOver.length ≤ 2
   omega
  ·have h2 := (hle.trans hlt).sum hwo.has
   have hcc : (if 1099511627776 < w.fCost + 1 then 1099511627776 else w.fCost + 1) < 1099511627776 := hcc
   show _ + 1 ≤ (if 1099511627776 < w.fCost + 1 then 1099511627776 else w.fCost + 1)
   split at hcc
   ·omega
   ·rename_i h3
    have := hwo.sum (by omega)
    exact Int.le_trans (Int.add_le_add_right (Int.le_trans h2 this) 1) (Int.le_of_eq (if_neg h3).symm)
 exact ⟨hF, hlt, mu_put hrng hF.costs hnew⟩
theorem rule_not (hI1 : FInv l gc gs m1) (hro : RuleOk r) (hgs : gs.length ≤ 3) (hw : w ∈ waysS gc gs m1 r.fTo r.fPut)
  (hc : ((!(mget (StackEdge.mk r.fFrom r.fTop w.fTo) m).isSome) || (decide ((wr (w.fCost + 1)) < ((mget (StackEdge.mk r.fFrom r.fTop w.fTo) m).getD (StackKnown.mk (0 : Int) (0 : Int) [])).fCost))) = false) : DoneR gc gs m r w := by
 have hwo := ways_ok' (E := m1) (gc := gc) (gs := gs) (signs := r.fPut) hI1.costs (fr := r.fTo) (by have := hro.tto; omega) w hw
 have hwc := hwo.cost
 rw [wr_in (by omega) (by omega)] at hc
 rw [Bool.or_eq_false_iff] at hc
 cases hm : mget (StackEdge.mk r.fFrom r.fTop w.fTo) m with
 | none => rw [hm] at hc; simp at hc
 | some k =>
  rw [hm] at hc
  have h2 : ¬ w.fCost + 1 < k.fCost := of_decide_eq_false hc.2
  exact ⟨k, hm, by omega⟩
end
theorem sFnd_ok (l : List ApiPush) (goal : ApiConfig) (hp : FndPre l goal) : sFnd_vc l goal (FndQ l goal) := by
 obtain ⟨hl, hg, hz⟩ := hp
 obtain ⟨hl8, hru⟩ := chkS_ok hl
 have hgc := hg.ctl
 unfold sFnd_vc FndQ
 intro _ _
 obtain ⟨gc, gs⟩ := goal
 simp only at hz hgc ⊢
 have hst := hg.stk
 simp only at hst
 refine ⟨fun i m => ∃ k : Nat, i = k ∧ k ≤ gs.length ∧ FInv l gc gs m ∧ Bases gc gs k m, fun i _ => gs.length - i.toNat, ⟨0, rfl, Nat.zero_le _, FInv.start l gc gs, fun i hi => absurd hi (Nat.not_lt_zero _)⟩, ?_⟩
 rintro i m ⟨k, rfl, hk, hI, hB⟩
 have w3 : wr (3 + (k : Int)) = 3 + (k : Int) := wr_in (by omega) (by omega)
 have w4 : wr (3 + (k : Int) + 1) = 4 + (k : Int) := by rw [wr_in (by omega) (by omega)]; omega
 rw [w3, w4]
 refine ⟨fun hb => ?_, fun hb => ?_⟩
 ·have hlt := dlt hb
  have hget : gs[k]? = some gs[k] := List.getElem?_eq_getElem hlt
  have hs := hst gs[k] (List.getElem_mem hlt)
  refine ⟨gs[k], idx_at hlt, fun m' => FInv l gc gs m' ∧ leM m m' ∧ (k = 0 → keyE m' (StackEdge.mk gc gs[k] 4)), ⟨fun h => ?_, fun h => ⟨hI, leM.refl m, fun e => ?_⟩⟩, ?_⟩
  ·have h0 : k = 0 := by have := eq_of_beq h; omega
   have e4 : (4 : Int) + (k : Int) = 4 := by omega
   rw [e4]
   obtain ⟨a1, a2, a3⟩ := base_put (e := StackEdge.mk gc gs[k] 4) hI ((sat_closed l gc gs).head _ (by rw [← hget, h0])) ⟨⟨hgc.1, by show gc < _; omega⟩, hs, by show (0 : Int) ≤ 4; decide, by show (4 : Int) < _; omega⟩
   exact ⟨a1, a2, fun _ => a3⟩
  ·exact absurd (by rw [e]; rfl) (beq_eq_false_iff_ne.1 h)
  rintro m' ⟨hI', hle, h0⟩
  obtain ⟨a1, a2, a3⟩ := base_put (e := StackEdge.mk (3 + (k : Int)) gs[k] (4 + (k : Int))) hI' ((sat_closed l gc gs).base k _ hget) ⟨⟨by show (0 : Int) ≤ 3 + (k : Int); omega, by show 3 + (k : Int) < _; omega⟩, hs, by show (0 : Int) ≤ 4 + (k : Int); omega, by show 4 + (k : Int) < _; omega⟩
  refine ⟨⟨k + 1, wsucc (by omega), hlt, a1, fun i hi s hs2 => ?_⟩, mu_up hlt (by omega)⟩
  by_cases e : i = k
  ·subst e
   rw [hget] at hs2
   cases hs2
   exact ⟨a3, fun e0 => a2.key (h0 e0)⟩
  ·have := hB i (by omega) s hs2
   exact ⟨(hle.trans a2).key this.1, fun e0 => (hle.trans a2).key (this.2 e0)⟩
 obtain rfl : k = gs.length := by have := dge hb; omega
 refine ⟨fun b m => FInv l gc gs m ∧ Bases gc gs gs.length m ∧ (b = false → ∀ r ∈ l, ∀ w ∈ waysS gc gs m r.fTo r.fPut, DoneR gc gs m r w), fun b m => 2 * muE (gs.length + 4) m + (if b = true then 1 else 0), ⟨hI, hB, (fun e => by cases e)⟩, ?_⟩
 rintro b m0 ⟨hI0, hB0, hD0⟩
 refine ⟨fun hb => ?_, fun hb => ⟨hI0, hB0, hD0 hb⟩⟩
 subst hb
 refine ⟨fun a i m => ∃ k : Nat, i = k ∧ k ≤ l.length ∧ FInv l gc gs m ∧ leM m0 m ∧ muE (gs.length + 4) m ≤ muE (gs.length + 4) m0 ∧ (a = true → muE (gs.length + 4) m < muE (gs.length + 4) m0) ∧ (a = false → m = m0 ∧ ∀ j, j < k → ∀ r, l[j]? = some r → ∀ w ∈ waysS gc gs m0 r.fTo r.fPut, DoneR gc gs m0 r w), fun _ i _ => l.length - i.toNat, ⟨0, rfl, Nat.zero_le _, hI0, leM.refl _, Nat.le_refl _, (fun e => by cases e), fun _ => ⟨rfl, fun j hj => absurd hj (Nat.not_lt_zero _)⟩⟩, ?_⟩
 rintro a1 i m1 ⟨k, rfl, hk, hI1, hle1, hmu1, ht1, hf1⟩
 refine ⟨fun hb => ?_, fun hb => ?_⟩
 ·have hlt := dlt hb
  have hmem := List.getElem_mem hlt
  have hro := hru _ hmem
  have hput := hro.len
  have htt := hro.tto
  have hgetr : l[k]? = some l[k] := List.getElem?_eq_getElem hlt
  refine ⟨l[k], idx_at hlt, ⟨hz, by omega, hI1.costs, ⟨htt.1, by omega⟩⟩, ?_⟩
  generalize l[k] = r at hmem hro hput htt hgetr ⊢
  refine ⟨fun a i m => ∃ j : Nat, i = j ∧ j ≤ (waysS gc gs m1 r.fTo r.fPut).length ∧ FInv l gc gs m ∧ leM m1 m ∧ muE (gs.length + 4) m ≤ muE (gs.length + 4) m0 ∧ (a = true → muE (gs.length + 4) m < muE (gs.length + 4) m0) ∧ (a = false → a1 = false ∧ m = m1 ∧ ∀ i, i < j → ∀ w, (waysS gc gs m1 r.fTo r.fPut)[i]? = some w → DoneR gc gs m1 r w), fun _ i _ => (waysS gc gs m1 r.fTo r.fPut).length - i.toNat, ⟨0, rfl, Nat.zero_le _, hI1, leM.refl _, hmu1, ht1, fun e => ⟨e, rfl, fun j hj => absurd hj (Nat.not_lt_zero _)⟩⟩, ?_⟩
  have hWl : (waysS gc gs m1 r.fTo r.fPut).length ≤ 2 * (gs.length + 4) := fold_len (by have := start_len (gc := gc) (gs := gs) (fr := r.fTo); omega)
  rintro a2 i m2 ⟨j, rfl, hj, hI2, hle2, hmu2, ht2, hf2⟩
  refine ⟨fun hb2 => ?_, fun hb2 => ?_⟩
  ·have hjt := dlt hb2
   have hwm := List.getElem_mem hjt
   have hgetw : (waysS gc gs m1 r.fTo r.fPut)[j]? = some (waysS gc gs m1 r.fTo r.fPut)[j] := List.getElem?_eq_getElem hjt
   refine ⟨fun a m => FInv l gc gs m ∧ leM m1 m ∧ muE (gs.length + 4) m ≤ muE (gs.length + 4) m0 ∧ (a = true → muE (gs.length + 4) m < muE (gs.length + 4) m0) ∧ (a = false → a2 = false ∧ m = m2 ∧ DoneR gc gs m2 r (waysS gc gs m1 r.fTo r.fPut)[j]), ⟨_, idx_at hjt, fun h => ?_, fun h => ?_⟩, ?_⟩
   ·obtain ⟨b1, b2, b3⟩ := rule_put (x := (k : Int)) hz hmem hro hI1 hI2 hle2 hwm h
    exact ⟨b1, hle2.trans b2, by omega, fun _ => by omega, (fun e => by cases e)⟩
   ·exact ⟨hI2, hle2, hmu2, ht2, fun e => ⟨e, rfl, rule_not hI1 hro hz hwm h⟩⟩
   rintro a3 m3 ⟨c1, c2, c3, c4, c5⟩
   refine ⟨⟨j + 1, wsucc (by omega), hjt, c1, c2, c3, c4, fun e => ?_⟩, mu_up hjt (by omega)⟩
   obtain ⟨d1, d2, d3⟩ := c5 e
   obtain ⟨e1, e2, e3⟩ := hf2 d1
   refine ⟨e1, d2.trans e2, fun i hi w hw => ?_⟩
   by_cases ei : i = j
   ·subst ei
    rw [hgetw] at hw
    cases hw
    rw [e2] at d3
    exact d3
   ·exact e3 i (by omega) w hw
  ·have hje := dge hb2
   refine ⟨⟨k + 1, wsucc (by omega), hlt, hI2, hle1.trans hle2, hmu2, ht2, fun e => ?_⟩, mu_up hlt (by omega)⟩
   obtain ⟨e1, e2, e3⟩ := hf2 e
   obtain ⟨f1, f2⟩ := hf1 e1
   refine ⟨e2.trans f1, fun i hi r' hr' => ?_⟩
   by_cases ei : i = k
   ·subst ei
    rw [hgetr] at hr'
    cases hr'
    rw [← f1]
    intro w hw
    obtain ⟨q, hq, eq⟩ := List.getElem_of_mem hw
    exact e3 q (by omega) w (by rw [List.getElem?_eq_getElem hq, eq])
   ·exact f2 i (by omega) r' hr'
 ·have hke := dge hb
  refine ⟨⟨hI1, hB0.mono hle1, fun e => ?_⟩, ?_⟩
  ·obtain ⟨f1, f2⟩ := hf1 e
   rw [f1]
   intro r hr
   obtain ⟨q, hq, eq⟩ := List.getElem_of_mem hr
   exact f2 q (by omega) r (by rw [List.getElem?_eq_getElem hq, eq])
  ·show 2 * muE (gs.length + 4) m1 + (if a1 = true then 1 else 0) < 2 * muE (gs.length + 4) m0 + (if true = true then 1 else 0)
   rw [if_pos rfl]
   cases a1 with
   | true => have := ht1 rfl; rw [if_pos rfl]; omega
   | false => rw [if_neg (by decide)]; omega
theorem sFnd_ct (l : List ApiPush) (goal : ApiConfig) (hp : FndPre l goal) : CtE 25 [.sv (.one (LS ApiPush.ty l)), .sv (.agg [I goal.fControl, LS intT goal.fStack])] [] [] (FndQ l goal) (fun (r : (List (StackEdge × StackKnown))) => .sv (.one (.ptr 0 0))) (fun (r : (List (StackEdge × StackKnown))) => [.box [I goal.fControl, LS intT goal.fStack, .own 1] 127 false, mapI StackEdge.enc StackKnown.ty r]) := sFnd_walk l goal (FndQ l goal) (sFnd_ok l goal hp)
def sWy_vc (l : (List ApiPush)) (fr : ApiConfig) (goal : ApiConfig) (Q : ((List Int) × Bool × Int) → Prop) : Prop :=
 l.length ≤ 9223372036854775807 →
 fr.fStack.length ≤ 9223372036854775807 →
 goal.fStack.length ≤ 9223372036854775807 →
 ((0 < (([fr, goal] : (List ApiConfig))).length ∧ (([fr, goal] : (List ApiConfig))).length ≤ 1000) ∧
 IfP ((askS l ([fr, goal] : (List ApiConfig))) != 0) (Q ([], false, (askS l ([fr, goal] : (List ApiConfig))))) ((FndPre l goal) ∧
 ∀ r : (List (StackEdge × StackKnown)), (FndQ l goal) r →
 ((WayPre goal.fControl goal.fStack r fr.fControl fr.fStack) ∧
 ∃ (Inv : Int → Prop) (mu : Int → Nat), Inv 0 ∧
 ∀ (x33 : Int) , Inv x33 → (IfP (decide (x33 < ((waysS goal.fControl goal.fStack r fr.fControl fr.fStack).length : Int))) (∃ e, idx (waysS goal.fControl goal.fStack r fr.fControl fr.fStack) x33 = some e ∧
 ((goal.fStack).length ≤ 1000) ∧
 IfP (e.fTo != (lstS goal.fStack)) ((Inv (wr (x33 + 1)) ∧ mu (wr (x33 + 1)) < mu x33)) (IfP (decide (e.fCost > 2000)) (Q ([], false, 7)) (∃ (Inv_2 : Int → (List Int) → Prop) (mu_2 : Int → (List Int) → Nat), Inv_2 0 ([] : (List Int)) ∧
 ∀ (x48 : Int) (l7 : (List Int)) , Inv_2 x48 l7 → (IfP (decide (x48 < (e.fOver.length : Int))) (∃ e_2, idx e.fOver x48 = some e_2 ∧
 (TldPre goal.fControl goal.fStack r l7 e_2 2001) ∧
 ∀ r_2 : (List Int), (TldPost goal.fControl goal.fStack r l7 e_2) r_2 →
 ((Inv_2 (wr (x48 + 1)) r_2 ∧ mu_2 (wr (x48 + 1)) r_2 < mu_2 x48 l7))) (Q (l7, true, 0)))))) (Q ([], false, 0))))))
noncomputable abbrev qsWy0 (goal : ApiConfig) (y0) (y1) := ([.gone, .gone, .gone, .box [I goal.fControl, LS intT goal.fStack, .own 4] 127 false, mapI StackEdge.enc StackKnown.ty y0, .box (StackWay.cl y1) 76 false] : List Item)
noncomputable abbrev qsWy1 (goal : ApiConfig) (fr : ApiConfig) (y0) := sl 32 (I ((waysS goal.fControl goal.fStack y0 fr.fControl fr.fStack).length : Int))
noncomputable abbrev qsWy2 (goal : ApiConfig) (fr : ApiConfig) (y0) := sl 31 (LS StackWay.ty (waysS goal.fControl goal.fStack y0 fr.fControl fr.fStack))
noncomputable abbrev qsWy3 (goal : ApiConfig) := (.box [I goal.fControl, LS intT goal.fStack, .own 4] 127 false : Item)
noncomputable abbrev qsWy4 := sl 6 (.v (.slice none 0 0))
noncomputable abbrev qsWy5 := sl 10 (.ptr 3 0)
noncomputable abbrev qsWy6 (goal : ApiConfig) (y0) := ([.gone, .gone, .gone, (qsWy3 goal), mapI StackEdge.enc StackKnown.ty y0] : List Item)
noncomputable abbrev qsWy7 (y0) := sl 46 (LS StackEdge.ty y0)
noncomputable abbrev qsWy8 := sl 12 (.ptr 5 0)
set_option maxHeartbeats 2000000 in
theorem sWy_walk (l : (List ApiPush)) (fr : ApiConfig) (goal : ApiConfig) (Q : ((List Int) × Bool × Int) → Prop) (h : sWy_vc l fr goal Q) : Ct 11 [.sv (.one (LS ApiPush.ty l)), .sv (.agg [I fr.fControl, LS intT fr.fStack]), .sv (.agg [I goal.fControl, LS intT goal.fStack])] [] Q (fun (r : ((List Int) × Bool × Int)) => .tup [.one (LS intT r.1), .one (B r.2.1), .one (I r.2.2)]) := by
 have ht := tab_ok
 refine Ct.body Try.func11 rfl rfl rfl rfl (fun c hn => ?_)
 unfold sWy_vc at h
 refine En.lenL 0 (by rfl) (fun hl => ?_)
 replace h := h hl
 clear hl
 refine En.lenA 1 1 (by rfl) (by rfl) (fun hl => ?_)
 replace h := h hl
 clear hl
 refine En.lenA 2 1 (by rfl) (by rfl) (fun hl => ?_)
 replace h := h hl
 clear hl
 refine En.sr ?_
 refine WL.rn ht hn 5 ⟨[sl 0 (LS ApiPush.ty l), sl 4 (.ptr 0 0), sl 5 (.ptr 1 0), (qsWy4)], [.box (ApiConfig.cl fr) 39 false, .box (ApiConfig.cl goal) 39 false]⟩ ?_
 refine En.seq ?_
 refine En.sr ?_
 refine WL.r ht hn 3 ⟨[sl 0 (LS ApiPush.ty l), sl 4 (.ptr 0 0), sl 5 (.ptr 1 0), (qsWy4), sl 15 (LS ApiPush.ty l), (16, .sv (.agg (ApiConfig.cl fr))), (17, .sv (.agg (ApiConfig.cl goal)))], [.box (ApiConfig.cl fr) 39 false, .box (ApiConfig.cl goal) 39 false]⟩ ?_
 refine WL.mt0 (K := []) (p := some (2, rowI 39 ApiConfig.ty ([fr, goal] : (List ApiConfig)))) hn (by rfl) (mt_lit (T := ApiConfig.ty) ([fr, goal] : (List ApiConfig)) (mt_bsl 2 (r := cellsOf ApiConfig.ty ([fr, goal] : (List ApiConfig))) ht rfl (by rfl) (by rfl) (by rfl) (by kernel_rfl) (by rfl)) (fun _ h => by cases h) (fun _ => rfl) (fun _ => rfl) (by rfl) (Nat.le_of_ble_eq_true rfl)) (by rfl) (by rfl) (by rfl) ?_
 obtain ⟨hp, h⟩ := h
 refine WL.m0 hn (mt_lend (T := ApiConfig.ty) (l := ([fr, goal] : (List ApiConfig))) 2 (by rfl) (by rfl) (mt_c (sAsk_ct l ([fr, goal] : (List ApiConfig)) hp) en24 rfl)) ?_
 refine WL.rn ht hn 1 ⟨[sl 0 (LS ApiPush.ty l), sl 4 (.ptr 0 0), sl 5 (.ptr 1 0), (qsWy4), sl 9 (I (askS l ([fr, goal] : (List ApiConfig))))], [.box (ApiConfig.cl fr) 39 false, .box (ApiConfig.cl goal) 39 false, .gone]⟩ ?_
 refine En.sr ?_
 refine WL.rn ht hn 2 ⟨[sl 0 (LS ApiPush.ty l), sl 4 (.ptr 0 0), sl 5 (.ptr 1 0), (qsWy4), sl 9 (I (askS l ([fr, goal] : (List ApiConfig)))), sl 21 (B ((askS l ([fr, goal] : (List ApiConfig))) != 0))], [.box (ApiConfig.cl fr) 39 false, .box (ApiConfig.cl goal) 39 false, .gone]⟩ ?_
 refine En.cd (b := ((askS l ([fr, goal] : (List ApiConfig))) != 0)) (fun hb => ?_) (fun hb => ?_)
 replace h := h.1 hb
 refine En.sr ?_
 refine WL.rn ht hn 4 ⟨[(qsWy4), sl 7 (B false), sl 8 (I (askS l ([fr, goal] : (List ApiConfig))))], [.gone, .gone, .gone]⟩ ?_
 refine En.ret ?_
 refine En.nilLS 6 intT (by rfl) ?_
 exact En.back ht ([], false, (askS l ([fr, goal] : (List ApiConfig)))) h (by kernel_rfl) rfl
 replace h := h.2 hb
 refine En.skip ?_
 refine En.sr ?_
 refine WL.r ht hn 2 ⟨[sl 4 (.ptr 0 0), (qsWy4), sl 23 (LS ApiPush.ty l), (24, .sv (.agg (ApiConfig.cl goal)))], [.box (ApiConfig.cl fr) 39 false, .gone, .gone]⟩ ?_
 obtain ⟨hp, h⟩ := h
 refine WL.callQ [sl 4 (.ptr 0 0), (qsWy4), sl 23 (LS ApiPush.ty l), (24, .sv (.agg (ApiConfig.cl goal)))] (sFnd_ct l goal hp) en25 (caps := []) [] hn (by rfl) rfl (by rfl) (argsAs (by kernel_rfl) (by rfl)) (by kernel_rfl) (by decide) (by kernel_rfl) (by rfl) (by rfl) (fun r hr_2 => ⟨by rfl, _, by rfl, ?_⟩)
 replace h := h r hr_2
 refine WL.rn ht hn 1 ⟨[sl 4 (.ptr 0 0), (qsWy4), (qsWy5)], [.box (ApiConfig.cl fr) 39 false, .gone, .gone, (qsWy3 goal), mapI StackEdge.enc StackKnown.ty r]⟩ ?_
 refine En.seq ?_
 refine En.sr ?_
 refine WL.r ht hn 5 ⟨[(qsWy4), (qsWy5), sl 26 (.ptr 3 0), sl 28 (I fr.fControl), sl 30 (LS intT fr.fStack)], (qsWy6 goal r)⟩ ?_
 obtain ⟨hp, h⟩ := h
 refine WL.cE (sWay_ct goal.fControl goal.fStack r fr.fControl fr.fStack hp) en26 [3, 4] hn rfl ?_
 refine WL.rn ht hn 2 ⟨[(qsWy4), (qsWy5), (qsWy2 goal fr r), (qsWy1 goal fr r), sl 33 (I 0)], (qsWy6 goal r)⟩ ?_
 refine En.block ?_
 obtain ⟨Inv, mu, h0_2, hI_2⟩ := h
 refine En.loop (σ := Int) (fun zz => Inv zz) (fun zz => mu zz) (fun zz => ⟨[(qsWy4), (qsWy5), (qsWy2 goal fr r), (qsWy1 goal fr r), sl 33 (I zz)], (qsWy6 goal r)⟩) 0 h0_2 (sub_ok (by kernel_rfl)) ?_
 intro x33 h
 replace h := hI_2 _ h
 show En c ⟨[(qsWy4), (qsWy5), (qsWy2 goal fr r), (qsWy1 goal fr r), sl 33 (I x33)], (qsWy6 goal r)⟩ _
 refine En.sr ?_
 refine WL.rn ht hn 1 ⟨[(qsWy4), (qsWy5), (qsWy2 goal fr r), (qsWy1 goal fr r), sl 33 (I x33), sl 34 (B (decide (x33 < ((waysS goal.fControl goal.fStack r fr.fControl fr.fStack).length : Int))))], (qsWy6 goal r)⟩ ?_
 refine En.seq ?_
 refine En.cd (b := (decide (x33 < ((waysS goal.fControl goal.fStack r fr.fControl fr.fStack).length : Int)))) (fun hb => ?_) (fun hb => ?_)
 replace h := h.1 hb
 refine En.skip ?_
 refine En.seq ?_
 refine En.block ?_
 refine En.sr ?_
 obtain ⟨e, he, h⟩ := h
 refine WL.v hn (val_ix (T := StackWay.ty) (l := (waysS goal.fControl goal.fStack r fr.fControl fr.fStack)) (i := x33) ht rfl he) ?_
 refine WL.v hn (val_ld (s := .agg (StackWay.cl e)) ht rfl) ?_
 refine WL.rn ht hn 2 ⟨[(qsWy4), (qsWy5), (qsWy8), (qsWy2 goal fr r), (qsWy1 goal fr r), sl 33 (I x33)], (qsWy0 goal r e)⟩ ?_
 refine En.seq ?_
 refine En.seq ?_
 obtain ⟨hp_r3, h⟩ := h
 refine En.regionD ⟨[(qsWy4), (qsWy5), (qsWy8), (qsWy2 goal fr r), (qsWy1 goal fr r), sl 33 (I x33), sl 41 (B (e.fTo != (lstS goal.fStack)))], (qsWy0 goal r e)⟩ (by kernel_rfl) ?_ ?_
 intro N' hF
 refine RD.have 0 #[true, true, true, true, true] ⟨[(qsWy4), (qsWy5), (qsWy8), (qsWy2 goal fr r), (qsWy1 goal fr r), sl 33 (I x33), sl 41 (B (e.fTo != (lstS goal.fStack)))], (qsWy0 goal r e)⟩ (RD.nil (by kernel_rfl) hF) (fun rd9 => ?_)
 refine RD.have 1 #[true, true, true, true, false] ⟨[(qsWy4), (qsWy5), (qsWy8), (qsWy2 goal fr r), (qsWy1 goal fr r), sl 33 (I x33), sl 38 (I e.fTo), sl 40 (I (lstS goal.fStack))], (qsWy0 goal r e)⟩ ?_ (fun rd8 => ?_)
 refine RD.succ [4] (by kernel_rfl) rfl ⟨⟨_, _, _, rfl, ?_, rfl, rd9⟩, trivial⟩
 exact WL.rI ht hn
 refine RD.have 2 #[true, false, true, true, false] ⟨[(qsWy4), (qsWy5), (qsWy8), (qsWy2 goal fr r), (qsWy1 goal fr r), sl 33 (I x33), sl 37 (.ptr 5 0), sl 40 (I (lstS goal.fStack))], (qsWy0 goal r e)⟩ ?_ (fun rd7 => ?_)
 refine RD.succ [1] (by kernel_rfl) rfl ⟨⟨_, _, _, rfl, ?_, rfl, rd8⟩, trivial⟩
 exact WL.rI ht hn
 refine RD.have 2 #[true, true, true, false, false] ⟨[(qsWy4), (qsWy5), (qsWy8), (qsWy2 goal fr r), (qsWy1 goal fr r), sl 33 (I x33), sl 38 (I e.fTo), sl 39 (.ptr 3 0)], (qsWy0 goal r e)⟩ ?_ (fun rd6 => ?_)
 refine RD.succ [3] (by kernel_rfl) rfl ⟨⟨_, _, _, rfl, ?_, rfl, rd8⟩, trivial⟩
 refine WL.cE (sLst_ct goal.fControl goal.fStack r hp_r3) en27 [3, 4] hn rfl ?_
 refine WL.nil ?_
 exact sub_ok (by kernel_rfl)
 refine RD.have 3 #[false, false, true, true, false] ⟨[(qsWy4), (qsWy5), (qsWy8), (qsWy2 goal fr r), (qsWy1 goal fr r), sl 33 (I x33), sl 40 (I (lstS goal.fStack))], (qsWy0 goal r e)⟩ ?_ (fun rd5 => ?_)
 refine RD.succ [0] (by kernel_rfl) rfl ⟨⟨_, _, _, rfl, ?_, rfl, rd7⟩, trivial⟩
 exact WL.rI ht hn
 refine RD.have 3 #[true, false, true, false, false] ⟨[(qsWy4), (qsWy5), (qsWy8), (qsWy2 goal fr r), (qsWy1 goal fr r), sl 33 (I x33), sl 37 (.ptr 5 0), sl 39 (.ptr 3 0)], (qsWy0 goal r e)⟩ ?_ (fun rd4 => ?_)
 refine RD.succ [1, 3] (by kernel_rfl) rfl ⟨⟨_, _, _, rfl, ?_, rfl, rd6⟩, ⟨_, _, _, rfl, ?_, rfl, rd7⟩, trivial⟩
 exact WL.rI ht hn
 refine WL.cE (sLst_ct goal.fControl goal.fStack r hp_r3) en27 [3, 4] hn rfl ?_
 refine WL.nil ?_
 exact sub_ok (by kernel_rfl)
 refine RD.have 3 #[true, true, false, false, false] ⟨[(qsWy4), (qsWy5), (qsWy8), (qsWy2 goal fr r), (qsWy1 goal fr r), sl 33 (I x33), sl 38 (I e.fTo)], (qsWy0 goal r e)⟩ ?_ (fun rd3 => ?_)
 refine RD.succ [2] (by kernel_rfl) rfl ⟨⟨_, _, _, rfl, ?_, rfl, rd6⟩, trivial⟩
 exact WL.rI ht hn
 refine RD.have 4 #[false, false, true, false, false] ⟨[(qsWy4), (qsWy5), (qsWy8), (qsWy2 goal fr r), (qsWy1 goal fr r), sl 33 (I x33), sl 39 (.ptr 3 0)], (qsWy0 goal r e)⟩ ?_ (fun rd2 => ?_)
 refine RD.succ [0, 3] (by kernel_rfl) rfl ⟨⟨_, _, _, rfl, ?_, rfl, rd4⟩, ⟨_, _, _, rfl, ?_, rfl, rd5⟩, trivial⟩
 exact WL.rI ht hn
 refine WL.cE (sLst_ct goal.fControl goal.fStack r hp_r3) en27 [3, 4] hn rfl ?_
 refine WL.nil ?_
 exact sub_ok (by kernel_rfl)
 refine RD.have 4 #[true, false, false, false, false] ⟨[(qsWy4), (qsWy5), (qsWy8), (qsWy2 goal fr r), (qsWy1 goal fr r), sl 33 (I x33), sl 37 (.ptr 5 0)], (qsWy0 goal r e)⟩ ?_ (fun rd1 => ?_)
 refine RD.succ [1, 2] (by kernel_rfl) rfl ⟨⟨_, _, _, rfl, ?_, rfl, rd3⟩, ⟨_, _, _, rfl, ?_, rfl, rd4⟩, trivial⟩
 exact WL.rI ht hn
 exact WL.rI ht hn
 refine RD.have 5 #[false, false, false, false, false] ⟨[(qsWy4), (qsWy5), (qsWy8), (qsWy2 goal fr r), (qsWy1 goal fr r), sl 33 (I x33)], (qsWy0 goal r e)⟩ ?_ (fun rd0 => ?_)
 refine RD.succ [0, 2] (by kernel_rfl) rfl ⟨⟨_, _, _, rfl, ?_, rfl, rd1⟩, ⟨_, _, _, rfl, ?_, rfl, rd2⟩, trivial⟩
 exact WL.rI ht hn
 exact WL.rI ht hn
 exact RD.start rd0 rfl (by kernel_rfl) (sub_ok (by kernel_rfl))
 refine En.cd (b := (e.fTo != (lstS goal.fStack))) (fun hb => ?_) (fun hb => ?_)
 replace h := h.1 hb
 refine En.exit rfl ?_
 refine En.region ?_
 refine WL.rn ht hn 2 ⟨[(qsWy4), (qsWy5), (qsWy2 goal fr r), (qsWy1 goal fr r), sl 33 (I (wr (x33 + 1)))], [.gone, .gone, .gone, (qsWy3 goal), mapI StackEdge.enc StackKnown.ty r, .gone]⟩ ?_
 exact En.at (I := fun zz => Inv zz ∧ mu zz < mu x33) (T := fun zz => ⟨[(qsWy4), (qsWy5), (qsWy2 goal fr r), (qsWy1 goal fr r), sl 33 (I zz)], (qsWy6 goal r)⟩) (wr (x33 + 1)) h (by kernel_rfl)
 replace h := h.2 hb
 refine En.skip ?_
 refine En.seq ?_
 refine En.sr ?_
 refine WL.rn ht hn 3 ⟨[(qsWy4), (qsWy5), (qsWy8), sl 44 (B (decide (e.fCost > 2000)))], (qsWy0 goal r e)⟩ ?_
 refine En.cd (b := (decide (e.fCost > 2000))) (fun hb => ?_) (fun hb => ?_)
 replace h := h.1 hb
 refine En.sr ?_
 refine WL.rn ht hn 3 ⟨[(qsWy4), sl 7 (B false), sl 8 (I 7)], [.gone, .gone, .gone, .gone, .gone, .gone]⟩ ?_
 refine En.ret ?_
 refine En.nilLS 6 intT (by rfl) ?_
 exact En.back ht ([], false, 7) h (by kernel_rfl) rfl
 replace h := h.2 hb
 refine En.skip ?_
 refine En.seq ?_
 refine En.sr ?_
 refine WL.rn ht hn 4 ⟨[(qsWy4), (qsWy5), (qsWy7 e.fOver), sl 47 (I (e.fOver.length : Int)), sl 48 (I 0)], [.gone, .gone, .gone, (qsWy3 goal), mapI StackEdge.enc StackKnown.ty r, .gone]⟩ ?_
 refine En.block ?_
 refine En.rowNil 6 7 3 intT (by rfl) (by rfl) ?_
 obtain ⟨Inv_2, mu_2, h0, hI⟩ := h
 refine En.loop (σ := Int × (List Int)) (fun zz => Inv_2 zz.1 zz.2) (fun zz => mu_2 zz.1 zz.2) (fun zz => ⟨[sl 6 (.own 7), (qsWy5), (qsWy7 e.fOver), sl 47 (I (e.fOver.length : Int)), sl 48 (I zz.1)], [.gone, .gone, .gone, (qsWy3 goal), mapI StackEdge.enc StackKnown.ty r, .gone, .gone, rowI 3 intT zz.2]⟩) (0, ([] : (List Int))) h0 (sub_ok (by kernel_rfl)) ?_
 rintro ⟨x48, l7⟩ h
 replace h := hI _ _ h
 show En c ⟨[sl 6 (.own 7), (qsWy5), (qsWy7 e.fOver), sl 47 (I (e.fOver.length : Int)), sl 48 (I x48)], [.gone, .gone, .gone, (qsWy3 goal), mapI StackEdge.enc StackKnown.ty r, .gone, .gone, rowI 3 intT l7]⟩ _
 refine En.sr ?_
 refine WL.rn ht hn 1 ⟨[sl 6 (.own 7), (qsWy5), (qsWy7 e.fOver), sl 47 (I (e.fOver.length : Int)), sl 48 (I x48), sl 49 (B (decide (x48 < (e.fOver.length : Int))))], [.gone, .gone, .gone, (qsWy3 goal), mapI StackEdge.enc StackKnown.ty r, .gone, .gone, rowI 3 intT l7]⟩ ?_
 refine En.seq ?_
 refine En.cd (b := (decide (x48 < (e.fOver.length : Int)))) (fun hb => ?_) (fun hb => ?_)
 replace h := h.1 hb
 refine En.skip ?_
 refine En.seq ?_
 refine En.block ?_
 refine En.sr ?_
 obtain ⟨e_2, he_2, h⟩ := h
 refine WL.v hn (val_ix (T := StackEdge.ty) (l := e.fOver) (i := x48) ht rfl he_2) ?_
 refine WL.v hn (val_ld (s := .agg (StackEdge.cl e_2)) ht rfl) ?_
 refine WL.rn ht hn 2 ⟨[sl 6 (.own 7), (qsWy5), sl 14 (.ptr 8 0), (qsWy7 e.fOver), sl 47 (I (e.fOver.length : Int)), sl 48 (I x48)], [.gone, .gone, .gone, (qsWy3 goal), mapI StackEdge.enc StackKnown.ty r, .gone, .gone, rowI 3 intT l7, .box (StackEdge.cl e_2) 79 false]⟩ ?_
 refine En.region ?_
 refine WL.r ht hn 3 ⟨[(qsWy5), (qsWy7 e.fOver), sl 47 (I (e.fOver.length : Int)), sl 48 (I x48), sl 52 (.ptr 3 0), (53, .sv (.agg (StackEdge.cl e_2))), sl 54 (.own 7)], [.gone, .gone, .gone, (qsWy3 goal), mapI StackEdge.enc StackKnown.ty r, .gone, .gone, rowI 3 intT l7, .gone]⟩ ?_
 obtain ⟨hp, h⟩ := h
 refine WL.callQ [(qsWy5), (qsWy7 e.fOver), sl 47 (I (e.fOver.length : Int)), sl 48 (I x48), sl 52 (.ptr 3 0), (53, .sv (.agg (StackEdge.cl e_2)))] (sTld_ct goal.fControl goal.fStack r l7 e_2 hp) en28 (caps := []) [3, 4, 7] hn (by rfl) rfl (by rfl) (argsAs (by kernel_rfl) (by rfl)) (by kernel_rfl) (by decide) (by kernel_rfl) (by rfl) (by rfl) (fun r_2 hr_2_2 => ⟨by rfl, _, by rfl, ?_⟩)
 replace h := h r_2 hr_2_2
 refine WL.rn ht hn 1 ⟨[sl 6 (.own 7), (qsWy5), (qsWy7 e.fOver), sl 47 (I (e.fOver.length : Int)), sl 48 (I x48)], [.gone, .gone, .gone, (qsWy3 goal), mapI StackEdge.enc StackKnown.ty r, .gone, .gone, rowI 3 intT r_2, .gone]⟩ ?_
 refine En.region ?_
 refine WL.rn ht hn 2 ⟨[sl 6 (.own 7), (qsWy5), (qsWy7 e.fOver), sl 47 (I (e.fOver.length : Int)), sl 48 (I (wr (x48 + 1)))], [.gone, .gone, .gone, (qsWy3 goal), mapI StackEdge.enc StackKnown.ty r, .gone, .gone, rowI 3 intT r_2, .gone]⟩ ?_
 exact En.at (I := fun zz => Inv_2 zz.1 zz.2 ∧ mu_2 zz.1 zz.2 < mu_2 x48 l7) (T := fun zz => ⟨[sl 6 (.own 7), (qsWy5), (qsWy7 e.fOver), sl 47 (I (e.fOver.length : Int)), sl 48 (I zz.1)], [.gone, .gone, .gone, (qsWy3 goal), mapI StackEdge.enc StackKnown.ty r, .gone, .gone, rowI 3 intT zz.2]⟩) ((wr (x48 + 1)), r_2) h (by kernel_rfl)
 replace h := h.2 hb
 refine En.exit rfl ?_
 refine En.sr ?_
 refine WL.rn ht hn 4 ⟨[sl 6 (.own 7), sl 7 (B true), sl 8 (I 0)], [.gone, .gone, .gone, .gone, .gone, .gone, .gone, rowI 3 intT l7]⟩ ?_
 refine En.ret ?_
 refine En.seal (T := intT) (l := l7) (e := 3) 7 rfl ?_
 exact En.back ht (l7, true, 0) h (by kernel_rfl) rfl
 replace h := h.2 hb
 refine En.exit rfl ?_
 refine En.sr ?_
 refine WL.rn ht hn 3 ⟨[(qsWy4), sl 7 (B false), sl 8 (I 0)], [.gone, .gone, .gone, .gone, .gone]⟩ ?_
 refine En.ret ?_
 refine En.nilLS 6 intT (by rfl) ?_
 exact En.back ht ([], false, 0) h (by kernel_rfl) rfl
theorem en11 : ∀ args w, (callFunc 11 args).run Try.prog w = .ok (.enter 11 args) w := enters_of Try.func11 (by kernel_rfl) rfl
structure WayQ (l : List ApiPush) (fr goal : ApiConfig) (r : List Int × Bool × Int) : Prop where
 bad : askS l [fr, goal] ≠ 0 → r.2.2 = askS l [fr, goal]
 can : askS l [fr, goal] = 0 → r.2.2 = 0 → (r.2.1 = true ↔ FullP (Sat l goal.fControl goal.fStack) goal.fControl goal.fStack fr.fControl fr.fStack (lstS goal.fStack))
 few : askS l [fr, goal] = 0 → (∀ E, FndR l goal.fControl goal.fStack E → ∀ w ∈ waysS goal.fControl goal.fStack E fr.fControl fr.fStack, w.fTo = lstS goal.fStack → w.fCost ≤ 2000) → r.2.2 = 0
theorem sWy_ok (l : List ApiPush) (fr goal : ApiConfig) : sWy_vc l fr goal (WayQ l fr goal) := by
 unfold sWy_vc
 intro _ _ _
 refine ⟨⟨by show 0 < 2; decide, by show 2 ≤ 1000; decide⟩, fun h => ?_, fun h => ?_⟩
 ·have h := bne_iff_ne.1 h
  exact ⟨fun _ => rfl, fun e => absurd e h, fun e => absurd e h⟩
 have h0 : askS l [fr, goal] = 0 := by simpa using h
 obtain ⟨hchd, hgl⟩ := askS_ok h0
 obtain ⟨hck, hcf⟩ := chdS_ok hchd
 have hfr := cfgS_ok (hcf fr (by simp))
 have hgo := cfgS_ok (hcf goal (by simp))
 have hgl : goal.fStack.length ≤ 3 := hgl
 have hct := hfr.ctl
 refine ⟨⟨hck, hgo, hgl⟩, fun E hE => ?_⟩
 have hE : FndR l goal.fControl goal.fStack E := hE
 have hcost := hE.inv.costs
 have hpre : WayPre goal.fControl goal.fStack E fr.fControl fr.fStack := ⟨hgl, hfr.len, hcost, ⟨hct.1, by omega⟩⟩
 have hWl : (waysS goal.fControl goal.fStack E fr.fControl fr.fStack).length ≤ 2 * (goal.fStack.length + 4) := fold_len (by have := start_len (gc := goal.fControl) (gs := goal.fStack) (fr := fr.fControl); omega)
 have hWo := ways_ok' (E := E) (gc := goal.fControl) (gs := goal.fStack) (signs := fr.fStack) hcost (fr := fr.fControl) ⟨hct.1, by omega⟩
 have hrc := hE.reach (fr := fr.fControl) (q := lstS goal.fStack) (signs := fr.fStack)
 have hfew : ∀ w ∈ waysS goal.fControl goal.fStack E fr.fControl fr.fStack, w.fTo = lstS goal.fStack → ¬ w.fCost ≤ 2000 → ¬ (∀ E, FndR l goal.fControl goal.fStack E → ∀ w ∈ waysS goal.fControl goal.fStack E fr.fControl fr.fStack, w.fTo = lstS goal.fStack → w.fCost ≤ 2000) := fun w hw e hn h => hn (h E hE w hw e)
 refine ⟨hpre, ?_⟩
 generalize waysS goal.fControl goal.fStack E fr.fControl fr.fStack = W at hWl hWo hrc hfew ⊢
 refine ⟨fun i => ∃ k : Nat, i = k ∧ k ≤ W.length ∧ ∀ j, j < k → ∀ w, W[j]? = some w → w.fTo ≠ lstS goal.fStack, fun i => W.length - i.toNat, ⟨0, rfl, Nat.zero_le _, fun j hj => absurd hj (Nat.not_lt_zero _)⟩, ?_⟩
 rintro i ⟨k, rfl, hk, hno⟩
 refine ⟨fun hb => ?_, fun hb => ?_⟩
 ·have hlt := dlt hb
  have hmem := List.getElem_mem hlt
  refine ⟨_, idx_at hlt, ?_⟩
  have hget : W[k]? = some W[k] := List.getElem?_eq_getElem hlt
  generalize W[k] = w at hmem hget ⊢
  refine ⟨by omega, fun hn => ⟨⟨k + 1, wsucc (by omega), hlt, fun j hj w' hw' => ?_⟩, mu_up hlt (by omega)⟩, fun hn => ?_⟩
  ·by_cases e : j = k
   ·subst e
    rw [hget] at hw'
    cases hw'
    exact bne_iff_ne.1 hn
   ·exact hno j (by omega) w' hw'
  have hto : w.fTo = lstS goal.fStack := by simpa using hn
  have hwo := hWo w hmem
  have hwc := hwo.cost
  refine ⟨fun hc => ⟨fun e => absurd h0 e, (fun _ e => by cases e), fun _ hf => absurd hf (hfew w hmem hto (by have := of_decide_eq_true hc; omega))⟩, fun hc => ?_⟩
  have hc : ¬ w.fCost > 2000 := of_decide_eq_false hc
  have hsum := hwo.sum (by omega)
  have hlen := hwo.len
  have hfl := hfr.len
  refine ⟨fun i l => ∃ j : Nat, i = j ∧ j ≤ w.fOver.length ∧ (l.length : Int) ≤ sumC E (w.fOver.take j), fun i _ => w.fOver.length - i.toNat, ⟨0, rfl, Nat.zero_le _, Int.le_refl _⟩, ?_⟩
  rintro i l7 ⟨j, rfl, hj, hl7⟩
  refine ⟨fun hb2 => ?_, fun _ => ⟨fun e => absurd h0 e, fun _ _ => ⟨fun _ => hrc.1 ⟨w, hmem, hto⟩, fun _ => rfl⟩, fun _ _ => rfl⟩⟩
  have hjt := dlt hb2
  have hst := sumC_step (E := E) hjt
  have ht := sumC_take hcost (o := w.fOver) (j := j + 1)
  have ht0 := sumC_nn hcost (w.fOver.take j)
  refine ⟨_, idx_at hjt, ⟨hcost, hE.inv.ok, hwo.has _ (List.getElem_mem hjt), by omega, by omega, by omega⟩, fun r hr => ⟨⟨j + 1, wsucc (by omega), hjt, ?_⟩, mu_up hjt (by omega)⟩⟩
  have hr : (r.length : Int) ≤ l7.length + costE E w.fOver[j] := hr
  omega
 ·have hke := dge hb
  refine ⟨fun e => absurd h0 e, fun _ _ => ⟨(fun e => by cases e), fun hp => ?_⟩, fun _ _ => rfl⟩
  obtain ⟨w, hw, e⟩ := hrc.2 hp
  obtain ⟨q, hq, eq⟩ := List.getElem_of_mem hw
  exact absurd e (hno q (by omega) w (by rw [List.getElem?_eq_getElem hq, eq]))
theorem sWy_ct (l : List ApiPush) (fr goal : ApiConfig) : Ct 11 [.sv (.one (LS ApiPush.ty l)), .sv (.agg [I fr.fControl, LS intT fr.fStack]), .sv (.agg [I goal.fControl, LS intT goal.fStack])] [] (WayQ l fr goal) (fun (r : ((List Int) × Bool × Int)) => .tup [.one (LS intT r.1), .one (B r.2.1), .one (I r.2.2)]) := sWy_walk l fr goal (WayQ l fr goal) (sWy_ok l fr goal)
def stkGo_vc (l : (List ApiPush)) (cf : ApiConfig) (rule : Int) (goal : ApiConfig) (Q : Bool → Prop) : Prop :=
 l.length ≤ 9223372036854775807 →
 cf.fStack.length ≤ 9223372036854775807 →
 goal.fStack.length ≤ 9223372036854775807 →
 (∀ r : ((List Int) × Bool × Int), (WayQ ([(ApiPush.mk 0 0 1 [])] : (List ApiPush)) (ApiConfig.mk 0 ([0] : (List Int))) (ApiConfig.mk 1 [])) r →
 (IfP ((r.2.2 != 0) || (!r.2.1)) (Q false) (IfP (((stepS l cf rule).2 != 0) || (decide (((stepS l cf rule).1.fStack.length : Int) > 20))) (Q true) (∀ r_2 : ((List Int) × Bool × Int), (WayQ l cf goal) r_2 →
 (∀ r_3 : ((List Int) × Bool × Int), (WayQ l (stepS l cf rule).1 goal) r_3 →
 (IfP ((r_2.2.2 != 0) || (r_3.2.2 != 0)) (Q true) (Q ((!r_3.2.1) || r_2.2.1))))))))
noncomputable abbrev qstkGo0 (cf : ApiConfig) (goal : ApiConfig) (l : (List ApiPush)) (rule : Int) := ([.box (ApiConfig.cl cf) 39 false, .box (ApiConfig.cl goal) 39 false, .gone, .gone, .box (ApiConfig.cl (stepS l cf rule).1) 39 false] : List Item)
noncomputable abbrev qstkGo1 (cf : ApiConfig) (goal : ApiConfig) := ([.box (ApiConfig.cl cf) 39 false, .box (ApiConfig.cl goal) 39 false, .gone, .gone] : List Item)
noncomputable abbrev qstkGo2 := ([.gone, .gone, .gone, .gone, .gone] : List Item)
noncomputable abbrev qstkGo3 (l : (List ApiPush)) := sl 0 (LS ApiPush.ty l)
noncomputable abbrev qstkGo4 := sl 7 (.ptr 1 0)
theorem stkGo_walk (l : (List ApiPush)) (cf : ApiConfig) (rule : Int) (goal : ApiConfig) (Q : Bool → Prop) (h : stkGo_vc l cf rule goal Q) : Ct 4 [.sv (.one (LS ApiPush.ty l)), .sv (.agg [I cf.fControl, LS intT cf.fStack]), .sv (.one (I rule)), .sv (.agg [I goal.fControl, LS intT goal.fStack])] [] Q (fun (r : Bool) => .sv (.one (B r))) := by
 have ht := tab_ok
 refine Ct.body Try.func4 rfl rfl rfl rfl (fun c hn => ?_)
 unfold stkGo_vc at h
 refine En.lenL 0 (by rfl) (fun hl => ?_)
 replace h := h hl
 clear hl
 refine En.lenA 1 1 (by rfl) (by rfl) (fun hl => ?_)
 replace h := h hl
 clear hl
 refine En.lenA 3 1 (by rfl) (by rfl) (fun hl => ?_)
 replace h := h hl
 clear hl
 refine En.sr ?_
 refine WL.rn ht hn 3 ⟨[(qstkGo3 l), sl 2 (I rule), sl 5 (.ptr 0 0), (qstkGo4)], [.box (ApiConfig.cl cf) 39 false, .box (ApiConfig.cl goal) 39 false]⟩ ?_
 refine En.sr ?_
 refine WL.r ht hn 1 ⟨[(qstkGo3 l), sl 2 (I rule), sl 5 (.ptr 0 0), (qstkGo4), (20, .sv (.agg [I 0, I 0, I 1, .v (.slice none 0 0)]))], [.box (ApiConfig.cl cf) 39 false, .box (ApiConfig.cl goal) 39 false]⟩ ?_
 refine WL.mt0 (K := []) (p := some (2, rowI 41 ApiPush.ty ([(ApiPush.mk 0 0 1 [])] : (List ApiPush)))) hn (by rfl) (mt_lit (T := ApiPush.ty) ([(ApiPush.mk 0 0 1 [])] : (List ApiPush)) (mt_nilBox (T := intT) 3 (mt_bsl 2 (r := [I 0, I 0, I 1, .v (.slice none 0 0)]) ht rfl (by rfl) (by rfl) (by rfl) (by kernel_rfl) (by rfl)) (by rfl)) (fun _ h => by cases h) (fun _ => rfl) (fun _ => rfl) (by rfl) (Nat.le_of_ble_eq_true rfl)) (by rfl) (by rfl) (by rfl) ?_
 refine WL.rn ht hn 1 ⟨[(qstkGo3 l), sl 2 (I rule), sl 5 (.ptr 0 0), (qstkGo4), sl 9 (.own 2)], [.box (ApiConfig.cl cf) 39 false, .box (ApiConfig.cl goal) 39 false, rowI 41 ApiPush.ty ([(ApiPush.mk 0 0 1 [])] : (List ApiPush))]⟩ ?_
 refine En.sr ?_
 refine WL.r ht hn 1 ⟨[(qstkGo3 l), sl 2 (I rule), sl 5 (.ptr 0 0), (qstkGo4), sl 23 (.own 2)], [.box (ApiConfig.cl cf) 39 false, .box (ApiConfig.cl goal) 39 false, rowI 41 ApiPush.ty ([(ApiPush.mk 0 0 1 [])] : (List ApiPush))]⟩ ?_
 refine WL.mt0 (K := []) (p := some (3, rowI 3 intT ([0] : (List Int)))) hn (by rfl) (mt_lit (T := intT) ([0] : (List Int)) (mt_bsl 3 (r := cellsOf intT ([0] : (List Int))) ht rfl (by rfl) (by rfl) (by rfl) (by kernel_rfl) (by rfl)) (fun _ h => by cases h) (fun _ => rfl) (fun _ => rfl) (by rfl) (Nat.le_of_ble_eq_true rfl)) (by rfl) (by rfl) (by rfl) ?_
 refine WL.r ht hn 2 ⟨[(qstkGo3 l), sl 2 (I rule), sl 5 (.ptr 0 0), (qstkGo4), sl 23 (.own 2), (25, .sv (.agg [I 0, .own 3])), (26, .sv (.agg [I 1, .v (.slice none 0 0)]))], [.box (ApiConfig.cl cf) 39 false, .box (ApiConfig.cl goal) 39 false, rowI 41 ApiPush.ty ([(ApiPush.mk 0 0 1 [])] : (List ApiPush)), rowI 3 intT ([0] : (List Int))]⟩ ?_
 refine WL.seal (T := ApiPush.ty) (l := ([(ApiPush.mk 0 0 1 [])] : (List ApiPush))) (e := 41) 2 rfl ?_
 refine WL.r ht hn 0 ⟨[(qstkGo3 l), sl 2 (I rule), sl 5 (.ptr 0 0), (qstkGo4), sl 23 (LS ApiPush.ty ([(ApiPush.mk 0 0 1 [])] : (List ApiPush))), (25, .sv (.agg [I 0, .own 3])), (26, .sv (.agg [I 1, .v (.slice none 0 0)]))], [.box (ApiConfig.cl cf) 39 false, .box (ApiConfig.cl goal) 39 false, .gone, rowI 3 intT ([0] : (List Int))]⟩ ?_
 refine WL.seal (T := intT) (l := ([0] : (List Int))) (e := 3) 3 rfl ?_
 refine WL.r ht hn 0 ⟨[(qstkGo3 l), sl 2 (I rule), sl 5 (.ptr 0 0), (qstkGo4), sl 23 (LS ApiPush.ty ([(ApiPush.mk 0 0 1 [])] : (List ApiPush))), (25, .sv (.agg [I 0, LS intT ([0] : (List Int))])), (26, .sv (.agg [I 1, .v (.slice none 0 0)]))], (qstkGo1 cf goal)⟩ ?_
 refine WL.nilAgg (T := intT) 26 1 (by rfl) (by rfl) ?_
 refine WL.mtQ (Q := WayQ ([(ApiPush.mk 0 0 1 [])] : (List ApiPush)) (ApiConfig.mk 0 ([0] : (List Int))) (ApiConfig.mk 1 [])) (x := fun (r : ((List Int) × Bool × Int)) => .tup [.one (LS intT r.1), .one (B r.2.1), .one (I r.2.2)]) (p := fun _ => none) hn (by rfl) (mtq_call (sWy_ct ([(ApiPush.mk 0 0 1 [])] : (List ApiPush)) (ApiConfig.mk 0 ([0] : (List Int))) (ApiConfig.mk 1 [])) en11 (caps := []) [] rfl (by rfl) (by kernel_rfl) (by kernel_rfl) (by rfl) (fun _ => rfl) (by rfl)) (fun r hr_2 => ⟨by rfl, _, by rfl, ?_⟩)
 replace h := h r hr_2
 refine WL.rn ht hn 7 ⟨[(qstkGo3 l), sl 2 (I rule), sl 5 (.ptr 0 0), (qstkGo4), sl 11 (B r.2.1), sl 12 (I r.2.2)], (qstkGo1 cf goal)⟩ ?_
 refine En.seq ?_
 refine En.sr ?_
 refine WL.r ht hn 3 ⟨[(qstkGo3 l), sl 2 (I rule), sl 5 (.ptr 0 0), (qstkGo4), sl 11 (B r.2.1), sl 33 (B (r.2.2 != 0))], (qstkGo1 cf goal)⟩ ?_
 refine WL.thru ⟨[(qstkGo3 l), sl 2 (I rule), sl 5 (.ptr 0 0), (qstkGo4), sl 36 (B ((r.2.2 != 0) || (!r.2.1)))], (qstkGo1 cf goal)⟩ ?_ ?_
 refine splitB (r.2.2 != 0) (fun hb0 => ?_) (fun hb0 => ?_)
 refine WL.sB 33 hb0 ?_
 refine WL.r ht hn 3 ⟨[(qstkGo3 l), sl 2 (I rule), sl 5 (.ptr 0 0), (qstkGo4), sl 36 (B true)], (qstkGo1 cf goal)⟩ ?_
 exact WL.nil (sub_ok (by simp only [hb0]; kernel_rfl))
 refine WL.sB 33 hb0 ?_
 refine WL.r ht hn 3 ⟨[(qstkGo3 l), sl 2 (I rule), sl 5 (.ptr 0 0), (qstkGo4), sl 36 (B (!r.2.1))], (qstkGo1 cf goal)⟩ ?_
 exact WL.nil (sub_ok (by simp only [hb0]; kernel_rfl))
 refine En.cd (b := ((r.2.2 != 0) || (!r.2.1))) (fun hb => ?_) (fun hb => ?_)
 replace h := h.1 hb
 refine En.sr ?_
 refine WL.rn ht hn 1 ⟨[sl 8 (B false)], [.gone, .gone, .gone, .gone]⟩ ?_
 exact En.rb ht false h
 replace h := h.2 hb
 refine En.skip ?_
 refine En.sr ?_
 refine WL.r ht hn 3 ⟨[(qstkGo3 l), sl 5 (.ptr 0 0), (qstkGo4), sl 38 (LS ApiPush.ty l), (39, .sv (.agg (ApiConfig.cl cf))), sl 40 (I rule)], (qstkGo1 cf goal)⟩ ?_
 refine WL.m0 hn (mt_c (sStp_ct l cf rule) en12 rfl) ?_
 refine WL.rn ht hn 6 ⟨[(qstkGo3 l), sl 5 (.ptr 0 0), (qstkGo4), sl 12 (I (stepS l cf rule).2), sl 13 (.ptr 4 0)], (qstkGo0 cf goal l rule)⟩ ?_
 refine En.seq ?_
 refine En.sr ?_
 refine WL.r ht hn 3 ⟨[(qstkGo3 l), sl 5 (.ptr 0 0), (qstkGo4), sl 13 (.ptr 4 0), sl 46 (B ((stepS l cf rule).2 != 0))], (qstkGo0 cf goal l rule)⟩ ?_
 refine WL.thru ⟨[(qstkGo3 l), sl 5 (.ptr 0 0), (qstkGo4), sl 13 (.ptr 4 0), sl 51 (B (((stepS l cf rule).2 != 0) || (decide (((stepS l cf rule).1.fStack.length : Int) > 20))))], (qstkGo0 cf goal l rule)⟩ ?_ ?_
 refine splitB ((stepS l cf rule).2 != 0) (fun hb0 => ?_) (fun hb0 => ?_)
 refine WL.sB 46 hb0 ?_
 refine WL.r ht hn 5 ⟨[(qstkGo3 l), sl 5 (.ptr 0 0), (qstkGo4), sl 13 (.ptr 4 0), sl 51 (B true)], (qstkGo0 cf goal l rule)⟩ ?_
 exact WL.nil (sub_ok (by simp only [hb0]; kernel_rfl))
 refine WL.sB 46 hb0 ?_
 refine WL.r ht hn 5 ⟨[(qstkGo3 l), sl 5 (.ptr 0 0), (qstkGo4), sl 13 (.ptr 4 0), sl 51 (B (decide (((stepS l cf rule).1.fStack.length : Int) > 20)))], (qstkGo0 cf goal l rule)⟩ ?_
 exact WL.nil (sub_ok (by simp only [hb0]; kernel_rfl))
 refine En.cd (b := (((stepS l cf rule).2 != 0) || (decide (((stepS l cf rule).1.fStack.length : Int) > 20)))) (fun hb => ?_) (fun hb => ?_)
 replace h := h.1 hb
 refine En.sr ?_
 refine WL.rn ht hn 1 ⟨[sl 8 (B true)], (qstkGo2)⟩ ?_
 exact En.rb ht true h
 replace h := h.2 hb
 refine En.skip ?_
 refine En.sr ?_
 refine WL.r ht hn 3 ⟨[(qstkGo3 l), (qstkGo4), sl 13 (.ptr 4 0), sl 53 (LS ApiPush.ty l), (54, .sv (.agg (ApiConfig.cl cf))), (55, .sv (.agg (ApiConfig.cl goal)))], [.gone, .box (ApiConfig.cl goal) 39 false, .gone, .gone, .box (ApiConfig.cl (stepS l cf rule).1) 39 false]⟩ ?_
 refine WL.mtQ (Q := WayQ l cf goal) (x := fun (r : ((List Int) × Bool × Int)) => .tup [.one (LS intT r.1), .one (B r.2.1), .one (I r.2.2)]) (p := fun _ => none) hn (by rfl) (mtq_call (sWy_ct l cf goal) en11 (caps := []) [] rfl (by rfl) (by kernel_rfl) (by kernel_rfl) (by rfl) (fun _ => rfl) (by rfl)) (fun r_2 hr_2_2 => ⟨by rfl, _, by rfl, ?_⟩)
 replace h := h r_2 hr_2_2
 refine WL.rn ht hn 7 ⟨[(qstkGo3 l), (qstkGo4), sl 13 (.ptr 4 0), sl 15 (B r_2.2.1), sl 16 (I r_2.2.2)], [.gone, .box (ApiConfig.cl goal) 39 false, .gone, .gone, .box (ApiConfig.cl (stepS l cf rule).1) 39 false]⟩ ?_
 refine En.sr ?_
 refine WL.r ht hn 3 ⟨[sl 15 (B r_2.2.1), sl 16 (I r_2.2.2), sl 61 (LS ApiPush.ty l), (62, .sv (.agg (ApiConfig.cl (stepS l cf rule).1))), (63, .sv (.agg (ApiConfig.cl goal)))], (qstkGo2)⟩ ?_
 refine WL.mtQ (Q := WayQ l (stepS l cf rule).1 goal) (x := fun (r : ((List Int) × Bool × Int)) => .tup [.one (LS intT r.1), .one (B r.2.1), .one (I r.2.2)]) (p := fun _ => none) hn (by rfl) (mtq_call (sWy_ct l (stepS l cf rule).1 goal) en11 (caps := []) [] rfl (by rfl) (by kernel_rfl) (by kernel_rfl) (by rfl) (fun _ => rfl) (by rfl)) (fun r_3 hr_3 => ⟨by rfl, _, by rfl, ?_⟩)
 replace h := h r_3 hr_3
 refine WL.rn ht hn 7 ⟨[sl 15 (B r_2.2.1), sl 16 (I r_2.2.2), sl 18 (B r_3.2.1), sl 19 (I r_3.2.2)], (qstkGo2)⟩ ?_
 refine En.seq ?_
 refine En.sr ?_
 refine WL.r ht hn 3 ⟨[sl 15 (B r_2.2.1), sl 18 (B r_3.2.1), sl 19 (I r_3.2.2), sl 70 (B (r_2.2.2 != 0))], (qstkGo2)⟩ ?_
 refine WL.thru ⟨[sl 15 (B r_2.2.1), sl 18 (B r_3.2.1), sl 73 (B ((r_2.2.2 != 0) || (r_3.2.2 != 0)))], (qstkGo2)⟩ ?_ ?_
 refine splitB (r_2.2.2 != 0) (fun hb0 => ?_) (fun hb0 => ?_)
 refine WL.sB 70 hb0 ?_
 refine WL.r ht hn 3 ⟨[sl 15 (B r_2.2.1), sl 18 (B r_3.2.1), sl 73 (B true)], (qstkGo2)⟩ ?_
 exact WL.nil (sub_ok (by simp only [hb0]; kernel_rfl))
 refine WL.sB 70 hb0 ?_
 refine WL.r ht hn 3 ⟨[sl 15 (B r_2.2.1), sl 18 (B r_3.2.1), sl 73 (B (r_3.2.2 != 0))], (qstkGo2)⟩ ?_
 exact WL.nil (sub_ok (by simp only [hb0]; kernel_rfl))
 refine En.cd (b := ((r_2.2.2 != 0) || (r_3.2.2 != 0))) (fun hb => ?_) (fun hb => ?_)
 replace h := h.1 hb
 refine En.sr ?_
 refine WL.rn ht hn 1 ⟨[sl 8 (B true)], (qstkGo2)⟩ ?_
 exact En.rb ht true h
 replace h := h.2 hb
 refine En.skip ?_
 refine En.sr ?_
 refine WL.r ht hn 3 ⟨[sl 15 (B r_2.2.1), sl 76 (B (!r_3.2.1))], (qstkGo2)⟩ ?_
 refine WL.thru ⟨[sl 8 (B ((!r_3.2.1) || r_2.2.1))], (qstkGo2)⟩ ?_ ?_
 refine splitB (!r_3.2.1) (fun hb0 => ?_) (fun hb0 => ?_)
 refine WL.sB 76 hb0 ?_
 refine WL.r ht hn 3 ⟨[sl 8 (B true)], (qstkGo2)⟩ ?_
 exact WL.nil (sub_ok (by simp only [hb0]; kernel_rfl))
 refine WL.sB 76 hb0 ?_
 refine WL.r ht hn 3 ⟨[sl 8 (B r_2.2.1)], (qstkGo2)⟩ ?_
 exact WL.nil (sub_ok (by simp only [hb0]; kernel_rfl))
 exact En.rb ht ((!r_3.2.1) || r_2.2.1) h
theorem one_ask : askS [ApiPush.mk 0 0 1 []] [ApiConfig.mk 0 [0], ApiConfig.mk 1 []] = 0 := by decide
theorem one_cost {E : EMap} (h : FndR [ApiPush.mk 0 0 1 []] 1 [] E) : ∀ w ∈ waysS 1 [] E 0 [0], w.fTo = lstS [] → w.fCost ≤ 2000 := by
 have hst : startS 1 [] 0 = [StackWay.mk 0 0 []] := rfl
 have hst1 : startS 1 [] 1 = [StackWay.mk 1 0 [], StackWay.mk (lstS []) 0 []] := rfl
 have hdone : ∀ t : Int, StackWay.mk t 0 [] ∈ startS 1 [] 1 → ∃ k, mget (StackEdge.mk 0 0 t) E = some k ∧ k.fCost ≤ 1 := fun t ht => by
  obtain ⟨k, h1, h2⟩ := h.done (ApiPush.mk 0 0 1 []) (by simp) (StackWay.mk t 0 []) ht
  exact ⟨k, h1, h2⟩
 have hP : ∀ u x, mget u (bestF E 4 0 [StackWay.mk 0 0 []] []) = some x → x.fTo = u := best_all (P := fun u x => x.fTo = u) (fun u x h => by cases h) (fun w _ i _ _ => rfl)
 have hC : ∀ i : Nat, i < 4 → StackWay.mk (i : Int) 0 [] ∈ startS 1 [] 1 → ∀ y, mget (i : Int) (bestF E 4 0 [StackWay.mk 0 0 []] []) = some y → y.fCost ≤ 1 := fun i hi hm y hy => by
  obtain ⟨k, h1, h2⟩ := hdone _ hm
  obtain ⟨z, h3, h4⟩ := best_has (E := E) (n := 4) (sign := 0) (b := []) (i := i) hi (l := [StackWay.mk 0 0 []]) (w := StackWay.mk 0 0 []) (by simp) (by unfold keyE; rw [show (StackWay.mk 0 0 []).fTo = 0 from rfl, h1]; rfl)
  rw [hy] at h3
  cases h3
  have hk := (h.inv.ok _ k h1).cost
  have h4 : y.fCost ≤ costS 0 ((mget (StackEdge.mk 0 0 (i : Int)) E).getD kn0).fCost := h4
  rw [h1] at h4
  have h4 : y.fCost ≤ costS 0 k.fCost := h4
  rw [costS_of ⟨Int.le_refl _, by decide⟩ hk] at h4
  split at h4 <;> omega
 intro w hw hto
 have hw : w ∈ outS 1 [] (bestF E 4 0 [StackWay.mk 0 0 []] []) 4 := hw
 obtain ⟨i, hi, y, hy, hc⟩ := mem_out.1 hw
 have hto : w.fTo = 3 := hto
 rcases hc with rfl | ⟨e, _, rfl⟩
 ·have := hP _ _ hy
  obtain rfl : i = 3 := by omega
  have := hC 3 hi (by rw [hst1]; exact List.mem_cons_of_mem _ List.mem_cons_self) _ hy
  omega
 ·obtain rfl : i = 1 := by omega
  have := hC 1 hi (by rw [hst1]; exact List.mem_cons_self) _ hy
  show y.fCost ≤ 2000
  omega
theorem one_can : FullP (Sat [ApiPush.mk 0 0 1 []] 1 []) 1 [] 0 [0] (lstS []) :=
 ⟨0, .inl rfl, lstS [], (sat_closed _ _ _).rule (ApiPush.mk 0 0 1 []) (by simp) (lstS []) ⟨lstS [], .inr ⟨rfl, rfl, rfl⟩, rfl⟩, lstS [], .inl rfl, rfl⟩
theorem step_is {l : List ApiPush} {cf : ApiConfig} {rule : Int} (h : (stepS l cf rule).2 = 0) : ∃ r ∈ l, cf.fControl = r.fFrom ∧ cf.fStack = r.fTop :: cf.fStack.drop 1 ∧ (stepS l cf rule).1 = ApiConfig.mk r.fTo (r.fPut ++ cf.fStack.drop 1) := by
 unfold stepS at h ⊢
 by_cases h1 : chdS l [cf] ≠ 0
 ·rw [if_pos h1] at h
  exact absurd h h1
 rw [if_neg h1] at h ⊢
 by_cases h2 : ((decide (rule < 0)) || (decide (rule ≥ (l.length : Int)))) = true
 ·rw [if_pos h2] at h
  cases h
 rw [if_neg h2] at h ⊢
 by_cases h3 : misS cf (l.getD rule.toNat (ApiPush.mk 0 0 0 [])) = true
 ·rw [if_pos h3] at h
  cases h
 rw [if_neg h3]
 rw [Bool.not_eq_true, Bool.or_eq_false_iff, decide_eq_false_iff_not, decide_eq_false_iff_not] at h2
 refine ⟨_, getD_mem (z := ApiPush.mk 0 0 0 []) (show rule.toNat < l.length by omega), ?_, ?_, rfl⟩
 all_goals
  unfold misS at h3
  rw [Bool.not_eq_true, Bool.or_eq_false_iff, Bool.or_eq_false_iff, bne_eq_false_iff_eq, bne_eq_false_iff_eq, beq_eq_false_iff_ne] at h3
 ·exact h3.1
 ·have h4 := h3.2.2
  cases hs : cf.fStack with
  | nil => exact absurd (by rw [hs]; rfl) h3.2.1
  | cons a t =>
   rw [hs] at h4
   have h4 : a = _ := h4
   rw [← h4]
   rfl
theorem goes_on {l : List ApiPush} {cf goal : ApiConfig} {rule : Int} {r2 r3 : List Int × Bool × Int} (h : (stepS l cf rule).2 = 0) (h2 : WayQ l cf goal r2) (h3 : WayQ l (stepS l cf rule).1 goal r3) (e2 : r2.2.2 = 0) (e3 : r3.2.2 = 0) (ht : r3.2.1 = true) : r2.2.1 = true := by
 have a2 : askS l [cf, goal] = 0 := Decidable.byContradiction fun hn => hn ((h2.bad hn).symm.trans e2)
 have a3 : askS l [(stepS l cf rule).1, goal] = 0 := Decidable.byContradiction fun hn => hn ((h3.bad hn).symm.trans e3)
 have hp := (h3.can a3 e3).1 ht
 obtain ⟨r, hr, c1, c2, c3⟩ := step_is h
 rw [c3] at hp
 refine (h2.can a2 e2).2 ?_
 rw [c1, c2]
 exact sat_ahead hr hp
theorem stackGoes_ct (l : (List ApiPush)) (cf : ApiConfig) (rule : Int) (goal : ApiConfig)  : Ct 4 [.sv (.one (LS ApiPush.ty l)), .sv (.agg [I cf.fControl, LS intT cf.fStack]), .sv (.one (I rule)), .sv (.agg [I goal.fControl, LS intT goal.fStack])] [] (fun (_ : Unit) => True) (fun _ => .sv (.one (B (true)))) := by
 refine (stkGo_walk l cf rule goal (fun res_ => res_ = (true)) ?_).fun
 unfold stkGo_vc
 intro _ _ _ r hr
 have e0 : r.2.2 = 0 := hr.few one_ask fun E hE => one_cost hE
 have e1 : r.2.1 = true := (hr.can one_ask e0).2 one_can
 refine ⟨fun h => ?_, fun _ => ⟨fun _ => rfl, fun h r2 h2 r3 h3 => ⟨fun _ => rfl, fun h4 => ?_⟩⟩⟩
 ·rw [e0, e1] at h
  cases h
 rw [Bool.or_eq_false_iff, bne_eq_false_iff_eq] at h h4
 have h5 : r3.2.2 = 0 := by simpa using h4.2
 cases ht : r3.2.1 with
 | false => rfl
 | true =>
  rw [goes_on h.1 h2 h3 h4.1 h5 ht]
  rfl
end Go.Proofs.Ytiejmeedkhkfgaa
