/- Lemmas towards the statement: mirrors of functions, and plain laws. No condition. -/
import Derived.Test.YtobenjahlicnoaaPackGramParts4
namespace Go.Proofs.Ytobenjahlicnoaa
open Go.RowKit Go.MapKept
set_option linter.unusedSimpArgs false
set_option linter.unusedVariables false
set_option maxRecDepth 100000
def gCk1_vc (s : Int) (g : ApiGrammar) (Q : Bool → Prop) : Prop :=
 Q ((decide (s < 0)) || (decide (s ≥ (wr (g.fLetters + g.fNames)))))
theorem gCk1_walk (s : Int) (g : ApiGrammar) (Q : Bool → Prop) (h : gCk1_vc s g Q) : Ct 82 [.sv (.one (I s)), .sv (.one (.ptr 0 0))] [.box [I g.fLetters, I g.fNames, LS ApiMake.ty g.fMakes] 37 true] Q (fun (r : Bool) => .sv (.one (B r))) := by
 have ht := tab_ok
 refine Ct.body Try.func82 rfl rfl rfl rfl (fun c hn => ?_)
 unfold gCk1_vc at h
 refine En.sr ?_
 refine WL.rn ht hn 1 ⟨[sl 0 (I s), sl 1 (.ptr 0 0)], [.box (ApiGrammar.cl g) 37 true]⟩ ?_
 refine En.sr ?_
 refine WL.r ht hn 3 ⟨[sl 0 (I s), sl 1 (.ptr 0 0), sl 6 (B (decide (s < 0)))], [.box (ApiGrammar.cl g) 37 true]⟩ ?_
 refine WL.thru ⟨[sl 3 (B ((decide (s < 0)) || (decide (s ≥ (wr (g.fLetters + g.fNames))))))], [.gone]⟩ ?_ ?_
 refine splitB (decide (s < 0)) (fun hb0 => ?_) (fun hb0 => ?_)
 refine WL.sB 6 hb0 ?_
 refine WL.r ht hn 9 ⟨[sl 3 (B true)], [.gone]⟩ ?_
 exact WL.nil (sub_ok (by simp only [hb0]; kernel_rfl))
 refine WL.sB 6 hb0 ?_
 refine WL.r ht hn 9 ⟨[sl 3 (B (decide (s ≥ (wr (g.fLetters + g.fNames)))))], [.gone]⟩ ?_
 exact WL.nil (sub_ok (by simp only [hb0]; kernel_rfl))
 exact En.rb ht ((decide (s < 0)) || (decide (s ≥ (wr (g.fLetters + g.fNames))))) h
theorem en82 : ∀ args w, (callFunc 82 args).run Try.prog w = .ok (.enter 82 args) w := enters_of Try.func82 (by kernel_rfl) rfl
theorem gCk1_ct (s : Int) (g : ApiGrammar)  : Ct 82 [.sv (.one (I s)), .sv (.one (.ptr 0 0))] [.box [I g.fLetters, I g.fNames, LS ApiMake.ty g.fMakes] 37 true] (fun (_ : Unit) => True) (fun _ => .sv (.one (B (gBad g s)))) := by
 refine (gCk1_walk s g (fun res_ => res_ = (gBad g s)) ?_).fun
 exact rfl
def gChk_vc (g : ApiGrammar) (Q : Int → Prop) : Prop :=
 g.fMakes.length ≤ 9223372036854775807 →
 (IfP ((decide (g.fLetters < 1)) || (decide (g.fLetters > 4))) (Q 2) (IfP (((decide (g.fNames < 1)) || (decide (g.fNames > 6))) || (decide ((g.fMakes.length : Int) > 20))) (Q 1) (∃ (Inv : Int → Prop) (mu : Int → Nat), Inv 0 ∧
 ∀ (x30 : Int) , Inv x30 → (IfP (decide (x30 < (g.fMakes.length : Int))) (∃ e, idx g.fMakes x30 = some e ∧
 IfP ((decide (e.fFrom < 0)) || (decide (e.fFrom ≥ g.fNames))) (Q 2) (IfP (decide ((e.fTo.length : Int) > 3)) (Q 1) ((∀ x_ ∈ e.fTo, (fun _ => True) x_) ∧
 IfP (e.fTo.any (gBad g)) (Q 2) ((Inv (wr (x30 + 1)) ∧ mu (wr (x30 + 1)) < mu x30))))) (Q 0)))))
noncomputable abbrev qn0 (g : ApiGrammar) := ([.box (ApiGrammar.cl g) 37 false] : List Item)
noncomputable abbrev qn1 (g : ApiGrammar) := sl 29 (I (g.fMakes.length : Int))
noncomputable abbrev qn2 (g : ApiGrammar) := sl 28 (LS ApiMake.ty g.fMakes)
noncomputable abbrev qn3 (g : ApiGrammar) (y0) := ([.box (ApiGrammar.cl g) 37 false, .box (ApiMake.cl y0) 39 false] : List Item)
noncomputable abbrev qn4 := sl 1 (.ptr 0 0)
theorem gChk_walk (g : ApiGrammar) (Q : Int → Prop) (h : gChk_vc g Q) : Ct 38 [.sv (.agg [I g.fLetters, I g.fNames, LS ApiMake.ty g.fMakes])] [] Q (fun (r : Int) => .sv (.one (I r))) := by
 have ht := tab_ok
 refine Ct.body Try.func38 rfl rfl rfl rfl (fun c hn => ?_)
 unfold gChk_vc at h
 refine En.lenA 0 2 (by rfl) (by rfl) (fun hl => ?_)
 replace h := h hl
 clear hl
 refine En.sr ?_
 refine WL.rn ht hn 2 ⟨[qn4], (qn0 g)⟩ ?_
 refine En.seq ?_
 refine En.sr ?_
 refine WL.r ht hn 4 ⟨[qn4, sl 8 (B (decide (g.fLetters < 1)))], (qn0 g)⟩ ?_
 refine WL.thru ⟨[qn4, sl 12 (B ((decide (g.fLetters < 1)) || (decide (g.fLetters > 4))))], (qn0 g)⟩ ?_ ?_
 refine splitB (decide (g.fLetters < 1)) (fun hb0 => ?_) (fun hb0 => ?_)
 refine WL.sB 8 hb0 ?_
 refine WL.r ht hn 4 ⟨[qn4, sl 12 (B true)], (qn0 g)⟩ ?_
 exact WL.nil (sub_ok (by simp only [hb0]; kernel_rfl))
 refine WL.sB 8 hb0 ?_
 refine WL.r ht hn 4 ⟨[qn4, sl 12 (B (decide (g.fLetters > 4)))], (qn0 g)⟩ ?_
 exact WL.nil (sub_ok (by simp only [hb0]; kernel_rfl))
 refine En.ch h (fun h => ?_) (fun h => ?_)
 refine En.sr ?_
 refine WL.rn ht hn 1 ⟨[sl 2 (I 2)], [.gone]⟩ ?_
 exact En.rb ht 2 h
 refine En.skip ?_
 refine En.seq ?_
 refine En.sr ?_
 refine WL.r ht hn 4 ⟨[qn4, sl 16 (B (decide (g.fNames < 1)))], (qn0 g)⟩ ?_
 refine WL.thru ⟨[qn4, sl 26 (B (((decide (g.fNames < 1)) || (decide (g.fNames > 6))) || (decide ((g.fMakes.length : Int) > 20))))], (qn0 g)⟩ ?_ ?_
 refine splitB (decide (g.fNames < 1)) (fun hb0 => ?_) (fun hb0 => ?_)
 refine WL.sB 16 hb0 ?_
 refine WL.r ht hn 10 ⟨[qn4, sl 26 (B true)], (qn0 g)⟩ ?_
 exact WL.nil (sub_ok (by simp only [hb0]; kernel_rfl))
 refine WL.sB 16 hb0 ?_
 refine WL.r ht hn 5 ⟨[qn4, sl 21 (B (decide (g.fNames > 6)))], (qn0 g)⟩ ?_
 refine splitB (decide (g.fNames > 6)) (fun hb1 => ?_) (fun hb1 => ?_)
 refine WL.sB 21 hb1 ?_
 refine WL.r ht hn 5 ⟨[qn4, sl 26 (B true)], (qn0 g)⟩ ?_
 exact WL.nil (sub_ok (by simp only [hb0, hb1]; kernel_rfl))
 refine WL.sB 21 hb1 ?_
 refine WL.r ht hn 5 ⟨[qn4, sl 26 (B (decide ((g.fMakes.length : Int) > 20)))], (qn0 g)⟩ ?_
 exact WL.nil (sub_ok (by simp only [hb0, hb1]; kernel_rfl))
 refine En.ch h (fun h => ?_) (fun h => ?_)
 refine En.sr ?_
 refine WL.rn ht hn 1 ⟨[sl 2 (I 1)], [.gone]⟩ ?_
 exact En.rb ht 1 h
 refine En.skip ?_
 refine En.seq ?_
 refine En.sr ?_
 refine WL.rn ht hn 4 ⟨[qn4, qn2 g, qn1 g, sl 30 (I 0)], (qn0 g)⟩ ?_
 refine En.block ?_
 obtain ⟨Inv, mu, h0, hI⟩ := h
 refine En.loop (σ := Int) (fun zz => Inv zz) (fun zz => mu zz) (fun zz => ⟨[qn4, qn2 g, qn1 g, sl 30 (I zz)], (qn0 g)⟩) 0 h0 (sub_ok (by kernel_rfl)) ?_
 intro x30 h
 replace h := hI _ h
 show En c ⟨[qn4, qn2 g, qn1 g, sl 30 (I x30)], (qn0 g)⟩ _
 refine En.sr ?_
 refine WL.rn ht hn 1 ⟨[qn4, qn2 g, qn1 g, sl 30 (I x30), sl 31 (B (decide (x30 < (g.fMakes.length : Int))))], (qn0 g)⟩ ?_
 refine En.seq ?_
 refine En.ch h (fun h => ?_) (fun h => ?_)
 refine En.skip ?_
 refine En.seq ?_
 refine En.block ?_
 refine En.sr ?_
 obtain ⟨e, he, h⟩ := h
 refine WL.v hn (val_ix (T := ApiMake.ty) (l := g.fMakes) (i := x30) ht rfl he) ?_
 refine WL.v hn (val_ld (s := .agg (ApiMake.cl e)) ht rfl) ?_
 refine WL.rn ht hn 2 ⟨[qn4, sl 4 (.ptr 1 0), qn2 g, qn1 g, sl 30 (I x30)], (qn3 g e)⟩ ?_
 refine En.seq ?_
 refine En.sr ?_
 refine WL.r ht hn 4 ⟨[qn4, sl 4 (.ptr 1 0), qn2 g, qn1 g, sl 30 (I x30), sl 37 (B (decide (e.fFrom < 0)))], (qn3 g e)⟩ ?_
 refine WL.thru ⟨[qn4, sl 4 (.ptr 1 0), qn2 g, qn1 g, sl 30 (I x30), sl 43 (B ((decide (e.fFrom < 0)) || (decide (e.fFrom ≥ g.fNames))))], (qn3 g e)⟩ ?_ ?_
 refine splitB (decide (e.fFrom < 0)) (fun hb0 => ?_) (fun hb0 => ?_)
 refine WL.sB 37 hb0 ?_
 refine WL.r ht hn 6 ⟨[qn4, sl 4 (.ptr 1 0), qn2 g, qn1 g, sl 30 (I x30), sl 43 (B true)], (qn3 g e)⟩ ?_
 exact WL.nil (sub_ok (by simp only [hb0]; kernel_rfl))
 refine WL.sB 37 hb0 ?_
 refine WL.r ht hn 6 ⟨[qn4, sl 4 (.ptr 1 0), qn2 g, qn1 g, sl 30 (I x30), sl 43 (B (decide (e.fFrom ≥ g.fNames)))], (qn3 g e)⟩ ?_
 exact WL.nil (sub_ok (by simp only [hb0]; kernel_rfl))
 refine En.ch h (fun h => ?_) (fun h => ?_)
 refine En.sr ?_
 refine WL.rn ht hn 1 ⟨[sl 2 (I 2)], [.gone, .gone]⟩ ?_
 exact En.rb ht 2 h
 refine En.skip ?_
 refine En.seq ?_
 refine En.sr ?_
 refine WL.rn ht hn 4 ⟨[qn4, sl 4 (.ptr 1 0), qn2 g, qn1 g, sl 30 (I x30), sl 47 (B (decide ((e.fTo.length : Int) > 3)))], (qn3 g e)⟩ ?_
 refine En.ch h (fun h => ?_) (fun h => ?_)
 refine En.sr ?_
 refine WL.rn ht hn 1 ⟨[sl 2 (I 1)], [.gone, .gone]⟩ ?_
 exact En.rb ht 1 h
 refine En.skip ?_
 refine En.sr ?_
 refine WL.r ht hn 3 ⟨[qn4, qn2 g, qn1 g, sl 30 (I x30), sl 49 (LS intT e.fTo), sl 50 (.fn 82 [0])], [.box (ApiGrammar.cl g) 37 false, .gone]⟩ ?_
 obtain ⟨hp, h⟩ := h
 refine WL.m0 hn (mt_lendF [0] (by rfl) (by rfl) (mt_ghost 50 (o1 (.rd (fvR (fun (x_ : Int) => [.sv (.one (I x_))]) (fun (r : Bool) => .sv (.one (B r))) (fun _ => True) (gBad g)))) (by rfl) (fv_of (M := [.box (ApiGrammar.cl g) 37 true]) (caps := [0]) (fun x_ _ => gCk1_ct x_ g) en82 rfl (by kernel_rfl) (by rfl) (fun _ => rfl)) (mt_c (anyInt_ct e.fTo (fun _ => True) (gBad g) hp) en41 rfl))) ?_
 refine WL.nil ?_
 refine En.ch h (fun h => ?_) (fun h => ?_)
 refine En.sr ?_
 refine WL.rn ht hn 1 ⟨[sl 2 (I 2)], [.gone, .gone]⟩ ?_
 exact En.rb ht 2 h
 refine En.skip ?_
 refine En.region ?_
 refine WL.rn ht hn 2 ⟨[qn4, qn2 g, qn1 g, sl 30 (I (wr (x30 + 1)))], [.box (ApiGrammar.cl g) 37 false, .gone]⟩ ?_
 exact En.at (I := fun zz => Inv zz ∧ mu zz < mu x30) (T := fun zz => ⟨[qn4, qn2 g, qn1 g, sl 30 (I zz)], (qn0 g)⟩) (wr (x30 + 1)) h (by kernel_rfl)
 refine En.exit rfl ?_
 refine En.sr ?_
 refine WL.rn ht hn 1 ⟨[sl 2 (I 0)], [.gone]⟩ ?_
 exact En.rb ht 0 h
theorem en38 : ∀ args w, (callFunc 38 args).run Try.prog w = .ok (.enter 38 args) w := enters_of Try.func38 (by kernel_rfl) rfl
theorem gChk_ct (g : ApiGrammar)  : Ct 38 [.sv (.agg [I g.fLetters, I g.fNames, LS ApiMake.ty g.fMakes])] [] (fun (_ : Unit) => True) (fun _ => .sv (.one (I (grmErr g)))) := by
 refine (gChk_walk g (fun res_ => res_ = (grmErr g)) ?_).fun
 unfold gChk_vc
 intro _
 refine ⟨fun h => ?_, fun h => ⟨fun h2 => ?_, fun h2 => ⟨fun i => ∃ k : Nat, i = k ∧ k ≤ g.fMakes.length ∧ errL g g.fMakes = errL g (g.fMakes.drop k), fun i => g.fMakes.length - i.toNat, ⟨0, rfl, Nat.zero_le _, rfl⟩, ?_⟩⟩⟩
 ·show 2 = _; unfold grmErr; rw [if_pos h]
 ·show 1 = _; unfold grmErr; rw [if_neg (by rw [h]; decide), if_pos h2]
 have e0 : grmErr g = errL g g.fMakes := by unfold grmErr; rw [if_neg (by rw [h]; decide), if_neg (by rw [h2]; decide)]
 rw [e0]
 have h20 : g.fMakes.length ≤ 20 := by
  simp only [Bool.or_eq_false_iff, decide_eq_false_iff_not] at h2
  omega
 rintro i ⟨k, rfl, hk, he⟩
 refine ⟨fun hb => ?_, fun hb => ?_⟩
 ·have hlt := dlt hb
  rw [List.drop_eq_getElem_cons hlt, errL] at he
  refine ⟨_, idx_at hlt, fun h1 => ?_, fun h1 => ⟨fun h3 => ?_, fun h3 => ⟨fun _ _ => trivial, fun h4 => ?_, fun h4 => ?_⟩⟩⟩
  ·have hm : mkErr g g.fMakes[k] = 2 := by unfold mkErr; rw [if_pos h1]
   rw [hm, if_pos (by decide)] at he
   exact he.symm
  ·have hm : mkErr g g.fMakes[k] = 1 := by unfold mkErr; rw [if_neg (by rw [h1]; decide), if_pos (by have := of_decide_eq_true h3; omega)]
   rw [hm, if_pos (by decide)] at he
   exact he.symm
  ·have hm : mkErr g g.fMakes[k] = 2 := by unfold mkErr; rw [if_neg (by rw [h1]; decide), if_neg (by have := of_decide_eq_false h3; omega), if_pos h4]
   rw [hm, if_pos (by decide)] at he
   exact he.symm
  ·have hm : mkErr g g.fMakes[k] = 0 := by unfold mkErr; rw [if_neg (by rw [h1]; decide), if_neg (by have := of_decide_eq_false h3; omega), if_neg (by rw [h4]; decide)]
   rw [hm, if_neg (by decide)] at he
   exact ⟨⟨k + 1, wsucc (by omega), hlt, he⟩, mu_up hlt (by omega)⟩
 ·rw [List.drop_eq_nil_of_le (dge hb)] at he
  exact he.symm
def gFst_vc (g : ApiGrammar) (d : ApiDet) (Q : ((List Int) × Bool × Int) → Prop) : Prop :=
 g.fMakes.length ≤ 9223372036854775807 →
 d.fNext.length ≤ 9223372036854775807 →
 d.fMark.length ≤ 9223372036854775807 →
 ((FinPre g d ([] : List (St170 × (List Int))) ([] : List (St170 × Int))) ∧
 ∀ r : (List (St170 × (List Int))) × (List (St170 × Int)), ((fun (r_ : BMap × IMap) => Found g d ⟨r_.1, r_.2, false⟩)) r →
 (∃ (Inv : (List Int) → Bool → Bool → Int → Prop) (mu : (List Int) → Bool → Bool → Int → Nat), Inv [] false false 0 ∧
 ∀ (x8 : List Int) (x9 : Bool) (x10 : Bool) (x27 : Int) , Inv x8 x9 x10 x27 → (IfP (decide (x27 < (d.fMark.length : Int))) (∃ J : (List Int) → Bool → Bool → Prop, (∃ e, idx d.fMark x27 = some e ∧
 ∃ J_2 : Bool → Prop, (IfP (e == 0) (J_2 true) (J_2 (((mget (St170.mk 0 d.fStart x27) r.2).getD (0 : Int)) == 0))) ∧
 (∀ (x46 : Bool), J_2 x46 → IfP x46 (J x8 x9 x10) (∃ J_3 : Bool → Prop, (IfP (mget (St170.mk 0 d.fStart x27) r.1).isSome (IfP (!x9) (J_3 true) (J_3 (beforeB ((mget (St170.mk 0 d.fStart x27) r.1).getD []) x8))) (J_3 false)) ∧
 (∀ (x65 : Bool), J_3 x65 → IfP x65 (J ((mget (St170.mk 0 d.fStart x27) r.1).getD []) true true) (J x8 x9 true))))) ∧
 (∀ (x8_2 : List Int) (x9_2 : Bool) (x10_2 : Bool), J x8_2 x9_2 x10_2 → (Inv x8_2 x9_2 x10_2 (wr (x27 + 1)) ∧ mu x8_2 x9_2 x10_2 (wr (x27 + 1)) < mu x8 x9 x10 x27))) (IfP (x10 && (!x9)) (Q ([], false, 7)) (Q (x8, x9, 0))))))
noncomputable abbrev qo0 (g : ApiGrammar) (d : ApiDet) := (.box [I g.fLetters, I g.fNames, LS ApiMake.ty g.fMakes, I d.fLetters, I d.fStart, LS (lsT intT) d.fNext, LS intT d.fMark, .own 2, .own 3] 169 false : Item)
noncomputable abbrev qo1 (d : ApiDet) (g : ApiGrammar) (y0) (y1) := ([.gone, .box (ApiDet.cl d) 25 false, mapI St170.enc (lsT intT) y0, mapI St170.enc intT y1, (qo0 g d), .gone] : List Item)
noncomputable abbrev qo2 (d : ApiDet) := sl 26 (I (d.fMark.length : Int))
noncomputable abbrev qo3 (d : ApiDet) (g : ApiGrammar) (y0) (y1) (y2) := ([.gone, .box (ApiDet.cl d) 25 false, mapI St170.enc (lsT intT) y0, mapI St170.enc intT y1, (qo0 g d), .box [I 0, I d.fStart, I y2] 170 false] : List Item)
noncomputable abbrev qo4 (d : ApiDet) (g : ApiGrammar) (y0) (y1) := ([.gone, .box (ApiDet.cl d) 25 false, mapI St170.enc (lsT intT) y0, mapI St170.enc intT y1, (qo0 g d)] : List Item)
noncomputable abbrev qo5 (d : ApiDet) (y0) := (St170.mk 0 d.fStart y0)
noncomputable abbrev qo6 (d : ApiDet) := sl 25 (LS intT d.fMark)
noncomputable abbrev qo7 := sl 3 (.ptr 1 0)
noncomputable abbrev qo8 := sl 7 (.ptr 4 0)
noncomputable abbrev qo9 (y0) := sl 8 (LS intT y0)
noncomputable abbrev qo10 := ([.gone, .gone, .gone, .gone, .gone] : List Item)
noncomputable abbrev qo11 := sl 13 (.ptr 5 0)
noncomputable abbrev qo12 (d : ApiDet) (g : ApiGrammar) := ([.gone, .box (ApiDet.cl d) 25 false, mapI St170.enc (lsT intT) ([] : List (St170 × (List Int))), mapI St170.enc intT ([] : List (St170 × Int)), (qo0 g d)] : List Item)
noncomputable abbrev qo13 := sl 10 (B true)
theorem gFst_walk (g : ApiGrammar) (d : ApiDet) (Q : ((List Int) × Bool × Int) → Prop) (h : gFst_vc g d Q) : Ct 43 [.sv (.agg [I g.fLetters, I g.fNames, LS ApiMake.ty g.fMakes]), .sv (.agg [I d.fLetters, I d.fStart, LS (lsT intT) d.fNext, LS intT d.fMark])] [] Q (fun (r : ((List Int) × Bool × Int)) => .tup [.one (LS intT r.1), .one (B r.2.1), .one (I r.2.2)]) := by
 have ht := tab_ok
 refine Ct.body Try.func43 rfl rfl rfl rfl (fun c hn => ?_)
 unfold gFst_vc at h
 refine En.lenA 0 2 (by rfl) (by rfl) (fun hl => ?_)
 replace h := h hl
 clear hl
 refine En.lenA 1 2 (by rfl) (by rfl) (fun hl => ?_)
 replace h := h hl
 clear hl
 refine En.lenA 1 3 (by rfl) (by rfl) (fun hl => ?_)
 replace h := h hl
 clear hl
 refine En.sr ?_
 refine WL.rn ht hn 5 ⟨[sl 2 (.ptr 0 0), qo7], [.box (ApiGrammar.cl g) 37 false, .box (ApiDet.cl d) 25 false]⟩ ?_
 refine En.sr ?_
 refine WL.r ht hn 2 ⟨[qo7, (16, .sv (.agg (ApiGrammar.cl g))), (17, .sv (.agg (ApiDet.cl d)))], [.gone, .box (ApiDet.cl d) 25 false]⟩ ?_
 refine WL.mt0 (K := []) (p := some (2, mapI St170.enc (lsT intT) ([] : List (St170 × (List Int))))) hn (by rfl) (mt_makeMap St170.enc (lsT intT) 2 rfl) (by rfl) (by rfl) (by rfl) ?_
 refine WL.mt0 (K := []) (p := some (3, mapI St170.enc intT ([] : List (St170 × Int)))) hn (by rfl) (mt_makeMap St170.enc intT 3 rfl) (by rfl) (by rfl) (by rfl) ?_
 refine WL.rn ht hn 3 ⟨[qo7, qo8], (qo12 d g)⟩ ?_
 refine En.sr ?_
 refine WL.r ht hn 1 ⟨[qo7, qo8, sl 22 (.ptr 4 0)], (qo12 d g)⟩ ?_
 obtain ⟨hp, h⟩ := h
 refine WL.callQ [qo7, qo8, sl 22 (.ptr 4 0)] (gFin_ct g d ([] : List (St170 × (List Int))) ([] : List (St170 × Int)) hp) en89 (caps := []) [4, 2, 3] hn (by rfl) rfl (by rfl) (argsAs (by kernel_rfl) (by rfl)) (by kernel_rfl) (by decide) (by kernel_rfl) (by rfl) (by rfl) (fun r hr_2 => ⟨by rfl, _, by rfl, ?_⟩)
 replace h := h r hr_2
 refine WL.nil ?_
 refine En.sr ?_
 refine WL.rn ht hn 1 ⟨[qo7, qo8, sl 8 (.v (.slice none 0 0))], (qo4 d g r.1 r.2)⟩ ?_
 refine En.sr ?_
 refine WL.rn ht hn 2 ⟨[qo7, qo8, sl 8 (.v (.slice none 0 0)), sl 9 (B false), sl 10 (B false)], (qo4 d g r.1 r.2)⟩ ?_
 refine En.seq ?_
 refine En.sr ?_
 refine WL.rn ht hn 4 ⟨[qo7, qo8, sl 8 (.v (.slice none 0 0)), sl 9 (B false), sl 10 (B false), qo6 d, qo2 d, sl 27 (I 0)], (qo4 d g r.1 r.2)⟩ ?_
 refine En.block ?_
 refine En.nilLS 8 intT (by rfl) ?_
 obtain ⟨Inv, mu, h0, hI⟩ := h
 refine En.loop (σ := (List Int) × Bool × Bool × Int) (fun zz => Inv zz.1 zz.2.1 zz.2.2.1 zz.2.2.2) (fun zz => mu zz.1 zz.2.1 zz.2.2.1 zz.2.2.2) (fun zz => ⟨[qo7, qo8, sl 8 (LS intT zz.1), sl 9 (B zz.2.1), sl 10 (B zz.2.2.1), qo6 d, qo2 d, sl 27 (I zz.2.2.2)], (qo4 d g r.1 r.2)⟩) ([], false, false, 0) h0 (sub_ok (by kernel_rfl)) ?_
 rintro ⟨x8, x9, x10, x27⟩ h
 replace h := hI _ _ _ _ h
 show En c ⟨[qo7, qo8, qo9 x8, sl 9 (B x9), sl 10 (B x10), qo6 d, qo2 d, sl 27 (I x27)], (qo4 d g r.1 r.2)⟩ _
 refine En.sr ?_
 refine WL.rn ht hn 1 ⟨[qo7, qo8, qo9 x8, sl 9 (B x9), sl 10 (B x10), qo6 d, qo2 d, sl 27 (I x27), sl 28 (B (decide (x27 < (d.fMark.length : Int))))], (qo4 d g r.1 r.2)⟩ ?_
 refine En.seq ?_
 refine En.ch h (fun h => ?_) (fun h => ?_)
 refine En.skip ?_
 obtain ⟨J, h, hJ⟩ := h
 refine En.seqJ (σ := (List Int) × Bool × Bool) (fun zz => J zz.1 zz.2.1 zz.2.2) (fun zz => ⟨[qo7, qo8, sl 8 (LS intT zz.1), sl 9 (B zz.2.1), sl 10 (B zz.2.2), qo6 d, qo2 d, sl 27 (I x27)], (qo1 d g r.1 r.2)⟩) ?_ ?_
 refine En.block ?_
 refine En.sr ?_
 refine WL.r ht hn 1 ⟨[qo7, qo8, qo9 x8, sl 9 (B x9), sl 10 (B x10), qo6 d, qo2 d, sl 27 (I x27), sl 29 (I x27)], (qo4 d g r.1 r.2)⟩ ?_
 obtain ⟨e, he, h⟩ := h
 refine WL.v hn (val_ix (T := intT) (l := d.fMark) (i := x27) ht rfl he) ?_
 refine WL.v hn (val_ld (s := .one (I e)) ht rfl) ?_
 refine WL.rn ht hn 2 ⟨[qo7, qo8, qo9 x8, sl 9 (B x9), sl 10 (B x10), sl 11 (I x27), sl 12 (I e), qo6 d, qo2 d, sl 27 (I x27)], (qo4 d g r.1 r.2)⟩ ?_
 refine En.sr ?_
 refine WL.rn ht hn 6 ⟨[qo7, qo8, qo9 x8, sl 9 (B x9), sl 10 (B x10), sl 12 (I e), qo11, qo6 d, qo2 d, sl 27 (I x27)], (qo3 d g r.1 r.2 x27)⟩ ?_
 refine En.seq ?_
 obtain ⟨J_2, h, hJ_2⟩ := h
 refine En.seqJ (σ := Bool) (fun zz => J_2 zz) (fun zz => ⟨[qo7, qo8, qo9 x8, sl 9 (B x9), sl 10 (B x10), qo11, qo6 d, qo2 d, sl 27 (I x27), sl 46 (B zz)], (qo3 d g r.1 r.2 x27)⟩) ?_ ?_
 refine splitB (e == 0) (fun hb_2 => ?_) (fun hb_2 => ?_)
 replace h := h.1 hb_2
 refine En.regionA ⟨[qo7, qo8, qo9 x8, sl 9 (B x9), sl 10 (B x10), sl 12 (I e), qo11, qo6 d, qo2 d, sl 27 (I x27)], [.sv (.one (I e)), .sv (.one (B true)), .sv (.one (B true)), .tup [], .tup [], .tup [], .tup [], .tup [], .tup [], .tup [], .sv (.one (B true))], [⟨.gone, none, none, none⟩, ⟨.box (ApiDet.cl d) 25 false, none, none, none⟩, ⟨mapI St170.enc (lsT intT) r.1, none, none, none⟩, ⟨mapI St170.enc intT r.2, none, none, none⟩, ⟨(qo0 g d), none, none, none⟩, ⟨.box [I 0, I d.fStart, I x27] 170 false, none, none, none⟩]⟩ ⟨[qo7, qo8, qo9 x8, sl 9 (B x9), sl 10 (B x10), qo11, qo6 d, qo2 d, sl 27 (I x27), sl 46 (B true)], (qo3 d g r.1 r.2 x27)⟩ (by kernel_rfl) hn (by kernel_rfl) (by rfl) (by kernel_rfl) ?_ (by kernel_rfl) ?_
 exact ⟨.ev ⟨[sl 12 (I e)], []⟩ ht,
 .mt ⟨[sl 36 (I e)], []⟩ [] none (by kernel_rfl) (by rfl) (mt_castB hb_2 (mt_ev ht (by kernel_rfl))) rfl rfl rfl rfl,
 .ev ⟨[sl 37 (B true)], []⟩ ht,
 .skip ⟨[sl 38 (B true)], []⟩ (by kernel_rfl) (by rfl) rfl rfl rfl rfl,
 .skip ⟨[sl 38 (B true)], []⟩ (by kernel_rfl) (by rfl) rfl rfl rfl rfl,
 .skip ⟨[sl 38 (B true)], []⟩ (by kernel_rfl) (by rfl) rfl rfl rfl rfl,
 .skip ⟨[sl 38 (B true)], []⟩ (by kernel_rfl) (by rfl) rfl rfl rfl rfl,
 .skip ⟨[sl 38 (B true)], []⟩ (by kernel_rfl) (by rfl) rfl rfl rfl rfl,
 .skip ⟨[sl 38 (B true)], []⟩ (by kernel_rfl) (by rfl) rfl rfl rfl rfl,
 .skip ⟨[sl 38 (B true)], []⟩ (by kernel_rfl) (by rfl) rfl rfl rfl rfl,
 .ev ⟨[sl 38 (B true), (45, .tup [])], []⟩ ht,
 trivial⟩
 exact En.at (I := fun zz => J_2 zz) (T := fun zz => ⟨[qo7, qo8, qo9 x8, sl 9 (B x9), sl 10 (B x10), qo11, qo6 d, qo2 d, sl 27 (I x27), sl 46 (B zz)], (qo3 d g r.1 r.2 x27)⟩) true h (by kernel_rfl)
 replace h := h.2 hb_2
 refine En.regionA ⟨[qo7, qo8, qo9 x8, sl 9 (B x9), sl 10 (B x10), sl 12 (I e), qo11, qo6 d, qo2 d, sl 27 (I x27)], [.sv (.one (I e)), .sv (.one (B false)), .sv (.one (B false)), .sv (.one (.ptr 4 0)), .sv (.one (.ptr 4 0)), .sv (.one (.ptr 4 8)), .sv (.one (.own 3)), .sv (.agg [I 0, I d.fStart, I x27]), .sv (.one (I ((mget (qo5 d x27) r.2).getD (0 : Int)))), .sv (.one (B (((mget (qo5 d x27) r.2).getD (0 : Int)) == 0))), .sv (.one (B (((mget (qo5 d x27) r.2).getD (0 : Int)) == 0)))], [⟨.gone, none, none, none⟩, ⟨.box (ApiDet.cl d) 25 false, none, none, none⟩, ⟨mapI St170.enc (lsT intT) r.1, none, none, none⟩, ⟨mapI St170.enc intT r.2, none, none, none⟩, ⟨(qo0 g d), none, none, none⟩, ⟨.box [I 0, I d.fStart, I x27] 170 false, none, none, none⟩]⟩ ⟨[qo7, qo8, qo9 x8, sl 9 (B x9), sl 10 (B x10), qo11, qo6 d, qo2 d, sl 27 (I x27), sl 46 (B (((mget (qo5 d x27) r.2).getD (0 : Int)) == 0))], (qo3 d g r.1 r.2 x27)⟩ (by kernel_rfl) hn (by kernel_rfl) (by rfl) (by kernel_rfl) ?_ (by kernel_rfl) ?_
 exact ⟨.ev ⟨[sl 12 (I e)], []⟩ ht,
 .mt ⟨[sl 36 (I e)], []⟩ [] none (by kernel_rfl) (by rfl) (mt_castB hb_2 (mt_ev ht (by kernel_rfl))) rfl rfl rfl rfl,
 .ev ⟨[sl 37 (B false)], []⟩ ht,
 .ev ⟨[qo8, sl 38 (B false)], []⟩ ht,
 .ev ⟨[sl 38 (B false), sl 39 (.ptr 4 0)], []⟩ ht,
 .ev ⟨[sl 38 (B false), sl 40 (.ptr 4 0)], []⟩ ht,
 .ev ⟨[sl 38 (B false), sl 41 (.ptr 4 8)], [.gone, .gone, .gone, .gone, qo0 g d]⟩ ht,
 .ev ⟨[qo11, sl 38 (B false)], [.gone, .gone, .gone, .gone, .gone, .box [I 0, I d.fStart, I x27] 170 false]⟩ ht,
 .vl ⟨[sl 38 (B false), sl 42 (.own 3), (43, .sv (.agg [I 0, I d.fStart, I x27]))], [.gone, .gone, .gone, mapI St170.enc intT r.2]⟩ (mt_val (val_lookup (T := intT) (D := r.2) St170.keyLaw (k := (qo5 d x27)) (ok := false) (0 : Int) (zv := (.int .i64 0)) rfl Try.underlying167 (fun _ => by kernel_rfl) (fun _ => ⟨rfl, trivial⟩) (mapAs St170.enc intT r.2) (by rfl) (by rfl) (by rfl) (fun _ => rfl))),
 .ev ⟨[sl 38 (B false), sl 44 (I ((mget (qo5 d x27) r.2).getD (0 : Int)))], []⟩ ht,
 .ev ⟨[sl 38 (B false), sl 45 (B (((mget (qo5 d x27) r.2).getD (0 : Int)) == 0))], []⟩ ht,
 trivial⟩
 exact En.at (I := fun zz => J_2 zz) (T := fun zz => ⟨[qo7, qo8, qo9 x8, sl 9 (B x9), sl 10 (B x10), qo11, qo6 d, qo2 d, sl 27 (I x27), sl 46 (B zz)], (qo3 d g r.1 r.2 x27)⟩) (((mget (qo5 d x27) r.2).getD (0 : Int)) == 0) h (by kernel_rfl)
 intro x46 h
 replace h := hJ_2 _ h
 show En c ⟨[qo7, qo8, qo9 x8, sl 9 (B x9), sl 10 (B x10), qo11, qo6 d, qo2 d, sl 27 (I x27), sl 46 (B x46)], (qo3 d g r.1 r.2 x27)⟩ _
 refine En.ch h (fun h => ?_) (fun h => ?_)
 refine En.exit rfl ?_
 exact En.at (I := fun zz => J zz.1 zz.2.1 zz.2.2) (T := fun zz => ⟨[qo7, qo8, sl 8 (LS intT zz.1), sl 9 (B zz.2.1), sl 10 (B zz.2.2), qo6 d, qo2 d, sl 27 (I x27)], (qo1 d g r.1 r.2)⟩) (x8, x9, x10) h (by kernel_rfl)
 refine En.skip ?_
 refine En.sr ?_
 refine WL.rn ht hn 1 ⟨[qo7, qo8, qo9 x8, sl 9 (B x9), qo13, qo11, qo6 d, qo2 d, sl 27 (I x27)], (qo3 d g r.1 r.2 x27)⟩ ?_
 refine En.seq ?_
 refine En.regionA ⟨[qo7, qo8, qo9 x8, sl 9 (B x9), qo13, qo11, qo6 d, qo2 d, sl 27 (I x27)], [.sv (.one (.ptr 4 0)), .sv (.one (.ptr 4 0)), .sv (.one (.ptr 4 7)), .sv (.one (.own 2)), .sv (.agg [I 0, I d.fStart, I x27]), .tup [.one (LS intT ((mget (qo5 d x27) r.1).getD [])), .one (B (mget (qo5 d x27) r.1).isSome)], .tup [.one (LS intT ((mget (qo5 d x27) r.1).getD [])), .one (B (mget (qo5 d x27) r.1).isSome)], .sv (.one (LS intT ((mget (qo5 d x27) r.1).getD []))), .sv (.one (B (mget (qo5 d x27) r.1).isSome)), .sv (.one (LS intT ((mget (qo5 d x27) r.1).getD []))), .sv (.one (B (mget (qo5 d x27) r.1).isSome))], [⟨.gone, none, none, none⟩, ⟨.box (ApiDet.cl d) 25 false, none, none, none⟩, ⟨mapI St170.enc (lsT intT) r.1, none, none, none⟩, ⟨mapI St170.enc intT r.2, none, none, none⟩, ⟨(qo0 g d), none, none, none⟩, ⟨.box [I 0, I d.fStart, I x27] 170 false, none, none, none⟩]⟩ ⟨[qo7, qo8, qo9 x8, sl 9 (B x9), qo13, sl 14 (LS intT ((mget (qo5 d x27) r.1).getD [])), sl 15 (B (mget (qo5 d x27) r.1).isSome), qo6 d, qo2 d, sl 27 (I x27)], (qo1 d g r.1 r.2)⟩ (by kernel_rfl) hn (by kernel_rfl) (by rfl) (by kernel_rfl) ?_ (by kernel_rfl) ?_
 exact ⟨.ev ⟨[qo8], []⟩ ht,
 .ev ⟨[sl 48 (.ptr 4 0)], []⟩ ht,
 .ev ⟨[sl 49 (.ptr 4 0)], []⟩ ht,
 .ev ⟨[sl 50 (.ptr 4 7)], [.gone, .gone, .gone, .gone, qo0 g d]⟩ ht,
 .ev ⟨[qo11], [.gone, .gone, .gone, .gone, .gone, .box [I 0, I d.fStart, I x27] 170 false]⟩ ht,
 .vl ⟨[sl 51 (.own 2), (52, .sv (.agg [I 0, I d.fStart, I x27]))], [.gone, .gone, mapI St170.enc (lsT intT) r.1]⟩ (mt_val (val_lookup (T := (lsT intT)) (D := r.1) St170.keyLaw (k := (qo5 d x27)) (ok := true) [] (zv := (.slice none 0 0)) rfl Try.underlying166 (fun _ => by kernel_rfl) (fun _ => ls_nil) (mapAs St170.enc (lsT intT) r.1) (by rfl) (by rfl) (by rfl) (fun _ => rfl))),
 .ev ⟨[(53, .tup [.one (LS intT ((mget (qo5 d x27) r.1).getD [])), .one (B (mget (qo5 d x27) r.1).isSome)])], []⟩ ht,
 .ev ⟨[(47, .tup [.one (LS intT ((mget (qo5 d x27) r.1).getD [])), .one (B (mget (qo5 d x27) r.1).isSome)])], []⟩ ht,
 .ev ⟨[(47, .tup [.one (LS intT ((mget (qo5 d x27) r.1).getD [])), .one (B (mget (qo5 d x27) r.1).isSome)])], []⟩ ht,
 .ev ⟨[sl 54 (LS intT ((mget (qo5 d x27) r.1).getD []))], []⟩ ht,
 .ev ⟨[sl 55 (B (mget (qo5 d x27) r.1).isSome)], []⟩ ht,
 trivial⟩
 obtain ⟨J_3, h, hJ_3⟩ := h
 refine En.seqJ (σ := Bool) (fun zz => J_3 zz) (fun zz => ⟨[qo7, qo8, qo9 x8, sl 9 (B x9), qo13, sl 14 (LS intT ((mget (qo5 d x27) r.1).getD [])), qo6 d, qo2 d, sl 27 (I x27), sl 65 (B zz)], (qo1 d g r.1 r.2)⟩) ?_ ?_
 refine En.region ?_
 refine WL.r ht hn 2 ⟨[qo7, qo8, qo9 x8, sl 9 (B x9), qo13, sl 14 (LS intT ((mget (qo5 d x27) r.1).getD [])), qo6 d, qo2 d, sl 27 (I x27), sl 57 (B (mget (qo5 d x27) r.1).isSome)], (qo1 d g r.1 r.2)⟩ ?_
 refine splitB (mget (qo5 d x27) r.1).isSome (fun hb => ?_) (fun hb => ?_)
 replace h := h.1 hb
 refine WL.sB 57 hb ?_
 refine WL.r ht hn 3 ⟨[qo7, qo8, qo9 x8, sl 9 (B x9), qo13, sl 14 (LS intT ((mget (qo5 d x27) r.1).getD [])), qo6 d, qo2 d, sl 27 (I x27), sl 57 (B true), sl 60 (B (!x9))], (qo1 d g r.1 r.2)⟩ ?_
 refine splitB (!x9) (fun hb => ?_) (fun hb => ?_)
 replace h := h.1 hb
 refine WL.sB 60 hb ?_
 refine WL.rn ht hn 5 ⟨[qo7, qo8, qo9 x8, sl 9 (B x9), qo13, sl 14 (LS intT ((mget (qo5 d x27) r.1).getD [])), qo6 d, qo2 d, sl 27 (I x27), sl 65 (B true)], (qo1 d g r.1 r.2)⟩ ?_
 exact En.at (I := fun zz => J_3 zz) (T := fun zz => ⟨[qo7, qo8, qo9 x8, sl 9 (B x9), qo13, sl 14 (LS intT ((mget (qo5 d x27) r.1).getD [])), qo6 d, qo2 d, sl 27 (I x27), sl 65 (B zz)], (qo1 d g r.1 r.2)⟩) true h (by kernel_rfl)
 replace h := h.2 hb
 refine WL.sB 60 hb ?_
 refine WL.r ht hn 2 ⟨[qo7, qo8, qo9 x8, sl 9 (B x9), qo13, sl 14 (LS intT ((mget (qo5 d x27) r.1).getD [])), qo6 d, qo2 d, sl 27 (I x27), sl 57 (B true), sl 60 (B false), sl 61 (LS intT ((mget (qo5 d x27) r.1).getD [])), sl 62 (LS intT x8)], (qo1 d g r.1 r.2)⟩ ?_
 refine WL.m0 hn (mt_c (gBef_ct ((mget (qo5 d x27) r.1).getD []) x8) en90 rfl) ?_
 refine WL.rn ht hn 2 ⟨[qo7, qo8, qo9 x8, sl 9 (B x9), qo13, sl 14 (LS intT ((mget (qo5 d x27) r.1).getD [])), qo6 d, qo2 d, sl 27 (I x27), sl 65 (B (beforeB ((mget (qo5 d x27) r.1).getD []) x8))], (qo1 d g r.1 r.2)⟩ ?_
 exact En.at (I := fun zz => J_3 zz) (T := fun zz => ⟨[qo7, qo8, qo9 x8, sl 9 (B x9), qo13, sl 14 (LS intT ((mget (qo5 d x27) r.1).getD [])), qo6 d, qo2 d, sl 27 (I x27), sl 65 (B zz)], (qo1 d g r.1 r.2)⟩) (beforeB ((mget (qo5 d x27) r.1).getD []) x8) h (by kernel_rfl)
 replace h := h.2 hb
 refine WL.sB 57 hb ?_
 refine WL.rn ht hn 8 ⟨[qo7, qo8, qo9 x8, sl 9 (B x9), qo13, sl 14 (LS intT ((mget (qo5 d x27) r.1).getD [])), qo6 d, qo2 d, sl 27 (I x27), sl 65 (B false)], (qo1 d g r.1 r.2)⟩ ?_
 exact En.at (I := fun zz => J_3 zz) (T := fun zz => ⟨[qo7, qo8, qo9 x8, sl 9 (B x9), qo13, sl 14 (LS intT ((mget (qo5 d x27) r.1).getD [])), qo6 d, qo2 d, sl 27 (I x27), sl 65 (B zz)], (qo1 d g r.1 r.2)⟩) false h (by kernel_rfl)
 intro x65 h
 replace h := hJ_3 _ h
 show En c ⟨[qo7, qo8, qo9 x8, sl 9 (B x9), qo13, sl 14 (LS intT ((mget (qo5 d x27) r.1).getD [])), qo6 d, qo2 d, sl 27 (I x27), sl 65 (B x65)], (qo1 d g r.1 r.2)⟩ _
 refine En.ch h (fun h => ?_) (fun h => ?_)
 refine En.region ?_
 refine WL.rn ht hn 3 ⟨[qo7, qo8, sl 8 (LS intT ((mget (qo5 d x27) r.1).getD [])), sl 9 (B true), qo13, qo6 d, qo2 d, sl 27 (I x27)], (qo1 d g r.1 r.2)⟩ ?_
 exact En.at (I := fun zz => J zz.1 zz.2.1 zz.2.2) (T := fun zz => ⟨[qo7, qo8, sl 8 (LS intT zz.1), sl 9 (B zz.2.1), sl 10 (B zz.2.2), qo6 d, qo2 d, sl 27 (I x27)], (qo1 d g r.1 r.2)⟩) (((mget (qo5 d x27) r.1).getD []), true, true) h (by kernel_rfl)
 refine En.skip ?_
 exact En.at (I := fun zz => J zz.1 zz.2.1 zz.2.2) (T := fun zz => ⟨[qo7, qo8, sl 8 (LS intT zz.1), sl 9 (B zz.2.1), sl 10 (B zz.2.2), qo6 d, qo2 d, sl 27 (I x27)], (qo1 d g r.1 r.2)⟩) (x8, x9, true) h (by kernel_rfl)
 rintro ⟨x8_2, x9_2, x10_2⟩ h
 replace h := hJ _ _ _ h
 show En c ⟨[qo7, qo8, sl 8 (LS intT x8_2), sl 9 (B x9_2), sl 10 (B x10_2), qo6 d, qo2 d, sl 27 (I x27)], (qo1 d g r.1 r.2)⟩ _
 refine En.region ?_
 refine WL.rn ht hn 2 ⟨[qo7, qo8, sl 8 (LS intT x8_2), sl 9 (B x9_2), sl 10 (B x10_2), qo6 d, qo2 d, sl 27 (I (wr (x27 + 1)))], (qo1 d g r.1 r.2)⟩ ?_
 exact En.at (I := fun zz => Inv zz.1 zz.2.1 zz.2.2.1 zz.2.2.2 ∧ mu zz.1 zz.2.1 zz.2.2.1 zz.2.2.2 < mu x8 x9 x10 x27) (T := fun zz => ⟨[qo7, qo8, sl 8 (LS intT zz.1), sl 9 (B zz.2.1), sl 10 (B zz.2.2.1), qo6 d, qo2 d, sl 27 (I zz.2.2.2)], (qo4 d g r.1 r.2)⟩) (x8_2, x9_2, x10_2, (wr (x27 + 1))) h (by kernel_rfl)
 refine En.exit rfl ?_
 refine En.seq ?_
 refine En.sr ?_
 refine WL.r ht hn 2 ⟨[qo9 x8, sl 9 (B x9), sl 69 (B x10)], qo10⟩ ?_
 refine WL.thru ⟨[qo9 x8, sl 9 (B x9), sl 72 (B (x10 && (!x9)))], qo10⟩ ?_ ?_
 refine splitB x10 (fun hb0 => ?_) (fun hb0 => ?_)
 refine WL.sB 69 hb0 ?_
 refine WL.r ht hn 3 ⟨[qo9 x8, sl 9 (B x9), sl 72 (B (!x9))], qo10⟩ ?_
 exact WL.nil (sub_ok (by simp only [hb0]; kernel_rfl))
 refine WL.sB 69 hb0 ?_
 refine WL.r ht hn 3 ⟨[qo9 x8, sl 9 (B x9), sl 72 (B false)], qo10⟩ ?_
 exact WL.nil (sub_ok (by simp only [hb0]; kernel_rfl))
 refine En.ch h (fun h => ?_) (fun h => ?_)
 refine En.sr ?_
 refine WL.rn ht hn 3 ⟨[sl 4 (.v (.slice none 0 0)), sl 5 (B false), sl 6 (I 7)], qo10⟩ ?_
 refine En.ret ?_
 refine En.nilLS 4 intT (by rfl) ?_
 exact En.back ht ([], false, 7) h (by kernel_rfl) rfl
 refine En.skip ?_
 refine En.sr ?_
 refine WL.rn ht hn 5 ⟨[sl 4 (LS intT x8), sl 5 (B x9), sl 6 (I 0)], qo10⟩ ?_
 exact En.rb ht (x8, x9, 0) h
theorem en43 : ∀ args w, (callFunc 43 args).run Try.prog w = .ok (.enter 43 args) w := enters_of Try.func43 (by kernel_rfl) rfl
theorem gFst_ct (g : ApiGrammar) (d : ApiDet) (hp : FstPre g d)  : Ct 43 [.sv (.agg [I g.fLetters, I g.fNames, LS ApiMake.ty g.fMakes]), .sv (.agg [I d.fLetters, I d.fStart, LS (lsT intT) d.fNext, LS intT d.fMark])] [] (fun (_ : Unit) => True) (fun _ => .tup [.one (LS intT (firstR g d).1), .one (B (firstR g d).2.1), .one (I (firstR g d).2.2)]) := by
 refine (gFst_walk g d (fun res_ => res_ = (firstR g d)) ?_).fun
 obtain ⟨Z, hZ⟩ : ∃ Z, Z = firstR g d := ⟨_, rfl⟩
 rw [← hZ]
 unfold gFst_vc
 intro _ _ _
 obtain ⟨hg, hd, hl, hf⟩ := hp
 have hmk := hd.marks
 have hsz := hd.size
 refine ⟨⟨hg, hd, hl, hf, rfl, rfl⟩, fun r hr => ?_⟩
 obtain ⟨b, i⟩ := r
 have hF : Found g d ⟨b, i, false⟩ := hr
 refine ⟨fun w f a x => ∃ k : Nat, x = k ∧ k ≤ d.fMark.length ∧ FInv d b i w f a k, fun _ _ _ x => d.fMark.length - x.toNat, ⟨0, rfl, Nat.zero_le _, fun h => (by cases h), fun q hq => absurd hq (Nat.not_lt_zero _), fun h => (by cases h), fun _ => rfl, fun q v hq => absurd hq (Nat.not_lt_zero _)⟩, ?_⟩
 rintro w f a x ⟨k, rfl, hk, hI⟩
 refine ⟨fun hb => ?_, fun hb => ?_⟩
 ·have hlt := dlt hb
  have hek : d.fMark.getD k 0 = d.fMark[k] := by rw [List.getD_eq_getElem?_getD, List.getElem?_eq_getElem hlt]; rfl
  have up : ∀ q, q < k + 1 → q < k ∨ q = k := fun q hq => Nat.lt_succ_iff_lt_or_eq.1 hq
  refine ⟨fun w' f' a' => FInv d b i w' f' a' (k + 1), ⟨_, idx_at hlt, fun x => x = ((d.fMark.getD k 0 == 0) || ((mget (key3 0 d.fStart (k : Int)) i).getD 0 == 0)), ⟨fun h => ?_, fun h => ?_⟩, ?_⟩, fun w' f' a' h => ⟨⟨k + 1, wsucc (by omega), hlt, h⟩, mu_up hlt (by omega)⟩⟩
  ·rw [hek, h]
   rfl
  ·rw [hek, h]
   rfl
  rintro _ rfl
  refine ⟨fun h => ?_, fun h => ?_⟩
  ·have h0 : d.fMark.getD k 0 = 0 ∨ (mget (key3 0 d.fStart (k : Int)) i).getD 0 = 0 := by simpa using h
   refine ⟨fun e => ?_, fun q hq hm hi => ?_, fun e => ?_, hI.nil, fun q v hq hm hi hv => ?_⟩
   ·obtain ⟨q, h1, h2⟩ := hI.yes e
    exact ⟨q, by omega, h2⟩
   rotate_left
   ·obtain ⟨q, h1, h2⟩ := hI.anyS e
    exact ⟨q, by omega, h2⟩
   rotate_left
   ·rcases up q hq with hq | rfl
    ·exact hI.anyA q hq hm hi
    ·rcases h0 with h0 | h0
     ·exact absurd h0 hm
     ·exact absurd h0 hi
   ·rcases up q hq with hq | rfl
    ·exact hI.min q v hq hm hi hv
    ·rcases h0 with h0 | h0
     ·exact absurd h0 hm
     ·exact absurd h0 hi
  ·have h0 : d.fMark.getD k 0 ≠ 0 ∧ (mget (key3 0 d.fStart (k : Int)) i).getD 0 ≠ 0 := by simpa using h
   have h4 := hF.sound.in4 hg
   refine ⟨fun y => y = ((mget (key3 0 d.fStart (k : Int)) b).isSome && ((!f) || beforeB ((mget (key3 0 d.fStart (k : Int)) b).getD []) w)), ⟨fun e1 => ⟨fun e2 => ?_, fun e2 => ?_⟩, fun e1 => ?_⟩, ?_⟩
   ·have e1 : (mget (key3 0 d.fStart (k : Int)) b).isSome = true := e1
    rw [e1, e2]
    rfl
   ·have e1 : (mget (key3 0 d.fStart (k : Int)) b).isSome = true := e1
    rw [e1, e2]
    rfl
   ·have e1 : (mget (key3 0 d.fStart (k : Int)) b).isSome = false := e1
    rw [e1]
    rfl
   rintro _ rfl
   refine ⟨fun e => ?_, fun e => ?_⟩
   ·rw [Bool.and_eq_true] at e
    obtain ⟨v, hv⟩ := Option.isSome_iff_exists.1 e.1
    rw [hv] at e
    have e2 : ((!f) || beforeB v w) = true := e.2
    have hv' : (mget (key3 0 d.fStart (k : Int)) b).getD [] = v := by rw [hv]; rfl
    rw [show (mget (St170.mk 0 d.fStart (k : Int)) b).getD [] = v from hv']
    refine ⟨fun _ => ⟨k, Nat.lt_succ_self _, h0.1, hv⟩, fun _ _ _ _ => rfl, fun _ => ⟨k, Nat.lt_succ_self _, h0⟩, fun h => (by cases h), fun q u hq hm hi hu => ⟨rfl, ?_⟩⟩
    rcases up q hq with hq | rfl
    ·obtain ⟨f1, f2⟩ := hI.min q u hq hm hi hu
     rw [f1] at e2
     obtain ⟨q2, _, _, hw⟩ := hI.yes f1
     exact Nat.le_trans (Nat.le_of_lt (before_val (h4 _ _ hv) (h4 _ _ hw) (by simpa using e2)).1) f2
    ·rw [hv] at hu
     cases hu
     exact Nat.le_refl _
   ·refine ⟨fun e1 => ?_, fun _ _ _ _ => rfl, fun _ => ⟨k, Nat.lt_succ_self _, h0⟩, hI.nil, fun q u hq hm hi hu => ?_⟩
    ·obtain ⟨q, k1, k2⟩ := hI.yes e1
     exact ⟨q, by omega, k2⟩
    ·rcases up q hq with hq | rfl
     ·exact hI.min q u hq hm hi hu
     ·rw [hu] at e
      have e : ((!f) || beforeB u w) = false := e
      rw [Bool.or_eq_false_iff] at e
      have f1 : f = true := by simpa using e.1
      obtain ⟨q2, _, _, hw⟩ := hI.yes f1
      exact ⟨f1, before_not (h4 _ _ hu) (h4 _ _ hw) e.2⟩
 ·obtain rfl : k = d.fMark.length := by have := dge hb; omega
  have hfo := first_of ⟨hg, hd, hl, hf⟩ hF hI
  refine ⟨fun hc => ?_, fun hc => ?_⟩
  ·rw [hZ, hfo, if_pos hc]
  ·rw [hZ, hfo, if_neg (by rw [hc]; decide)]
def gSom_vc (g : ApiGrammar) (Q : ((List Int) × Bool × Int) → Prop) : Prop :=
 g.fMakes.length ≤ 9223372036854775807 →
 (IfP ((grmErr g) != 0) (Q ([], false, (grmErr g))) (makeOk g.fLetters g.fLetters 8 ∧
 (FstPre g (ApiDet.mk g.fLetters 0 ([(List.replicate (g.fLetters).toNat (0 : Int))] : List (List Int)) ([1] : List Int))) ∧
 Q ((firstR g (ApiDet.mk g.fLetters 0 ([(List.replicate (g.fLetters).toNat (0 : Int))] : List (List Int)) ([1] : List Int))).1, (firstR g (ApiDet.mk g.fLetters 0 ([(List.replicate (g.fLetters).toNat (0 : Int))] : List (List Int)) ([1] : List Int))).2.1, (firstR g (ApiDet.mk g.fLetters 0 ([(List.replicate (g.fLetters).toNat (0 : Int))] : List (List Int)) ([1] : List Int))).2.2)))
noncomputable abbrev qp0 (g : ApiGrammar) := (firstR g (ApiDet.mk g.fLetters 0 ([(List.replicate (g.fLetters).toNat (0 : Int))] : List (List Int)) ([1] : List Int)))
noncomputable abbrev qp1 (g : ApiGrammar) := (List.replicate (g.fLetters).toNat (0 : Int))
noncomputable abbrev qp2 (g : ApiGrammar) := ([.box (ApiGrammar.cl g) 37 false] : List Item)
theorem gSom_walk (g : ApiGrammar) (Q : ((List Int) × Bool × Int) → Prop) (h : gSom_vc g Q) : Ct 15 [.sv (.agg [I g.fLetters, I g.fNames, LS ApiMake.ty g.fMakes])] [] Q (fun (r : ((List Int) × Bool × Int)) => .tup [.one (LS intT r.1), .one (B r.2.1), .one (I r.2.2)]) := by
 have ht := tab_ok
 refine Ct.body Try.func15 rfl rfl rfl rfl (fun c hn => ?_)
 unfold gSom_vc at h
 refine En.lenA 0 2 (by rfl) (by rfl) (fun hl => ?_)
 replace h := h hl
 clear hl
 refine En.sr ?_
 refine WL.rn ht hn 4 ⟨[sl 1 (.ptr 0 0)], (qp2 g)⟩ ?_
 refine En.seq ?_
 refine En.sr ?_
 refine WL.r ht hn 1 ⟨[sl 1 (.ptr 0 0), (6, .sv (.agg (ApiGrammar.cl g)))], (qp2 g)⟩ ?_
 refine WL.m0 hn (mt_c (gChk_ct g) en38 rfl) ?_
 refine WL.rn ht hn 1 ⟨[sl 1 (.ptr 0 0), sl 5 (I (grmErr g))], (qp2 g)⟩ ?_
 refine En.sr ?_
 refine WL.rn ht hn 2 ⟨[sl 1 (.ptr 0 0), sl 5 (I (grmErr g)), sl 9 (B ((grmErr g) != 0))], (qp2 g)⟩ ?_
 refine En.cd (b := ((grmErr g) != 0)) (fun hb => ?_) (fun hb => ?_)
 ·replace h := h.1 hb
  refine En.sr ?_
  refine WL.rn ht hn 4 ⟨[sl 2 (.v (.slice none 0 0)), sl 3 (B false), sl 4 (I (grmErr g))], [.gone]⟩ ?_
  refine En.ret ?_
  refine En.nilLS 2 intT (by rfl) ?_
  exact En.back ht ([], false, (grmErr g)) h (by kernel_rfl) rfl
 ·replace h := h.2 hb
  refine En.skip ?_
  refine En.seq ?_
  obtain ⟨hp_2, h⟩ := h
  obtain ⟨hp_3, h⟩ := h
  refine En.regionA ⟨[sl 1 (.ptr 0 0)], [.sv (.agg (ApiGrammar.cl g)), .sv (.one (.ptr 0 0)), .sv (.one (I g.fLetters)), .sv (.one (.ptr 0 0)), .sv (.one (I g.fLetters)), .sv (.one (LS intT (qp1 g))), .sv (.one (LS (lsT intT) ([qp1 g] : List (List Int)))), .sv (.one (LS intT ([1] : List Int))), .sv (.agg [I g.fLetters, I 0, LS (lsT intT) ([qp1 g] : List (List Int)), LS intT ([1] : List Int)]), .tup [.one (LS intT (qp0 g).1), .one (B (qp0 g).2.1), .one (I (qp0 g).2.2)], .sv (.one (LS intT (qp0 g).1)), .sv (.one (B (qp0 g).2.1)), .sv (.one (I (qp0 g).2.2)), .sv (.one (LS intT (qp0 g).1)), .sv (.one (B (qp0 g).2.1)), .sv (.one (I (qp0 g).2.2))], [⟨.box (ApiGrammar.cl g) 37 false, none, none, none⟩]⟩ ⟨[sl 2 (LS intT (qp0 g).1), sl 3 (B (qp0 g).2.1), sl 4 (I (qp0 g).2.2)], [.gone]⟩ (by kernel_rfl) hn (by kernel_rfl) (by rfl) (by kernel_rfl) ?_ (by kernel_rfl) ?_
  ·exact ⟨.ev ⟨[sl 1 (.ptr 0 0)], (qp2 g)⟩ ht,
  .ev ⟨[sl 1 (.ptr 0 0)], []⟩ ht,
  .ev ⟨[sl 12 (.ptr 0 0)], (qp2 g)⟩ ht,
  .ev ⟨[sl 1 (.ptr 0 0)], []⟩ ht,
  .ev ⟨[sl 14 (.ptr 0 0)], (qp2 g)⟩ ht,
  .mt ⟨[sl 15 (I g.fLetters)], []⟩ [] none (by kernel_rfl) (by rfl) (mt_seal (q := 1) (e := 3) (mt_make (T := intT) (0 : Int) (zv := (.int .i64 0)) 1 (l := g.fLetters) (cp := g.fLetters) ht rfl (by rfl) (by rfl) (by rfl) (by rfl) (by decide) (by rfl) (by rfl) hp_2.1 hp_2.2.1 hp_2.2.2 (hp_2.le (by decide)) rfl (fun _ => ⟨rfl, trivial⟩))) rfl rfl rfl rfl,
  .mt ⟨[sl 16 (LS intT (qp1 g))], []⟩ [] none (by kernel_rfl) (by rfl) (mt_seal (q := 1) (e := 23) (mt_lit (T := (lsT intT)) ([qp1 g] : List (List Int)) (mt_bsl 1 (r := cellsOf (lsT intT) ([qp1 g] : List (List Int))) ht rfl (by rfl) (by rfl) (by rfl) (by kernel_rfl) (by rfl)) (fun _ h => by cases h) (fun _ => rfl) (fun _ => rfl) (by rfl) (Nat.le_of_ble_eq_true rfl))) rfl rfl rfl rfl,
  .mt ⟨[], []⟩ [] none (by kernel_rfl) (by rfl) (mt_seal (q := 1) (e := 3) (mt_lit (T := intT) ([1] : List Int) (mt_bsl 1 (r := cellsOf intT ([1] : List Int)) ht rfl (by rfl) (by rfl) (by rfl) (by kernel_rfl) (by rfl)) (fun _ h => by cases h) (fun _ => rfl) (fun _ => rfl) (by rfl) (Nat.le_of_ble_eq_true rfl))) rfl rfl rfl rfl,
  .ev ⟨[sl 13 (I g.fLetters), sl 17 (LS (lsT intT) ([qp1 g] : List (List Int))), sl 18 (LS intT ([1] : List Int))], []⟩ ht,
  .vl ⟨[(11, .sv (.agg (ApiGrammar.cl g))), (19, .sv (.agg [I g.fLetters, I 0, LS (lsT intT) ([qp1 g] : List (List Int)), LS intT ([1] : List Int)]))], []⟩ (mt_c (gFst_ct g (ApiDet.mk g.fLetters 0 ([qp1 g] : List (List Int)) ([1] : List Int)) hp_3) en43 rfl),
  .ev ⟨[(20, .tup [.one (LS intT (qp0 g).1), .one (B (qp0 g).2.1), .one (I (qp0 g).2.2)])], []⟩ ht,
  .ev ⟨[(20, .tup [.one (LS intT (qp0 g).1), .one (B (qp0 g).2.1), .one (I (qp0 g).2.2)])], []⟩ ht,
  .ev ⟨[(20, .tup [.one (LS intT (qp0 g).1), .one (B (qp0 g).2.1), .one (I (qp0 g).2.2)])], []⟩ ht,
  .ev ⟨[sl 21 (LS intT (qp0 g).1)], []⟩ ht,
  .ev ⟨[sl 22 (B (qp0 g).2.1)], []⟩ ht,
  .ev ⟨[sl 23 (I (qp0 g).2.2)], []⟩ ht,
  trivial⟩
  ·refine En.ret ?_
   exact En.back ht ((qp0 g).1, (qp0 g).2.1, (qp0 g).2.2) h (by kernel_rfl) rfl
theorem en15 : ∀ args w, (callFunc 15 args).run Try.prog w = .ok (.enter 15 args) w := enters_of Try.func15 (by kernel_rfl) rfl
def one1 (g : ApiGrammar) : ApiDet := ApiDet.mk g.fLetters 0 [List.replicate g.fLetters.toNat 0] [1]
theorem one1_ok {g : ApiGrammar} (hg : GrmOk g) : DetOk (one1 g) := by
 have hl := hg.lets
 refine ⟨hl, ⟨Nat.le_refl _, by show 1 ≤ 3000; decide⟩, rfl, fun r hr => ?_, ⟨Int.le_refl _, by show (0 : Int) < 1; decide⟩, fun r hr p hp => ?_, fun m hm => ?_⟩
 ·rw [List.mem_singleton.1 hr, List.length_replicate]
  show _ = g.fLetters
  omega
 ·rw [List.mem_singleton.1 hr] at hp
  rw [(List.mem_replicate.1 hp).2]
  exact ⟨Int.le_refl _, by show (0 : Int) < 1; decide⟩
 ·exact .inr (List.mem_singleton.1 hm)
def SomQ (g : ApiGrammar) (r : List Int × Bool × Int) : Prop := r.2.2 = 0 → grmErr g = 0 ∧ GrmOk g ∧ FQ g (one1 g) r.1 r.2.1
def BthQ (g : ApiGrammar) (d : ApiDet) (r : List Int × Bool × Int) : Prop := r.2.2 = 0 → GrmOk g ∧ DetOk d ∧ d.fLetters = g.fLetters ∧ FQ g d r.1 r.2.1
theorem gSom_ct (g : ApiGrammar)  : Ct 15 [.sv (.agg [I g.fLetters, I g.fNames, LS ApiMake.ty g.fMakes])] [] (SomQ g) (fun (r : ((List Int) × Bool × Int)) => .tup [.one (LS intT r.1), .one (B r.2.1), .one (I r.2.2)]) := by
 refine gSom_walk g (SomQ g) ?_
 unfold gSom_vc
 intro _
 refine ⟨fun h e => ?_, fun h => ?_⟩
 ·exact absurd e (bne_iff_ne.1 h)
 have hg := grmErr_ok (by simpa using h)
 have hl := hg.lets
 refine ⟨⟨by omega, Int.le_refl _, by omega⟩, ⟨hg, one1_ok hg, rfl, Nat.le_of_ble_eq_true rfl⟩, fun e => ⟨by simpa using h, hg, ?_⟩⟩
 rcases firstR_ok (g := g) (d := one1 g) with ⟨h7, _⟩ | ⟨_, hq⟩
 ·have e : (firstR g (one1 g)).2.2 = 0 := e
  omega
 ·exact hq
def gBth_vc (g : ApiGrammar) (d : ApiDet) (Q : ((List Int) × Bool × Int) → Prop) : Prop :=
 g.fMakes.length ≤ 9223372036854775807 →
 d.fNext.length ≤ 9223372036854775807 →
 d.fMark.length ≤ 9223372036854775807 →
 (IfP ((grmErr g) != 0) (Q ([], false, (grmErr g))) (IfP ((detErr d) != 0) (Q ([], false, (detErr d))) (IfP (g.fLetters != d.fLetters) (Q ([], false, 3)) (IfP (decide ((d.fNext.length : Int) > 4)) (Q ([], false, 1)) ((FstPre g d) ∧
 Q ((firstR g d).1, (firstR g d).2.1, (firstR g d).2.2))))))
noncomputable abbrev qr0 (g : ApiGrammar) (d : ApiDet) := ([.box (ApiGrammar.cl g) 37 false, .box (ApiDet.cl d) 25 false] : List Item)
theorem gBth_walk (g : ApiGrammar) (d : ApiDet) (Q : ((List Int) × Bool × Int) → Prop) (h : gBth_vc g d Q) : Ct 18 [.sv (.agg [I g.fLetters, I g.fNames, LS ApiMake.ty g.fMakes]), .sv (.agg [I d.fLetters, I d.fStart, LS (lsT intT) d.fNext, LS intT d.fMark])] [] Q (fun (r : ((List Int) × Bool × Int)) => .tup [.one (LS intT r.1), .one (B r.2.1), .one (I r.2.2)]) := by
 have ht := tab_ok
 refine Ct.body Try.func18 rfl rfl rfl rfl (fun c hn => ?_)
 unfold gBth_vc at h
 refine En.lenA 0 2 (by rfl) (by rfl) (fun hl => ?_)
 replace h := h hl
 clear hl
 refine En.lenA 1 2 (by rfl) (by rfl) (fun hl => ?_)
 replace h := h hl
 clear hl
 refine En.lenA 1 3 (by rfl) (by rfl) (fun hl => ?_)
 replace h := h hl
 clear hl
 refine En.sr ?_
 refine WL.rn ht hn 5 ⟨[sl 2 (.ptr 0 0), sl 3 (.ptr 1 0)], (qr0 g d)⟩ ?_
 refine En.seq ?_
 refine En.sr ?_
 refine WL.r ht hn 1 ⟨[sl 2 (.ptr 0 0), sl 3 (.ptr 1 0), (9, .sv (.agg (ApiGrammar.cl g)))], (qr0 g d)⟩ ?_
 refine WL.m0 hn (mt_c (gChk_ct g) en38 rfl) ?_
 refine WL.rn ht hn 1 ⟨[sl 2 (.ptr 0 0), sl 3 (.ptr 1 0), sl 7 (I (grmErr g))], (qr0 g d)⟩ ?_
 refine En.sr ?_
 refine WL.rn ht hn 2 ⟨[sl 2 (.ptr 0 0), sl 3 (.ptr 1 0), sl 7 (I (grmErr g)), sl 12 (B ((grmErr g) != 0))], (qr0 g d)⟩ ?_
 refine En.cd (b := ((grmErr g) != 0)) (fun hb => ?_) (fun hb => ?_)
 ·replace h := h.1 hb
  refine En.sr ?_
  refine WL.rn ht hn 4 ⟨[sl 4 (.v (.slice none 0 0)), sl 5 (B false), sl 6 (I (grmErr g))], [.gone, .gone]⟩ ?_
  refine En.ret ?_
  refine En.nilLS 4 intT (by rfl) ?_
  exact En.back ht ([], false, (grmErr g)) h (by kernel_rfl) rfl
 ·replace h := h.2 hb
  refine En.skip ?_
  refine En.seq ?_
  refine En.sr ?_
  refine WL.r ht hn 1 ⟨[sl 2 (.ptr 0 0), sl 3 (.ptr 1 0), (14, .sv (.agg (ApiDet.cl d)))], (qr0 g d)⟩ ?_
  refine WL.m0 hn (mt_c (detCheck_ct d) en52 rfl) ?_
  refine WL.rn ht hn 1 ⟨[sl 2 (.ptr 0 0), sl 3 (.ptr 1 0), sl 8 (I (detErr d))], (qr0 g d)⟩ ?_
  refine En.sr ?_
  refine WL.rn ht hn 2 ⟨[sl 2 (.ptr 0 0), sl 3 (.ptr 1 0), sl 8 (I (detErr d)), sl 17 (B ((detErr d) != 0))], (qr0 g d)⟩ ?_
  refine En.cd (b := ((detErr d) != 0)) (fun hb => ?_) (fun hb => ?_)
  ·replace h := h.1 hb
   refine En.sr ?_
   refine WL.rn ht hn 4 ⟨[sl 4 (.v (.slice none 0 0)), sl 5 (B false), sl 6 (I (detErr d))], [.gone, .gone]⟩ ?_
   refine En.ret ?_
   refine En.nilLS 4 intT (by rfl) ?_
   exact En.back ht ([], false, (detErr d)) h (by kernel_rfl) rfl
  ·replace h := h.2 hb
   refine En.skip ?_
   refine En.seq ?_
   refine En.sr ?_
   refine WL.rn ht hn 5 ⟨[sl 2 (.ptr 0 0), sl 3 (.ptr 1 0), sl 23 (B (g.fLetters != d.fLetters))], (qr0 g d)⟩ ?_
   refine En.cd (b := (g.fLetters != d.fLetters)) (fun hb => ?_) (fun hb => ?_)
   ·replace h := h.1 hb
    refine En.sr ?_
    refine WL.rn ht hn 3 ⟨[sl 4 (.v (.slice none 0 0)), sl 5 (B false), sl 6 (I 3)], [.gone, .gone]⟩ ?_
    refine En.ret ?_
    refine En.nilLS 4 intT (by rfl) ?_
    exact En.back ht ([], false, 3) h (by kernel_rfl) rfl
   ·replace h := h.2 hb
    refine En.skip ?_
    refine En.seq ?_
    refine En.sr ?_
    refine WL.rn ht hn 4 ⟨[sl 2 (.ptr 0 0), sl 3 (.ptr 1 0), sl 27 (B (decide ((d.fNext.length : Int) > 4)))], (qr0 g d)⟩ ?_
    refine En.cd (b := (decide ((d.fNext.length : Int) > 4))) (fun hb => ?_) (fun hb => ?_)
    ·replace h := h.1 hb
     refine En.sr ?_
     refine WL.rn ht hn 3 ⟨[sl 4 (.v (.slice none 0 0)), sl 5 (B false), sl 6 (I 1)], [.gone, .gone]⟩ ?_
     refine En.ret ?_
     refine En.nilLS 4 intT (by rfl) ?_
     exact En.back ht ([], false, 1) h (by kernel_rfl) rfl
    ·replace h := h.2 hb
     refine En.skip ?_
     refine En.sr ?_
     refine WL.r ht hn 2 ⟨[(28, .sv (.agg (ApiGrammar.cl g))), (29, .sv (.agg (ApiDet.cl d)))], [.gone, .gone]⟩ ?_
     obtain ⟨hp, h⟩ := h
     refine WL.m0 hn (mt_c (gFst_ct g d hp) en43 rfl) ?_
     refine WL.rn ht hn 6 ⟨[sl 4 (LS intT (firstR g d).1), sl 5 (B (firstR g d).2.1), sl 6 (I (firstR g d).2.2)], [.gone, .gone]⟩ ?_
     exact En.rb ht ((firstR g d).1, (firstR g d).2.1, (firstR g d).2.2) h
theorem en18 : ∀ args w, (callFunc 18 args).run Try.prog w = .ok (.enter 18 args) w := enters_of Try.func18 (by kernel_rfl) rfl
theorem gBth_ct (g : ApiGrammar) (d : ApiDet)  : Ct 18 [.sv (.agg [I g.fLetters, I g.fNames, LS ApiMake.ty g.fMakes]), .sv (.agg [I d.fLetters, I d.fStart, LS (lsT intT) d.fNext, LS intT d.fMark])] [] (BthQ g d) (fun (r : ((List Int) × Bool × Int)) => .tup [.one (LS intT r.1), .one (B r.2.1), .one (I r.2.2)]) := by
 refine gBth_walk g d (BthQ g d) ?_
 unfold gBth_vc
 intro _ _ _
 refine ⟨fun h e => absurd e (bne_iff_ne.1 h), fun h => ⟨fun h2 e => absurd e (bne_iff_ne.1 h2), fun h2 => ⟨fun h3 e => (by cases e), fun h3 => ⟨fun h4 e => (by cases e), fun h4 => ?_⟩⟩⟩⟩
 have hg := grmErr_ok (by simpa using h)
 have hd := (detErr_iff d).1 (by simpa using h2)
 have hl : d.fLetters = g.fLetters := by have := bne_eq_false_iff_eq.1 h3; omega
 have h4 := of_decide_eq_false h4
 refine ⟨⟨hg, hd, hl, by omega⟩, fun e => ⟨hg, hd, hl, ?_⟩⟩
 rcases firstR_ok (g := g) (d := d) with ⟨h7, _⟩ | ⟨_, hq⟩
 ·have e : (firstR g d).2.2 = 0 := e
  omega
 ·exact hq
def tinyG : ApiGrammar := ApiGrammar.mk 1 1 [ApiMake.mk 0 [0, 1], ApiMake.mk 0 []]
def endB (g : ApiGrammar) (l : List Int) (s : Int) : Bool := decide (s ≥ g.fLetters) && (l.getD (s - g.fLetters).toNat 0 == 0)
def endDom (g : ApiGrammar) (l : List Int) (s : Int) : Prop := g = tinyG ∧ l.length = 1 ∧ (s = 0 ∨ s = 1)
theorem one_of {l : List Int} (h : l.length = 1) : ∃ a, l = [a] := by
 match l, h with
 | [a], _ => exact ⟨a, rfl⟩
def gEn1_vc (s : Int) (g : ApiGrammar) (l : List Int) (Q : Bool → Prop) : Prop :=
 ∃ J : Bool → Prop, (IfP (decide (s ≥ g.fLetters)) (∃ e, idx l (wr (s - g.fLetters)) = some e ∧
 J (e == 0)) (J false)) ∧
 (∀ (x4 : Bool), J x4 → Q x4)
theorem gEn1_walk (s : Int) (g : ApiGrammar) (l : List Int) (Q : Bool → Prop) (h : gEn1_vc s g l Q) : Ct 137 [.sv (.one (I s)), .sv (.one (.ptr 0 0)), .sv (.one (.ptr 1 0))] [.box [I g.fLetters, I g.fNames, LS ApiMake.ty g.fMakes] 37 true, .box [LS intT l] 23 true] Q (fun (r : Bool) => .sv (.one (B r))) := by
 have ht := tab_ok
 refine Ct.body Try.func137 rfl rfl rfl rfl (fun c hn => ?_)
 unfold gEn1_vc at h
 refine En.sr ?_
 refine WL.rn ht hn 1 ⟨[sl 0 (I s), sl 1 (.ptr 0 0), sl 2 (.ptr 1 0)], [.box (ApiGrammar.cl g) 37 true, .box [LS intT l] 23 true]⟩ ?_
 obtain ⟨J, h, hJ⟩ := h
 refine En.seqJ (σ := Bool) (fun zz => J zz) (fun zz => ⟨[sl 4 (B zz)], [.gone, .gone]⟩) ?_ ?_
 refine En.region ?_
 refine WL.r ht hn 5 ⟨[sl 0 (I s), sl 1 (.ptr 0 0), sl 2 (.ptr 1 0), sl 9 (B (decide (s ≥ g.fLetters)))], [.box (ApiGrammar.cl g) 37 true, .box [LS intT l] 23 true]⟩ ?_
 refine splitB (decide (s ≥ g.fLetters)) (fun hb => ?_) (fun hb => ?_)
 replace h := h.1 hb
 refine WL.sB 9 hb ?_
 refine WL.r ht hn 5 ⟨[sl 9 (B true), sl 10 (LS intT l), sl 14 (I (wr (s - g.fLetters)))], [.gone, .gone]⟩ ?_
 obtain ⟨e, he, h⟩ := h
 refine WL.v hn (val_ix (T := intT) (l := l) (i := (wr (s - g.fLetters))) ht rfl he) ?_
 refine WL.v hn (val_ld (s := .one (I e)) ht rfl) ?_
 refine WL.rn ht hn 3 ⟨[sl 4 (B (e == 0))], [.gone, .gone]⟩ ?_
 exact En.at (I := fun zz => J zz) (T := fun zz => ⟨[sl 4 (B zz)], [.gone, .gone]⟩) (e == 0) h (by kernel_rfl)
 replace h := h.2 hb
 refine WL.sB 9 hb ?_
 refine WL.rn ht hn 10 ⟨[sl 4 (B false)], [.gone, .gone]⟩ ?_
 exact En.at (I := fun zz => J zz) (T := fun zz => ⟨[sl 4 (B zz)], [.gone, .gone]⟩) false h (by kernel_rfl)
 intro x4 h
 replace h := hJ _ h
 show En c ⟨[sl 4 (B x4)], [.gone, .gone]⟩ _
 exact En.rb ht x4 h
theorem en137 : ∀ args w, (callFunc 137 args).run Try.prog w = .ok (.enter 137 args) w := enters_of Try.func137 (by kernel_rfl) rfl
theorem gEn1_ct (s : Int) (g : ApiGrammar) (l : List Int) (hp : endDom g l s)  : Ct 137 [.sv (.one (I s)), .sv (.one (.ptr 0 0)), .sv (.one (.ptr 1 0))] [.box [I g.fLetters, I g.fNames, LS ApiMake.ty g.fMakes] 37 true, .box [LS intT l] 23 true] (fun (_ : Unit) => True) (fun _ => .sv (.one (B (endB g l s)))) := by
 refine (gEn1_walk s g l (fun res_ => res_ = (endB g l s)) ?_).fun
 obtain ⟨rfl, hl, hs⟩ := hp
 obtain ⟨a, rfl⟩ := one_of hl
 unfold gEn1_vc
 rcases hs with rfl | rfl
 ·exact ⟨fun b => b = endB tinyG [a] 0, ⟨fun h => absurd h (by decide), fun _ => rfl⟩, fun _ h => h⟩
 ·exact ⟨fun b => b = endB tinyG [a] 1, ⟨fun _ => ⟨a, rfl, rfl⟩, fun h => absurd h (by decide)⟩, fun _ h => h⟩
def gUs1_vc (s : Int) (g : ApiGrammar) (l : List Int) (Q : Bool → Prop) : Prop :=
 ∃ J : Bool → Prop, (IfP (decide (s ≥ g.fLetters)) (∃ e, idx l (wr (s - g.fLetters)) = some e ∧
 J (e == 0)) (J false)) ∧
 (∀ (x4 : Bool), J x4 → Q x4)
theorem gUs1_walk (s : Int) (g : ApiGrammar) (l : List Int) (Q : Bool → Prop) (h : gUs1_vc s g l Q) : Ct 84 [.sv (.one (I s)), .sv (.one (.ptr 0 0)), .sv (.one (.ptr 1 0))] [.box [I g.fLetters, I g.fNames, LS ApiMake.ty g.fMakes] 37 true, .box [LS intT l] 23 true] Q (fun (r : Bool) => .sv (.one (B r))) := by
 have ht := tab_ok
 refine Ct.body Try.func84 rfl rfl rfl rfl (fun c hn => ?_)
 unfold gUs1_vc at h
 refine En.sr ?_
 refine WL.rn ht hn 1 ⟨[sl 0 (I s), sl 1 (.ptr 0 0), sl 2 (.ptr 1 0)], [.box (ApiGrammar.cl g) 37 true, .box [LS intT l] 23 true]⟩ ?_
 obtain ⟨J, h, hJ⟩ := h
 refine En.seqJ (σ := Bool) (fun zz => J zz) (fun zz => ⟨[sl 4 (B zz)], [.gone, .gone]⟩) ?_ ?_
 refine En.region ?_
 refine WL.r ht hn 5 ⟨[sl 0 (I s), sl 1 (.ptr 0 0), sl 2 (.ptr 1 0), sl 9 (B (decide (s ≥ g.fLetters)))], [.box (ApiGrammar.cl g) 37 true, .box [LS intT l] 23 true]⟩ ?_
 refine splitB (decide (s ≥ g.fLetters)) (fun hb => ?_) (fun hb => ?_)
 replace h := h.1 hb
 refine WL.sB 9 hb ?_
 refine WL.r ht hn 5 ⟨[sl 9 (B true), sl 10 (LS intT l), sl 14 (I (wr (s - g.fLetters)))], [.gone, .gone]⟩ ?_
 obtain ⟨e, he, h⟩ := h
 refine WL.v hn (val_ix (T := intT) (l := l) (i := (wr (s - g.fLetters))) ht rfl he) ?_
 refine WL.v hn (val_ld (s := .one (I e)) ht rfl) ?_
 refine WL.rn ht hn 3 ⟨[sl 4 (B (e == 0))], [.gone, .gone]⟩ ?_
 exact En.at (I := fun zz => J zz) (T := fun zz => ⟨[sl 4 (B zz)], [.gone, .gone]⟩) (e == 0) h (by kernel_rfl)
 replace h := h.2 hb
 refine WL.sB 9 hb ?_
 refine WL.rn ht hn 10 ⟨[sl 4 (B false)], [.gone, .gone]⟩ ?_
 exact En.at (I := fun zz => J zz) (T := fun zz => ⟨[sl 4 (B zz)], [.gone, .gone]⟩) false h (by kernel_rfl)
 intro x4 h
 replace h := hJ _ h
 show En c ⟨[sl 4 (B x4)], [.gone, .gone]⟩ _
 exact En.rb ht x4 h
theorem en84 : ∀ args w, (callFunc 84 args).run Try.prog w = .ok (.enter 84 args) w := enters_of Try.func84 (by kernel_rfl) rfl
theorem gUs1_ct (s : Int) (g : ApiGrammar) (l : List Int) (hp : endDom g l s)  : Ct 84 [.sv (.one (I s)), .sv (.one (.ptr 0 0)), .sv (.one (.ptr 1 0))] [.box [I g.fLetters, I g.fNames, LS ApiMake.ty g.fMakes] 37 true, .box [LS intT l] 23 true] (fun (_ : Unit) => True) (fun _ => .sv (.one (B (endB g l s)))) := by
 refine (gUs1_walk s g l (fun res_ => res_ = (endB g l s)) ?_).fun
 obtain ⟨rfl, hl, hs⟩ := hp
 obtain ⟨a, rfl⟩ := one_of hl
 unfold gUs1_vc
 rcases hs with rfl | rfl
 ·exact ⟨fun b => b = endB tinyG [a] 0, ⟨fun h => absurd h (by decide), fun _ => rfl⟩, fun _ h => h⟩
 ·exact ⟨fun b => b = endB tinyG [a] 1, ⟨fun _ => ⟨a, rfl, rfl⟩, fun h => absurd h (by decide)⟩, fun _ h => h⟩
def gEnd_vc (g : ApiGrammar) (Q : (List Int) → Prop) : Prop :=
 g.fMakes.length ≤ 9223372036854775807 →
 (makeOk g.fNames g.fNames 8 ∧
 ∃ (Inv : Bool → (List Int) → Prop) (mu : Bool → (List Int) → Nat), Inv true (List.replicate (g.fNames).toNat (0 : Int)) ∧
 ∀ (x4 : Bool) (l1 : List Int) , Inv x4 l1 → (IfP x4 (∃ (Inv_2 : Bool → Int → (List Int) → Prop) (mu_2 : Bool → Int → (List Int) → Nat), Inv_2 false 0 l1 ∧
 ∀ (x4_2 : Bool) (x14 : Int) (l1_2 : List Int) , Inv_2 x4_2 x14 l1_2 → (IfP (decide (x14 < (g.fMakes.length : Int))) (∃ J : Bool → (List Int) → Prop, (∃ e, idx g.fMakes x14 = some e ∧
 ∃ J_2 : Bool → Prop, (∃ e_2, idx l1_2 e.fFrom = some e_2 ∧
 IfP (e_2 == 0) ((∀ x_ ∈ e.fTo, (endDom g l1_2) x_) ∧
 J_2 (!(e.fTo.any (endB g l1_2)))) (J_2 false)) ∧
 (∀ (x30 : Bool), J_2 x30 → IfP x30 (∃ e_3, idx l1_2 e.fFrom = some e_3 ∧
 J true (l1_2.set (e.fFrom).toNat 1)) (J x4_2 l1_2))) ∧
 (∀ (x4_3 : Bool) (l1_3 : List Int), J x4_3 l1_3 → (Inv_2 x4_3 (wr (x14 + 1)) l1_3 ∧ mu_2 x4_3 (wr (x14 + 1)) l1_3 < mu_2 x4_2 x14 l1_2))) ((Inv x4_2 l1_2 ∧ mu x4_2 l1_2 < mu x4 l1)))) (Q l1)))
noncomputable abbrev qu0 (g : ApiGrammar) (y0) (y1) := ([.box (ApiGrammar.cl g) 37 false, rowI 3 intT y0, .box [.own 1] 23 false, .box (ApiMake.cl y1) 39 false] : List Item)
noncomputable abbrev qu1 (g : ApiGrammar) := sl 13 (I (g.fMakes.length : Int))
noncomputable abbrev qu2 (g : ApiGrammar) := sl 12 (LS ApiMake.ty g.fMakes)
noncomputable abbrev qu3 := (.box [.own 1] 23 false : Item)
noncomputable abbrev qu4 := sl 1 (.ptr 0 0)
noncomputable abbrev qu5 := sl 3 (.ptr 2 0)
noncomputable abbrev qu6 (g : ApiGrammar) := (ApiGrammar.cl g)
theorem gEnd_walk (g : ApiGrammar) (Q : (List Int) → Prop) (h : gEnd_vc g Q) : CtJ 83 [.sv (.agg [I g.fLetters, I g.fNames, LS ApiMake.ty g.fMakes])] [] Q (fun (r : List Int) => rowI 3 intT r) := by
 have ht := tab_ok
 refine CtJ.body Try.func83 rfl rfl rfl rfl (fun c hn hmay => ?_)
 unfold gEnd_vc at h
 refine En.lenA 0 2 (by rfl) (by rfl) (fun hl => ?_)
 replace h := h hl
 clear hl
 refine En.sr ?_
 refine WL.rn ht hn 2 ⟨[qu4], [.box (qu6 g) 37 false]⟩ ?_
 refine En.sr ?_
 refine WL.r ht hn 2 ⟨[qu4, sl 8 (I g.fNames)], [.box (qu6 g) 37 false]⟩ ?_
 obtain ⟨hp, h⟩ := h
 refine WL.mt0 (K := []) (p := some (1, rowI 3 intT (List.replicate (g.fNames).toNat (0 : Int)))) hn (by rfl) (mt_make (T := intT) (0 : Int) (zv := (.int .i64 0)) 1 (l := g.fNames) (cp := g.fNames) ht rfl (by rfl) (by rfl) (by rfl) (by rfl) (by decide) (by rfl) (by rfl) hp.1 hp.2.1 hp.2.2 (hp.le (by decide)) rfl (fun _ => ⟨rfl, trivial⟩)) (by rfl) (by rfl) (by rfl) ?_
 refine WL.rn ht hn 2 ⟨[qu4, qu5], [.box (qu6 g) 37 false, rowI 3 intT (List.replicate (g.fNames).toNat (0 : Int)), qu3]⟩ ?_
 refine En.seq ?_
 refine En.sr ?_
 refine WL.rn ht hn 1 ⟨[qu4, qu5, sl 4 (B true)], [.box (qu6 g) 37 false, rowI 3 intT (List.replicate (g.fNames).toNat (0 : Int)), qu3]⟩ ?_
 refine En.block ?_
 obtain ⟨Inv, mu, h0_2, hI_2⟩ := h
 refine En.loop (σ := Bool × (List Int)) (fun zz => Inv zz.1 zz.2) (fun zz => mu zz.1 zz.2) (fun zz => ⟨[qu4, qu5, sl 4 (B zz.1)], [.box (qu6 g) 37 false, rowI 3 intT zz.2, qu3]⟩) (true, (List.replicate (g.fNames).toNat (0 : Int))) h0_2 (sub_ok (by kernel_rfl)) ?_
 rintro ⟨x4, l1⟩ h
 replace h := hI_2 _ _ h
 show En c ⟨[qu4, qu5, sl 4 (B x4)], [.box (qu6 g) 37 false, rowI 3 intT l1, qu3]⟩ _
 refine En.seq ?_
 refine En.sr ?_
 refine WL.rn ht hn 1 ⟨[qu4, qu5, sl 10 (B x4)], [.box (qu6 g) 37 false, rowI 3 intT l1, qu3]⟩ ?_
 refine En.ch h (fun h => ?_) (fun h => ?_)
 refine En.skip ?_
 refine En.block ?_
 refine En.sr ?_
 refine WL.rn ht hn 1 ⟨[qu4, qu5, sl 4 (B false)], [.box (qu6 g) 37 false, rowI 3 intT l1, qu3]⟩ ?_
 refine En.sr ?_
 refine WL.rn ht hn 4 ⟨[qu4, qu5, sl 4 (B false), qu2 g, qu1 g, sl 14 (I 0)], [.box (qu6 g) 37 false, rowI 3 intT l1, qu3]⟩ ?_
 refine En.block ?_
 obtain ⟨Inv_2, mu_2, h0, hI⟩ := h
 refine En.loop (σ := Bool × Int × (List Int)) (fun zz => Inv_2 zz.1 zz.2.1 zz.2.2) (fun zz => mu_2 zz.1 zz.2.1 zz.2.2) (fun zz => ⟨[qu4, qu5, sl 4 (B zz.1), qu2 g, qu1 g, sl 14 (I zz.2.1)], [.box (qu6 g) 37 false, rowI 3 intT zz.2.2, qu3]⟩) (false, 0, l1) h0 (sub_ok (by kernel_rfl)) ?_
 rintro ⟨x4_2, x14, l1_2⟩ h
 replace h := hI _ _ _ h
 show En c ⟨[qu4, qu5, sl 4 (B x4_2), qu2 g, qu1 g, sl 14 (I x14)], [.box (qu6 g) 37 false, rowI 3 intT l1_2, qu3]⟩ _
 refine En.sr ?_
 refine WL.rn ht hn 1 ⟨[qu4, qu5, sl 4 (B x4_2), qu2 g, qu1 g, sl 14 (I x14), sl 15 (B (decide (x14 < (g.fMakes.length : Int))))], [.box (qu6 g) 37 false, rowI 3 intT l1_2, qu3]⟩ ?_
 refine En.seq ?_
 refine En.ch h (fun h => ?_) (fun h => ?_)
 refine En.skip ?_
 obtain ⟨J, h, hJ⟩ := h
 refine En.seqJ (σ := Bool × (List Int)) (fun zz => J zz.1 zz.2) (fun zz => ⟨[qu4, qu5, sl 4 (B zz.1), qu2 g, qu1 g, sl 14 (I x14)], [.box (qu6 g) 37 false, rowI 3 intT zz.2, qu3, .gone]⟩) ?_ ?_
 refine En.block ?_
 refine En.sr ?_
 obtain ⟨e, he, h⟩ := h
 refine WL.v hn (val_ix (T := ApiMake.ty) (l := g.fMakes) (i := x14) ht rfl he) ?_
 refine WL.v hn (val_ld (s := .agg (ApiMake.cl e)) ht rfl) ?_
 refine WL.rn ht hn 2 ⟨[qu4, qu5, sl 4 (B x4_2), sl 6 (.ptr 3 0), qu2 g, qu1 g, sl 14 (I x14)], (qu0 g l1_2 e)⟩ ?_
 obtain ⟨J_2, h, hJ_2⟩ := h
 refine En.seqJ (σ := Bool) (fun zz => J_2 zz) (fun zz => ⟨[qu4, qu5, sl 4 (B x4_2), sl 6 (.ptr 3 0), qu2 g, qu1 g, sl 14 (I x14), sl 30 (B zz)], (qu0 g l1_2 e)⟩) ?_ ?_
 refine En.region ?_
 refine WL.r ht hn 3 ⟨[qu4, qu5, sl 4 (B x4_2), sl 6 (.ptr 3 0), qu2 g, qu1 g, sl 14 (I x14), sl 18 (.own 1), sl 20 (I e.fFrom)], (qu0 g l1_2 e)⟩ ?_
 obtain ⟨e_2, he_2, h⟩ := h
 refine WL.v hn (val_indexO (T := intT) (l := l1_2) (k := e.fFrom) ht rfl (by rfl) (by rfl) (by rfl) (by rfl) (by decide) (by rfl) (by rfl) (by rfl) he_2) ?_
 refine WL.v hn (val_loadO (T := intT) (l := l1_2) (y := e_2) ht rfl (by rfl) (by rfl) (by rfl) (by rfl) (by rfl) (idx_some he_2).2.2 (by rfl)) ?_
 refine WL.r ht hn 2 ⟨[qu4, qu5, sl 4 (B x4_2), sl 6 (.ptr 3 0), qu2 g, qu1 g, sl 14 (I x14), sl 24 (B (e_2 == 0))], (qu0 g l1_2 e)⟩ ?_
 refine splitB (e_2 == 0) (fun hb => ?_) (fun hb => ?_)
 replace h := h.1 hb
 refine WL.sB 24 hb ?_
 refine WL.r ht hn 3 ⟨[qu4, qu5, sl 4 (B x4_2), sl 6 (.ptr 3 0), qu2 g, qu1 g, sl 14 (I x14), sl 24 (B true), sl 26 (LS intT e.fTo), sl 27 (.fn 137 [0, 2])], (qu0 g l1_2 e)⟩ ?_
 obtain ⟨hp, h⟩ := h
 refine WL.m0 hn (mt_lend (T := intT) (l := l1_2) 1 (by rfl) (by rfl) (mt_lendF [0, 2] (by rfl) (by rfl) (mt_ghost 27 (o1 (.rd (fvR (fun (x_ : Int) => [.sv (.one (I x_))]) (fun (r : Bool) => .sv (.one (B r))) (endDom g l1_2) (endB g l1_2)))) (by rfl) (fv_of (M := [.box (qu6 g) 37 true, .box [LS intT l1_2] 23 true]) (caps := [0, 2]) (fun x_ hx => gEn1_ct x_ g l1_2 hx) en137 rfl (by kernel_rfl) (by rfl) (fun _ => rfl)) (mt_c (anyInt_ct e.fTo (endDom g l1_2) (endB g l1_2) hp) en41 rfl)))) ?_
 refine WL.rn ht hn 2 ⟨[qu4, qu5, sl 4 (B x4_2), sl 6 (.ptr 3 0), qu2 g, qu1 g, sl 14 (I x14), sl 30 (B (!(e.fTo.any (endB g l1_2))))], (qu0 g l1_2 e)⟩ ?_
 exact En.at (I := fun zz => J_2 zz) (T := fun zz => ⟨[qu4, qu5, sl 4 (B x4_2), sl 6 (.ptr 3 0), qu2 g, qu1 g, sl 14 (I x14), sl 30 (B zz)], (qu0 g l1_2 e)⟩) (!(e.fTo.any (endB g l1_2))) h (by kernel_rfl)
 replace h := h.2 hb
 refine WL.sB 24 hb ?_
 refine WL.rn ht hn 6 ⟨[qu4, qu5, sl 4 (B x4_2), sl 6 (.ptr 3 0), qu2 g, qu1 g, sl 14 (I x14), sl 30 (B false)], (qu0 g l1_2 e)⟩ ?_
 exact En.at (I := fun zz => J_2 zz) (T := fun zz => ⟨[qu4, qu5, sl 4 (B x4_2), sl 6 (.ptr 3 0), qu2 g, qu1 g, sl 14 (I x14), sl 30 (B zz)], (qu0 g l1_2 e)⟩) false h (by kernel_rfl)
 intro x30 h
 replace h := hJ_2 _ h
 show En c ⟨[qu4, qu5, sl 4 (B x4_2), sl 6 (.ptr 3 0), qu2 g, qu1 g, sl 14 (I x14), sl 30 (B x30)], (qu0 g l1_2 e)⟩ _
 refine En.ch h (fun h => ?_) (fun h => ?_)
 refine En.region ?_
 refine WL.r ht hn 3 ⟨[qu4, qu5, qu2 g, qu1 g, sl 14 (I x14), sl 31 (.own 1), sl 33 (I e.fFrom)], [.box (qu6 g) 37 false, rowI 3 intT l1_2, qu3, .gone]⟩ ?_
 obtain ⟨e_3, he_3, h⟩ := h
 refine WL.v hn (val_indexO (T := intT) (l := l1_2) (k := e.fFrom) ht rfl (by rfl) (by rfl) (by rfl) (by rfl) (by decide) (by rfl) (by rfl) (by rfl) he_3) ?_
 refine WL.storeO (T := intT) (l := l1_2) (y := 1) ht hn (by rfl) rfl (by rfl) (by rfl) (fun _ h => by cases h) (by rfl) (by rfl) (idx_lt he_3) (by rfl) (by rfl) (by rfl) (by rfl) ?_
 refine WL.rn ht hn 1 ⟨[qu4, qu5, sl 4 (B true), qu2 g, qu1 g, sl 14 (I x14)], [.box (qu6 g) 37 false, rowI 3 intT (l1_2.set (e.fFrom).toNat 1), qu3, .gone]⟩ ?_
 exact En.at (I := fun zz => J zz.1 zz.2) (T := fun zz => ⟨[qu4, qu5, sl 4 (B zz.1), qu2 g, qu1 g, sl 14 (I x14)], [.box (qu6 g) 37 false, rowI 3 intT zz.2, qu3, .gone]⟩) (true, (l1_2.set (e.fFrom).toNat 1)) h (by kernel_rfl)
 refine En.skip ?_
 exact En.at (I := fun zz => J zz.1 zz.2) (T := fun zz => ⟨[qu4, qu5, sl 4 (B zz.1), qu2 g, qu1 g, sl 14 (I x14)], [.box (qu6 g) 37 false, rowI 3 intT zz.2, qu3, .gone]⟩) (x4_2, l1_2) h (by kernel_rfl)
 rintro ⟨x4_3, l1_3⟩ h
 replace h := hJ _ _ h
 show En c ⟨[qu4, qu5, sl 4 (B x4_3), qu2 g, qu1 g, sl 14 (I x14)], [.box (qu6 g) 37 false, rowI 3 intT l1_3, qu3, .gone]⟩ _
 refine En.region ?_
 refine WL.rn ht hn 2 ⟨[qu4, qu5, sl 4 (B x4_3), qu2 g, qu1 g, sl 14 (I (wr (x14 + 1)))], [.box (qu6 g) 37 false, rowI 3 intT l1_3, qu3, .gone]⟩ ?_
 exact En.at (I := fun zz => Inv_2 zz.1 zz.2.1 zz.2.2 ∧ mu_2 zz.1 zz.2.1 zz.2.2 < mu_2 x4_2 x14 l1_2) (T := fun zz => ⟨[qu4, qu5, sl 4 (B zz.1), qu2 g, qu1 g, sl 14 (I zz.2.1)], [.box (qu6 g) 37 false, rowI 3 intT zz.2.2, qu3]⟩) (x4_3, (wr (x14 + 1)), l1_3) h (by kernel_rfl)
 refine En.exit rfl ?_
 exact En.at (I := fun zz => Inv zz.1 zz.2 ∧ mu zz.1 zz.2 < mu x4 l1) (T := fun zz => ⟨[qu4, qu5, sl 4 (B zz.1)], [.box (qu6 g) 37 false, rowI 3 intT zz.2, qu3]⟩) (x4_2, l1_2) h (by kernel_rfl)
 refine En.exit rfl ?_
 refine En.sr ?_
 refine WL.rn ht hn 2 ⟨[sl 2 (.own 1)], [.gone, rowI 3 intT l1, .gone]⟩ ?_
 refine En.ret ?_
 exact En.backJ (itf := fun l => rowI 3 intT l) hmay (by rfl) (by rfl) rfl rfl h
theorem en83 : ∀ args w, (callFunc 83 args).run Try.prog w = .ok (.enter 83 args) w := enters_of Try.func83 (by kernel_rfl) rfl
theorem gEnd_ct (g : ApiGrammar) (hp : g = tinyG)  : CtI 83 [.sv (.agg [I g.fLetters, I g.fNames, LS ApiMake.ty g.fMakes])] [] (rowI 3 intT ([1])) := by
 refine (gEnd_walk g (fun res_ => res_ = ([1])) ?_).fun
 subst hp
 intro _
 refine ⟨⟨by decide, by decide, by decide⟩, fun b l => (b = true ∧ l = [0]) ∨ l = [1], fun b l => (if b = true then 1 else 0) + (if l = [0] then 1 else 0), .inl ⟨rfl, rfl⟩, ?_⟩
 rintro b l hI
 refine ⟨fun hb => ?_, fun hb => ?_⟩
 rotate_left
 ·rcases hI with ⟨h, _⟩ | h
  ·rw [hb] at h; cases h
  ·exact h
 subst hb
 refine ⟨fun c x l' => (l = [0] ∧ c = false ∧ x = 0 ∧ l' = [0]) ∨ (l = [0] ∧ c = false ∧ x = 1 ∧ l' = [0]) ∨ (l = [0] ∧ c = true ∧ x = 2 ∧ l' = [1]) ∨ (l = [1] ∧ c = false ∧ (x = 0 ∨ x = 1 ∨ x = 2) ∧ l' = [1]), fun _ x _ => 2 - x.toNat, ?_, ?_⟩
 ·rcases hI with ⟨_, h⟩ | h
  ·exact .inl ⟨h, rfl, rfl, h⟩
  ·exact .inr (.inr (.inr ⟨h, rfl, .inl rfl, h⟩))
 have k0 : idx tinyG.fMakes 0 = some (ApiMake.mk 0 [0, 1]) := rfl
 have k1 : idx tinyG.fMakes 1 = some (ApiMake.mk 0 []) := rfl
 have w1 : wr (0 + 1) = 1 := rfl
 have w2 : wr (1 + 1) = 2 := rfl
 rintro c x l' (⟨e1, rfl, rfl, rfl⟩ | ⟨e1, rfl, rfl, rfl⟩ | ⟨e1, rfl, rfl, rfl⟩ | ⟨e1, rfl, (rfl | rfl | rfl), rfl⟩)
 ·refine ⟨fun _ => ⟨fun b l2 => b = false ∧ l2 = [0], ⟨_, k0, fun b => b = false, ⟨0, rfl, fun _ => ⟨fun x hx => ⟨rfl, rfl, by simpa using hx⟩, rfl⟩, fun h => (by cases h)⟩, ?_⟩, ?_⟩, fun h => absurd h (by decide)⟩
  ·rintro _ rfl
   exact ⟨fun h => (by cases h), fun _ => ⟨rfl, rfl⟩⟩
  ·rintro _ _ ⟨rfl, rfl⟩
   exact ⟨.inr (.inl ⟨e1, rfl, rfl, rfl⟩), by decide⟩
 ·refine ⟨fun _ => ⟨fun b l2 => b = true ∧ l2 = [1], ⟨_, k1, fun b => b = true, ⟨0, rfl, fun _ => ⟨fun x hx => (by cases hx), rfl⟩, fun h => (by cases h)⟩, ?_⟩, ?_⟩, fun h => absurd h (by decide)⟩
  ·rintro _ rfl
   exact ⟨fun _ => ⟨0, rfl, rfl, rfl⟩, fun h => (by cases h)⟩
  ·rintro _ _ ⟨rfl, rfl⟩
   exact ⟨.inr (.inr (.inl ⟨e1, rfl, rfl, rfl⟩)), by decide⟩
 ·subst e1
  exact ⟨fun h => absurd h (by decide), fun _ => ⟨.inr rfl, by decide⟩⟩
 ·subst e1
  refine ⟨fun _ => ⟨fun b l2 => b = false ∧ l2 = [1], ⟨_, k0, fun b => b = false, ⟨1, rfl, fun h => (by cases h), fun _ => rfl⟩, ?_⟩, ?_⟩, fun h => absurd h (by decide)⟩
  ·rintro _ rfl
   exact ⟨fun h => (by cases h), fun _ => ⟨rfl, rfl⟩⟩
  ·rintro _ _ ⟨rfl, rfl⟩
   exact ⟨.inr (.inr (.inr ⟨rfl, rfl, .inr (.inl rfl), rfl⟩)), by decide⟩
 ·subst e1
  refine ⟨fun _ => ⟨fun b l2 => b = false ∧ l2 = [1], ⟨_, k1, fun b => b = false, ⟨1, rfl, fun h => (by cases h), fun _ => rfl⟩, ?_⟩, ?_⟩, fun h => absurd h (by decide)⟩
  ·rintro _ rfl
   exact ⟨fun h => (by cases h), fun _ => ⟨rfl, rfl⟩⟩
  ·rintro _ _ ⟨rfl, rfl⟩
   exact ⟨.inr (.inr (.inr ⟨rfl, rfl, .inr (.inr rfl), rfl⟩)), by decide⟩
 ·subst e1
  exact ⟨fun h => absurd h (by decide), fun _ => ⟨.inr rfl, by decide⟩⟩
def gUs2_vc (m : ApiMake) (l : List Int) (Q : Bool → Prop) : Prop :=
 m.fTo.length ≤ 9223372036854775807 →
 (∃ e, idx l m.fFrom = some e ∧
 Q (e == 0))
theorem gUs2_walk (m : ApiMake) (l : List Int) (Q : Bool → Prop) (h : gUs2_vc m l Q) : Ct 86 [.sv (.agg [I m.fFrom, LS intT m.fTo]), .sv (.one (.ptr 0 0))] [.box [LS intT l] 23 true] Q (fun (r : Bool) => .sv (.one (B r))) := by
 have ht := tab_ok
 refine Ct.body Try.func86 rfl rfl rfl rfl (fun c hn => ?_)
 unfold gUs2_vc at h
 refine En.lenA 0 1 (by rfl) (by rfl) (fun hl => ?_)
 replace h := h hl
 clear hl
 refine En.sr ?_
 refine WL.rn ht hn 2 ⟨[sl 1 (.ptr 0 0), sl 2 (.ptr 1 0)], [.box [LS intT l] 23 true, .box (ApiMake.cl m) 39 false]⟩ ?_
 refine En.sr ?_
 refine WL.r ht hn 3 ⟨[sl 4 (LS intT l), sl 6 (I m.fFrom)], [.gone, .gone]⟩ ?_
 obtain ⟨e, he, h⟩ := h
 refine WL.v hn (val_ix (T := intT) (l := l) (i := m.fFrom) ht rfl he) ?_
 refine WL.v hn (val_ld (s := .one (I e)) ht rfl) ?_
 refine WL.rn ht hn 2 ⟨[sl 3 (B (e == 0))], [.gone, .gone]⟩ ?_
 exact En.rb ht (e == 0) h
theorem en86 : ∀ args w, (callFunc 86 args).run Try.prog w = .ok (.enter 86 args) w := enters_of Try.func86 (by kernel_rfl) rfl
def metB (l : List Int) (m : ApiMake) : Bool := l.getD m.fFrom.toNat 0 == 0
def metDom (l : List Int) (m : ApiMake) : Prop := l.length = 1 ∧ m.fFrom = 0
theorem gUs2_ct (m : ApiMake) (l : List Int) (hp : metDom l m)  : Ct 86 [.sv (.agg [I m.fFrom, LS intT m.fTo]), .sv (.one (.ptr 0 0))] [.box [LS intT l] 23 true] (fun (_ : Unit) => True) (fun _ => .sv (.one (B (metB l m)))) := by
 refine (gUs2_walk m l (fun res_ => res_ = (metB l m)) ?_).fun
 obtain ⟨hl, hm⟩ := hp
 obtain ⟨a, rfl⟩ := one_of hl
 unfold gUs2_vc
 intro _
 rw [hm]
 refine ⟨a, rfl, ?_⟩
 unfold metB
 rw [hm]
 rfl
def indexApiMake_vc (l : List ApiMake) (dom : (ApiMake → Prop)) (φ : (ApiMake → Bool)) (Q : Int → Prop) : Prop :=
 l.length ≤ 9223372036854775807 →
 (∃ (Inv : Int → Prop) (mu : Int → Nat), Inv 0 ∧
 ∀ (x8 : Int) , Inv x8 → (IfP (decide (x8 < (l.length : Int))) (∃ e, idx l x8 = some e ∧
 (dom e) ∧
 IfP (φ e) (Q x8) ((Inv (wr (x8 + 1)) ∧ mu (wr (x8 + 1)) < mu x8))) (Q (-1))))
theorem indexApiMake_walk (l : List ApiMake) (dom : (ApiMake → Prop)) (φ : (ApiMake → Bool)) (Q : Int → Prop) (h : indexApiMake_vc l dom φ Q) : Ct 138 [.sv (.one (LS ApiMake.ty l)), .sv (.one (.rd (fvR (fun x => [.sv (.agg [I x.fFrom, LS intT x.fTo])]) (fun b => .sv (.one (B b))) dom φ)))] [] Q (fun (r : Int) => .sv (.one (I r))) := by
 have ht := tab_ok
 refine Ct.body Try.func138 rfl rfl rfl rfl (fun c hn => ?_)
 unfold indexApiMake_vc at h
 refine En.lenL 0 (by rfl) (fun hl => ?_)
 replace h := h hl
 clear hl
 refine En.sr ?_
 refine WL.rn ht hn 1 ⟨[sl 0 (LS ApiMake.ty l), sl 1 (.rd (fvR (fun x => [.sv (.agg (ApiMake.cl x))]) (fun b => .sv (.one (B b))) dom φ))], []⟩ ?_
 refine En.seq ?_
 refine En.sr ?_
 refine WL.rn ht hn 3 ⟨[sl 0 (LS ApiMake.ty l), sl 1 (.rd (fvR (fun x => [.sv (.agg (ApiMake.cl x))]) (fun b => .sv (.one (B b))) dom φ)), sl 7 (I (l.length : Int)), sl 8 (I 0)], []⟩ ?_
 refine En.block ?_
 obtain ⟨Inv, mu, h0, hI⟩ := h
 refine En.loop (σ := Int) (fun zz => Inv zz) (fun zz => mu zz) (fun zz => ⟨[sl 0 (LS ApiMake.ty l), sl 1 (.rd (fvR (fun x => [.sv (.agg (ApiMake.cl x))]) (fun b => .sv (.one (B b))) dom φ)), sl 7 (I (l.length : Int)), sl 8 (I zz)], []⟩) 0 h0 (sub_ok (by kernel_rfl)) ?_
 intro x8 h
 replace h := hI _ h
 show En c ⟨[sl 0 (LS ApiMake.ty l), sl 1 (.rd (fvR (fun x => [.sv (.agg (ApiMake.cl x))]) (fun b => .sv (.one (B b))) dom φ)), sl 7 (I (l.length : Int)), sl 8 (I x8)], []⟩ _
 refine En.sr ?_
 refine WL.rn ht hn 1 ⟨[sl 0 (LS ApiMake.ty l), sl 1 (.rd (fvR (fun x => [.sv (.agg (ApiMake.cl x))]) (fun b => .sv (.one (B b))) dom φ)), sl 7 (I (l.length : Int)), sl 8 (I x8), sl 9 (B (decide (x8 < (l.length : Int))))], []⟩ ?_
 refine En.seq ?_
 refine En.ch h (fun h => ?_) (fun h => ?_)
 refine En.skip ?_
 refine En.seq ?_
 refine En.block ?_
 refine En.sr ?_
 refine WL.rn ht hn 2 ⟨[sl 0 (LS ApiMake.ty l), sl 1 (.rd (fvR (fun x => [.sv (.agg (ApiMake.cl x))]) (fun b => .sv (.one (B b))) dom φ)), sl 5 (I x8), sl 7 (I (l.length : Int)), sl 8 (I x8)], []⟩ ?_
 refine En.sr ?_
 refine WL.r ht hn 3 ⟨[sl 0 (LS ApiMake.ty l), sl 1 (.rd (fvR (fun x => [.sv (.agg (ApiMake.cl x))]) (fun b => .sv (.one (B b))) dom φ)), sl 5 (I x8), sl 7 (I (l.length : Int)), sl 8 (I x8), sl 11 (.rd (fvR (fun x => [.sv (.agg (ApiMake.cl x))]) (fun b => .sv (.one (B b))) dom φ)), sl 12 (LS ApiMake.ty l), sl 13 (I x8)], []⟩ ?_
 obtain ⟨e, he, h⟩ := h
 refine WL.v hn (val_ix (T := ApiMake.ty) (l := l) (i := x8) ht rfl he) ?_
 refine WL.v hn (val_ld (s := .agg (ApiMake.cl e)) ht rfl) ?_
 obtain ⟨hp, h⟩ := h
 refine WL.m0 hn (mt_callv e hp rfl (by rfl) (by rfl) (by rfl) (by rfl)) ?_
 refine WL.nil ?_
 refine En.ch h (fun h => ?_) (fun h => ?_)
 refine En.sr ?_
 refine WL.rn ht hn 2 ⟨[sl 4 (I x8)], []⟩ ?_
 exact En.rb ht x8 h
 refine En.skip ?_
 refine En.region ?_
 refine WL.rn ht hn 2 ⟨[sl 0 (LS ApiMake.ty l), sl 1 (.rd (fvR (fun x => [.sv (.agg (ApiMake.cl x))]) (fun b => .sv (.one (B b))) dom φ)), sl 7 (I (l.length : Int)), sl 8 (I (wr (x8 + 1)))], []⟩ ?_
 exact En.at (I := fun zz => Inv zz ∧ mu zz < mu x8) (T := fun zz => ⟨[sl 0 (LS ApiMake.ty l), sl 1 (.rd (fvR (fun x => [.sv (.agg (ApiMake.cl x))]) (fun b => .sv (.one (B b))) dom φ)), sl 7 (I (l.length : Int)), sl 8 (I zz)], []⟩) (wr (x8 + 1)) h (by kernel_rfl)
 refine En.exit rfl ?_
 refine En.sr ?_
 refine WL.rn ht hn 1 ⟨[sl 4 (I (-1))], []⟩ ?_
 exact En.rb ht (-1) h
theorem en138 : ∀ args w, (callFunc 138 args).run Try.prog w = .ok (.enter 138 args) w := enters_of Try.func138 (by kernel_rfl) rfl
theorem indexApiMake_ct (l : List ApiMake) (dom : ApiMake → Prop) (φ : ApiMake → Bool) (hd : ∀ x ∈ l, dom x) : Ct 138 [.sv (.one (LS ApiMake.ty l)), .sv (.one (.rd (fvR (fun x => [.sv (.agg [I x.fFrom, LS intT x.fTo])]) (fun b => .sv (.one (B b))) dom φ)))] [] (fun (_ : Unit) => True) (fun _ => .sv (.one (I (idxTo φ l)))) := by
 refine (indexApiMake_walk l dom φ (fun r => r = idxTo φ l) ?_).fun
 unfold indexApiMake_vc
 exact index_plain l dom φ hd
def gDel_vc (l : List ApiMake) (dom : (ApiMake → Prop)) (φ : (ApiMake → Bool)) (Q : (List ApiMake) → Prop) : Prop :=
 l.length ≤ 9223372036854775807 →
 ((∀ x_ ∈ l, dom x_) ∧
 IfP ((idxTo φ l) == (-1)) (Q l) (∃ (Inv : Int → Prop) (mu : Int → Nat), Inv (wr ((idxTo φ l) + 1)) ∧
 ∀ (x6 : Int) , Inv x6 → (IfP (decide (x6 < (l.length : Int))) (∃ e, idx l x6 = some e ∧
 (dom e) ∧
 IfP (!(φ e)) (False) ((Inv (wr (x6 + 1)) ∧ mu (wr (x6 + 1)) < mu x6))) (False))))
noncomputable abbrev qw0 (l : List ApiMake) := sl 0 (LS ApiMake.ty l)
theorem gDel_walk (l : List ApiMake) (dom : (ApiMake → Prop)) (φ : (ApiMake → Bool)) (Q : (List ApiMake) → Prop) (h : gDel_vc l dom φ Q) : Ct 85 [.sv (.one (LS ApiMake.ty l)), .sv (.one (.rd (fvR (fun x => [.sv (.agg [I x.fFrom, LS intT x.fTo])]) (fun b => .sv (.one (B b))) dom φ)))] [] Q (fun (r : List ApiMake) => .sv (.one (LS ApiMake.ty r))) := by
 have ht := tab_ok
 refine Ct.body Try.func85 rfl rfl rfl rfl (fun c hn => ?_)
 unfold gDel_vc at h
 refine En.lenL 0 (by rfl) (fun hl => ?_)
 replace h := h hl
 clear hl
 refine En.sr ?_
 refine WL.rn ht hn 1 ⟨[qw0 l, sl 1 (.rd (fvR (fun x => [.sv (.agg (ApiMake.cl x))]) (fun b => .sv (.one (B b))) dom φ))], []⟩ ?_
 refine En.sr ?_
 refine WL.r ht hn 2 ⟨[qw0 l, sl 1 (.rd (fvR (fun x => [.sv (.agg (ApiMake.cl x))]) (fun b => .sv (.one (B b))) dom φ)), sl 8 (LS ApiMake.ty l), sl 9 (.rd (fvR (fun x => [.sv (.agg (ApiMake.cl x))]) (fun b => .sv (.one (B b))) dom φ))], []⟩ ?_
 obtain ⟨hp, h⟩ := h
 refine WL.m0 hn (mt_c (indexApiMake_ct l dom φ hp) en138 rfl) ?_
 refine WL.rn ht hn 1 ⟨[qw0 l, sl 1 (.rd (fvR (fun x => [.sv (.agg (ApiMake.cl x))]) (fun b => .sv (.one (B b))) dom φ)), sl 5 (I (idxTo φ l))], []⟩ ?_
 refine En.seq ?_
 refine En.sr ?_
 refine WL.rn ht hn 2 ⟨[qw0 l, sl 1 (.rd (fvR (fun x => [.sv (.agg (ApiMake.cl x))]) (fun b => .sv (.one (B b))) dom φ)), sl 5 (I (idxTo φ l)), sl 12 (B ((idxTo φ l) == (-1)))], []⟩ ?_
 refine En.ch h (fun h => ?_) (fun h => ?_)
 refine En.sr ?_
 refine WL.rn ht hn 2 ⟨[sl 4 (LS ApiMake.ty l)], []⟩ ?_
 exact En.rb ht l h
 refine En.skip ?_
 refine En.seq ?_
 refine En.sr ?_
 refine WL.rn ht hn 3 ⟨[qw0 l, sl 1 (.rd (fvR (fun x => [.sv (.agg (ApiMake.cl x))]) (fun b => .sv (.one (B b))) dom φ)), sl 5 (I (idxTo φ l)), sl 6 (I (wr ((idxTo φ l) + 1)))], []⟩ ?_
 refine En.block ?_
 obtain ⟨Inv, mu, h0, hI⟩ := h
 refine En.loop (σ := Int) (fun zz => Inv zz) (fun zz => mu zz) (fun zz => ⟨[qw0 l, sl 1 (.rd (fvR (fun x => [.sv (.agg (ApiMake.cl x))]) (fun b => .sv (.one (B b))) dom φ)), sl 5 (I (idxTo φ l)), sl 6 (I zz)], []⟩) (wr ((idxTo φ l) + 1)) h0 (sub_ok (by kernel_rfl)) ?_
 intro x6 h
 replace h := hI _ h
 show En c ⟨[qw0 l, sl 1 (.rd (fvR (fun x => [.sv (.agg (ApiMake.cl x))]) (fun b => .sv (.one (B b))) dom φ)), sl 5 (I (idxTo φ l)), sl 6 (I x6)], []⟩ _
 refine En.seq ?_
 refine En.sr ?_
 refine WL.rn ht hn 4 ⟨[qw0 l, sl 1 (.rd (fvR (fun x => [.sv (.agg (ApiMake.cl x))]) (fun b => .sv (.one (B b))) dom φ)), sl 5 (I (idxTo φ l)), sl 6 (I x6), sl 19 (B (decide (x6 < (l.length : Int))))], []⟩ ?_
 refine En.ch h (fun h => ?_) (fun h => ?_)
 refine En.skip ?_
 refine En.seq ?_
 refine En.block ?_
 refine En.sr ?_
 refine WL.r ht hn 2 ⟨[qw0 l, sl 1 (.rd (fvR (fun x => [.sv (.agg (ApiMake.cl x))]) (fun b => .sv (.one (B b))) dom φ)), sl 5 (I (idxTo φ l)), sl 6 (I x6), sl 22 (LS ApiMake.ty l), sl 23 (I x6)], []⟩ ?_
 obtain ⟨e, he, h⟩ := h
 refine WL.v hn (val_ix (T := ApiMake.ty) (l := l) (i := x6) ht rfl he) ?_
 refine WL.v hn (val_ld (s := .agg (ApiMake.cl e)) ht rfl) ?_
 refine WL.rn ht hn 2 ⟨[qw0 l, sl 1 (.rd (fvR (fun x => [.sv (.agg (ApiMake.cl x))]) (fun b => .sv (.one (B b))) dom φ)), sl 5 (I (idxTo φ l)), sl 6 (I x6), sl 7 (.ptr 0 0)], [.box (ApiMake.cl e) 39 false]⟩ ?_
 refine En.sr ?_
 refine WL.r ht hn 2 ⟨[qw0 l, sl 1 (.rd (fvR (fun x => [.sv (.agg (ApiMake.cl x))]) (fun b => .sv (.one (B b))) dom φ)), sl 5 (I (idxTo φ l)), sl 6 (I x6), sl 7 (.ptr 0 0), sl 26 (.rd (fvR (fun x => [.sv (.agg (ApiMake.cl x))]) (fun b => .sv (.one (B b))) dom φ)), (27, .sv (.agg (ApiMake.cl e)))], [.box (ApiMake.cl e) 39 false]⟩ ?_
 obtain ⟨hp, h⟩ := h
 refine WL.m0 hn (mt_callv e hp rfl (by rfl) (by rfl) (by rfl) (by rfl)) ?_
 refine WL.rn ht hn 1 ⟨[qw0 l, sl 1 (.rd (fvR (fun x => [.sv (.agg (ApiMake.cl x))]) (fun b => .sv (.one (B b))) dom φ)), sl 5 (I (idxTo φ l)), sl 6 (I x6), sl 7 (.ptr 0 0), sl 29 (B (!(φ e)))], [.box (ApiMake.cl e) 39 false]⟩ ?_
 refine En.ch h (fun h => ?_) (fun h => ?_)
 exact h.elim
 refine En.skip ?_
 refine En.region ?_
 refine WL.rn ht hn 3 ⟨[qw0 l, sl 1 (.rd (fvR (fun x => [.sv (.agg (ApiMake.cl x))]) (fun b => .sv (.one (B b))) dom φ)), sl 5 (I (idxTo φ l)), sl 6 (I (wr (x6 + 1)))], [.gone]⟩ ?_
 exact En.at (I := fun zz => Inv zz ∧ mu zz < mu x6) (T := fun zz => ⟨[qw0 l, sl 1 (.rd (fvR (fun x => [.sv (.agg (ApiMake.cl x))]) (fun b => .sv (.one (B b))) dom φ)), sl 5 (I (idxTo φ l)), sl 6 (I zz)], []⟩) (wr (x6 + 1)) h (by kernel_rfl)
 exact h.elim
theorem en85 : ∀ args w, (callFunc 85 args).run Try.prog w = .ok (.enter 85 args) w := enters_of Try.func85 (by kernel_rfl) rfl
theorem gDel_ct (l : List ApiMake) (dom : ApiMake → Prop) (φ : ApiMake → Bool) (hp : (∀ x ∈ l, dom x) ∧ ∀ x ∈ l, φ x = false) : Ct 85 [.sv (.one (LS ApiMake.ty l)), .sv (.one (.rd (fvR (fun x => [.sv (.agg [I x.fFrom, LS intT x.fTo])]) (fun b => .sv (.one (B b))) dom φ)))] [] (fun (_ : Unit) => True) (fun _ => .sv (.one (LS ApiMake.ty l))) := by
 refine (gDel_walk l dom φ (fun r => r = l) ?_).fun
 unfold gDel_vc
 have hi : idxTo φ l = -1 := idxTo_miss (default : ApiMake) fun j hj => by
  rw [List.getD_eq_getElem?_getD, List.getElem?_eq_getElem hj]
  exact hp.2 _ (List.getElem_mem hj)
 exact fun _ => ⟨hp.1, by rw [hi]; exact ⟨fun _ => rfl, fun h => (by cases h)⟩⟩
def gUse_vc (g : ApiGrammar) (Q : ((List ApiMake) × (List Int)) → Prop) : Prop :=
 g.fMakes.length ≤ 9223372036854775807 →
 ((g = tinyG) ∧
 ∃ (Inv : Int → (List ApiMake) → Prop) (mu : Int → (List ApiMake) → Nat), Inv 0 ([] : List ApiMake) ∧
 ∀ (x19 : Int) (l5 : List ApiMake) , Inv x19 l5 → (IfP (decide (x19 < (g.fMakes.length : Int))) (∃ J : (List ApiMake) → Prop, (∃ e, idx g.fMakes x19 = some e ∧
 (∀ x_ ∈ e.fTo, (endDom g (([1] : List Int))) x_) ∧
 IfP (!(e.fTo.any (endB g (([1] : List Int))))) (capOk l5.length (([e] : List ApiMake) : List ApiMake).length 32 ∧
 J (l5 ++ ([e] : List ApiMake))) (J l5)) ∧
 (∀ (l5_2 : List ApiMake), J l5_2 → (Inv (wr (x19 + 1)) l5_2 ∧ mu (wr (x19 + 1)) l5_2 < mu x19 l5))) (makeOk g.fNames g.fNames 8 ∧
 ∃ e_2, idx (([1] : List Int)) 0 = some e_2 ∧
 ∃ e_3, idx (List.replicate (g.fNames).toNat (0 : Int)) 0 = some e_3 ∧
 ∃ (Inv_2 : Bool → (List Int) → Prop) (mu_2 : Bool → (List Int) → Nat), Inv_2 true ((List.replicate (g.fNames).toNat (0 : Int)).set (0 : Int).toNat e_2) ∧
 ∀ (x9 : Bool) (l6 : List Int) , Inv_2 x9 l6 → (IfP x9 (∃ (Inv_3 : Bool → Int → (List Int) → Prop) (mu_3 : Bool → Int → (List Int) → Nat), Inv_3 false 0 l6 ∧
 ∀ (x9_2 : Bool) (x44 : Int) (l6_2 : List Int) , Inv_3 x9_2 x44 l6_2 → (IfP (decide (x44 < (l5.length : Int))) (∃ e_4, idx l5 x44 = some e_4 ∧
 ∃ (Inv_4 : Bool → Int → (List Int) → Prop) (mu_4 : Bool → Int → (List Int) → Nat), Inv_4 x9_2 0 l6_2 ∧
 ∀ (x9_3 : Bool) (x51 : Int) (l6_3 : List Int) , Inv_4 x9_3 x51 l6_3 → (IfP (decide (x51 < (e_4.fTo.length : Int))) (∃ J_2 : Bool → (List Int) → Prop, (∃ e_5, idx e_4.fTo x51 = some e_5 ∧
 ∃ J_3 : Bool → Prop, (IfP (decide (e_5 ≥ g.fLetters)) (∃ e_6, idx l6_3 e_4.fFrom = some e_6 ∧
 IfP (e_6 == 1) (∃ e_7, idx l6_3 (wr (e_5 - g.fLetters)) = some e_7 ∧
 J_3 (e_7 == 0)) (J_3 false)) (J_3 false)) ∧
 (∀ (x76 : Bool), J_3 x76 → IfP x76 (∃ e_8, idx l6_3 (wr (e_5 - g.fLetters)) = some e_8 ∧
 J_2 true (l6_3.set ((wr (e_5 - g.fLetters))).toNat 1)) (J_2 x9_3 l6_3))) ∧
 (∀ (x9_4 : Bool) (l6_4 : List Int), J_2 x9_4 l6_4 → (Inv_4 x9_4 (wr (x51 + 1)) l6_4 ∧ mu_4 x9_4 (wr (x51 + 1)) l6_4 < mu_4 x9_3 x51 l6_3))) ((Inv_3 x9_3 (wr (x44 + 1)) l6_3 ∧ mu_3 x9_3 (wr (x44 + 1)) l6_3 < mu_3 x9_2 x44 l6_2)))) ((Inv_2 x9_2 l6_2 ∧ mu_2 x9_2 l6_2 < mu_2 x9 l6)))) (((∀ x_ ∈ l5, (metDom l6) x_) ∧ ∀ x_ ∈ l5, (metB l6) x_ = false) ∧
 Q ((l5), l6))))))
noncomputable abbrev qx0 (g : ApiGrammar) (y0) (y1) (y2) := ([.box (ApiGrammar.cl g) 37 false, .gone, .gone, .gone, .gone, rowI 39 ApiMake.ty y0, rowI 3 intT y1, .box [.own 6] 23 false, .box (ApiMake.cl y2) 39 false] : List Item)
noncomputable abbrev qx1 := sl 1 (.ptr 0 0)
noncomputable abbrev qx2 (g : ApiGrammar) := (ApiGrammar.cl g)
noncomputable abbrev qx3 := sl 8 (.ptr 7 0)
noncomputable abbrev qx4 := (.box [.own 6] 23 false : Item)
noncomputable abbrev qx5 (g : ApiGrammar) := sl 18 (I (g.fMakes.length : Int))
noncomputable abbrev qx6 := (.box [.own 1] 23 false : Item)
noncomputable abbrev qx7 (g : ApiGrammar) := sl 17 (LS ApiMake.ty g.fMakes)
noncomputable abbrev qx8 (g : ApiGrammar) := (List.replicate (g.fNames).toNat (0 : Int))
noncomputable abbrev qx9 := sl 42 (.own 5)
noncomputable abbrev qx10 := sl 11 (.ptr 8 0)
noncomputable abbrev qx11 (g : ApiGrammar) (y0) (y1) := ([.box (qx2 g) 37 false, .gone, .gone, .gone, .gone, rowI 39 ApiMake.ty y0, rowI 3 intT y1, (qx4)] : List Item)
noncomputable abbrev qx12 := sl 4 (.ptr 2 0)
noncomputable abbrev qx13 (y0) := sl 49 (LS intT y0)
noncomputable abbrev qx14 (g : ApiGrammar) (y0) (y1) := ([.box (qx2 g) 37 false, rowI 3 intT ([1] : List Int), (qx6), .gone, .gone, rowI 39 ApiMake.ty y0, .box (ApiMake.cl y1) 39 false] : List Item)
noncomputable abbrev qx15 (g : ApiGrammar) (y0) (y1) (y2) := ([.box (qx2 g) 37 false, .gone, .gone, .gone, .gone, rowI 39 ApiMake.ty y0, rowI 3 intT y1, (qx4), .box (ApiMake.cl y2) 39 false] : List Item)
noncomputable abbrev qx16 (g : ApiGrammar) (y0) := ([.box (qx2 g) 37 false, rowI 3 intT ([1] : List Int), (qx6), .gone, .gone, rowI 39 ApiMake.ty y0, .gone] : List Item)
noncomputable abbrev qx17 (g : ApiGrammar) (y0) := ([.box (qx2 g) 37 false, rowI 3 intT ([1] : List Int), (qx6), .gone, .gone, rowI 39 ApiMake.ty y0] : List Item)
set_option maxHeartbeats 2000000 in
theorem gUse_walk (g : ApiGrammar) (Q : ((List ApiMake) × (List Int)) → Prop) (h : gUse_vc g Q) : Ct 39 [.sv (.agg [I g.fLetters, I g.fNames, LS ApiMake.ty g.fMakes])] [] Q (fun (r : ((List ApiMake) × (List Int))) => .tup [.one (LS ApiMake.ty r.1), .one (LS intT r.2)]) := by
 have ht := tab_ok
 refine Ct.body Try.func39 rfl rfl rfl rfl (fun c hn => ?_)
 unfold gUse_vc at h
 refine En.lenA 0 2 (by rfl) (by rfl) (fun hl => ?_)
 replace h := h hl
 clear hl
 refine En.sr ?_
 refine WL.rn ht hn 3 ⟨[qx1], [.box (qx2 g) 37 false]⟩ ?_
 refine En.sr ?_
 refine WL.r ht hn 1 ⟨[qx1, (14, .sv (.agg (qx2 g)))], [.box (qx2 g) 37 false]⟩ ?_
 obtain ⟨hp, h⟩ := h
 refine WL.mt0 (K := []) (p := some (1, rowI 3 intT ([1] : List Int))) hn (by rfl) (mt_callI 1 (gEnd_ct g hp) en83 (caps := []) [] rfl rfl (by rfl) (by kernel_rfl) (by kernel_rfl) (by rfl) (by rfl)) (by rfl) (by rfl) (by rfl) ?_
 refine WL.rn ht hn 2 ⟨[qx1, qx12], [.box (qx2 g) 37 false, rowI 3 intT ([1] : List Int), qx6]⟩ ?_
 refine En.sr ?_
 refine WL.rn ht hn 1 ⟨[qx1, qx12, sl 5 (.v (.slice none 0 0))], [.box (qx2 g) 37 false, rowI 3 intT ([1] : List Int), qx6]⟩ ?_
 refine En.seq ?_
 refine En.sr ?_
 refine WL.rn ht hn 4 ⟨[qx1, qx12, sl 5 (.v (.slice none 0 0)), qx7 g, qx5 g, sl 19 (I 0)], [.box (qx2 g) 37 false, rowI 3 intT ([1] : List Int), qx6]⟩ ?_
 refine En.block ?_
 refine En.rowNil 5 5 39 ApiMake.ty (by rfl) (by rfl) ?_
 obtain ⟨Inv, mu, h0_4, hI_4⟩ := h
 refine En.loop (σ := Int × (List ApiMake)) (fun zz => Inv zz.1 zz.2) (fun zz => mu zz.1 zz.2) (fun zz => ⟨[qx1, qx12, sl 5 (.own 5), qx7 g, qx5 g, sl 19 (I zz.1)], [.box (qx2 g) 37 false, rowI 3 intT ([1] : List Int), qx6, .gone, .gone, rowI 39 ApiMake.ty zz.2]⟩) (0, ([] : List ApiMake)) h0_4 (sub_ok (by kernel_rfl)) ?_
 rintro ⟨x19, l5⟩ h
 replace h := hI_4 _ _ h
 show En c ⟨[qx1, qx12, sl 5 (.own 5), qx7 g, qx5 g, sl 19 (I x19)], (qx17 g l5)⟩ _
 refine En.sr ?_
 refine WL.rn ht hn 1 ⟨[qx1, qx12, sl 5 (.own 5), qx7 g, qx5 g, sl 19 (I x19), sl 20 (B (decide (x19 < (g.fMakes.length : Int))))], (qx17 g l5)⟩ ?_
 refine En.seq ?_
 refine En.ch h (fun h => ?_) (fun h => ?_)
 refine En.skip ?_
 obtain ⟨J, h, hJ⟩ := h
 refine En.seqJ (σ := (List ApiMake)) (fun zz => J zz) (fun zz => ⟨[qx1, qx12, sl 5 (.own 5), qx7 g, qx5 g, sl 19 (I x19)], (qx16 g zz)⟩) ?_ ?_
 refine En.block ?_
 refine En.sr ?_
 obtain ⟨e, he, h⟩ := h
 refine WL.v hn (val_ix (T := ApiMake.ty) (l := g.fMakes) (i := x19) ht rfl he) ?_
 refine WL.v hn (val_ld (s := .agg (ApiMake.cl e)) ht rfl) ?_
 refine WL.rn ht hn 2 ⟨[qx1, qx12, sl 5 (.own 5), sl 7 (.ptr 6 0), qx7 g, qx5 g, sl 19 (I x19)], (qx14 g l5 e)⟩ ?_
 refine En.sr ?_
 refine WL.r ht hn 3 ⟨[qx1, qx12, sl 5 (.own 5), sl 7 (.ptr 6 0), qx7 g, qx5 g, sl 19 (I x19), sl 24 (LS intT e.fTo), sl 25 (.fn 84 [0, 2])], (qx14 g l5 e)⟩ ?_
 obtain ⟨hp, h⟩ := h
 refine WL.m0 hn (mt_lend (T := intT) (l := ([1] : List Int)) 1 (by rfl) (by rfl) (mt_lendF [0, 2] (by rfl) (by rfl) (mt_ghost 25 (o1 (.rd (fvR (fun (x_ : Int) => [.sv (.one (I x_))]) (fun (r : Bool) => .sv (.one (B r))) (endDom g ([1] : List Int)) (endB g ([1] : List Int))))) (by rfl) (fv_of (M := [.box (qx2 g) 37 true, .box [LS intT ([1] : List Int)] 23 true]) (caps := [0, 2]) (fun x_ hx => gUs1_ct x_ g ([1] : List Int) hx) en84 rfl (by kernel_rfl) (by rfl) (fun _ => rfl)) (mt_c (anyInt_ct e.fTo (endDom g ([1] : List Int)) (endB g ([1] : List Int)) hp) en41 rfl)))) ?_
 refine WL.rn ht hn 1 ⟨[qx1, qx12, sl 5 (.own 5), sl 7 (.ptr 6 0), qx7 g, qx5 g, sl 19 (I x19), sl 27 (B (!(e.fTo.any (endB g ([1] : List Int)))))], (qx14 g l5 e)⟩ ?_
 refine En.ch h (fun h => ?_) (fun h => ?_)
 refine En.region ?_
 refine WL.r ht hn 2 ⟨[qx1, qx12, qx7 g, qx5 g, sl 19 (I x19), sl 28 (.own 5), (29, .sv (.agg (ApiMake.cl e)))], [.box (qx2 g) 37 false, rowI 3 intT ([1] : List Int), qx6, .gone, .gone, rowI 39 ApiMake.ty l5, .gone]⟩ ?_
 refine WL.mt0 (K := []) (p := some (7, rowI 39 ApiMake.ty ([e] : List ApiMake))) hn (by rfl) (mt_lit (T := ApiMake.ty) ([e] : List ApiMake) (mt_bsl 7 (r := cellsOf ApiMake.ty ([e] : List ApiMake)) ht rfl (by rfl) (by rfl) (by rfl) (by kernel_rfl) (by rfl)) (fun _ h => by cases h) (fun _ => rfl) (fun _ => rfl) (by rfl) (Nat.le_of_ble_eq_true rfl)) (by rfl) (by rfl) (by rfl) ?_
 refine WL.seal (T := ApiMake.ty) (l := ([e] : List ApiMake)) (e := 39) 7 rfl ?_
 refine WL.r ht hn 0 ⟨[qx1, qx12, qx7 g, qx5 g, sl 19 (I x19), sl 28 (.own 5), (29, .sv (.agg (ApiMake.cl e))), sl 30 (LS ApiMake.ty ([e] : List ApiMake))], [.box (qx2 g) 37 false, rowI 3 intT ([1] : List Int), qx6, .gone, .gone, rowI 39 ApiMake.ty l5, .gone, .gone]⟩ ?_
 obtain ⟨hp, h⟩ := h
 refine WL.mt (S2 := ⟨[qx1, qx12, qx7 g, qx5 g, sl 19 (I x19), (29, .sv (.agg (ApiMake.cl e))), sl 30 (LS ApiMake.ty ([e] : List ApiMake))], [.box (qx2 g) 37 false, rowI 3 intT ([1] : List Int), qx6, .gone, .gone, rowI 39 ApiMake.ty l5, .gone, .gone]⟩) (K := [5]) (p := some (5, rowI 39 ApiMake.ty (l5 ++ ([e] : List ApiMake)))) hn (by rfl) (mt_append (T := ApiMake.ty) (l := l5) (es := ([e] : List ApiMake)) ht rfl (by rfl) (by rfl) (by rfl) (by rfl) (by decide) (by rfl) (by rfl) (srcLS (T := ApiMake.ty) (es := ([e] : List ApiMake)) (fun _ h => by cases h) (by decide) (by rfl)) (by exact hp) (by exact hp.le (by decide))) (by kernel_rfl) (by rfl) (by rfl) (by rfl) ?_
 refine WL.rn ht hn 1 ⟨[qx1, qx12, sl 5 (.own 5), qx7 g, qx5 g, sl 19 (I x19)], [.box (qx2 g) 37 false, rowI 3 intT ([1] : List Int), qx6, .gone, .gone, rowI 39 ApiMake.ty (l5 ++ ([e] : List ApiMake)), .gone, .gone]⟩ ?_
 exact En.at (I := fun zz => J zz) (T := fun zz => ⟨[qx1, qx12, sl 5 (.own 5), qx7 g, qx5 g, sl 19 (I x19)], (qx16 g zz)⟩) (l5 ++ ([e] : List ApiMake)) h (by kernel_rfl)
 refine En.skip ?_
 exact En.at (I := fun zz => J zz) (T := fun zz => ⟨[qx1, qx12, sl 5 (.own 5), qx7 g, qx5 g, sl 19 (I x19)], (qx16 g zz)⟩) l5 h (by kernel_rfl)
 intro l5_2 h
 replace h := hJ _ h
 show En c ⟨[qx1, qx12, sl 5 (.own 5), qx7 g, qx5 g, sl 19 (I x19)], [.box (qx2 g) 37 false, rowI 3 intT ([1] : List Int), qx6, .gone, .gone, rowI 39 ApiMake.ty l5_2, .gone]⟩ _
 refine En.region ?_
 refine WL.rn ht hn 2 ⟨[qx1, qx12, sl 5 (.own 5), qx7 g, qx5 g, sl 19 (I (wr (x19 + 1)))], [.box (qx2 g) 37 false, rowI 3 intT ([1] : List Int), qx6, .gone, .gone, rowI 39 ApiMake.ty l5_2, .gone]⟩ ?_
 exact En.at (I := fun zz => Inv zz.1 zz.2 ∧ mu zz.1 zz.2 < mu x19 l5) (T := fun zz => ⟨[qx1, qx12, sl 5 (.own 5), qx7 g, qx5 g, sl 19 (I zz.1)], [.box (qx2 g) 37 false, rowI 3 intT ([1] : List Int), qx6, .gone, .gone, rowI 39 ApiMake.ty zz.2]⟩) ((wr (x19 + 1)), l5_2) h (by kernel_rfl)
 refine En.exit rfl ?_
 refine En.sr ?_
 refine WL.r ht hn 2 ⟨[qx1, qx12, sl 5 (.own 5), sl 34 (I g.fNames)], (qx17 g l5)⟩ ?_
 obtain ⟨hp, h⟩ := h
 refine WL.mt0 (K := []) (p := some (6, rowI 3 intT (qx8 g))) hn (by rfl) (mt_make (T := intT) (0 : Int) (zv := (.int .i64 0)) 6 (l := g.fNames) (cp := g.fNames) ht rfl (by rfl) (by rfl) (by rfl) (by rfl) (by decide) (by rfl) (by rfl) hp.1 hp.2.1 hp.2.2 (hp.le (by decide)) rfl (fun _ => ⟨rfl, trivial⟩)) (by rfl) (by rfl) (by rfl) ?_
 refine WL.rn ht hn 2 ⟨[qx1, qx12, sl 5 (.own 5), qx3], [.box (qx2 g) 37 false, rowI 3 intT ([1] : List Int), qx6, .gone, .gone, rowI 39 ApiMake.ty l5, rowI 3 intT (qx8 g), qx4]⟩ ?_
 refine En.seq ?_
 obtain ⟨e_2, he_2, h⟩ := h
 obtain ⟨e_3, he_3, h⟩ := h
 refine En.regionA ⟨[qx1, qx12, sl 5 (.own 5), qx3], [.sv (.one (.own 6)), .sv (.one (.own 1)), .sv (.one (.oe 1 (0 : Int).toNat 1)), .sv (.one (I e_2)), .sv (.one (.oe 6 (0 : Int).toNat 1)), .tup []], [⟨.box (qx2 g) 37 false, none, none, none⟩, ⟨rowI 3 intT ([1] : List Int), none, none, none⟩, ⟨(qx6), none, none, none⟩, ⟨.gone, none, none, none⟩, ⟨.gone, none, none, none⟩, ⟨rowI 39 ApiMake.ty l5, none, none, none⟩, ⟨rowI 3 intT (qx8 g), none, none, some (5, rowI 3 intT ((qx8 g).set (0 : Int).toNat e_2))⟩, ⟨(qx4), none, none, none⟩]⟩ ⟨[qx1, sl 5 (.own 5), qx3], [.box (qx2 g) 37 false, .gone, .gone, .gone, .gone, rowI 39 ApiMake.ty l5, rowI 3 intT ((qx8 g).set (0 : Int).toNat e_2), qx4]⟩ (by kernel_rfl) hn (by kernel_rfl) (by rfl) (by kernel_rfl) ?_ (by kernel_rfl) ?_
 exact ⟨.ev ⟨[qx3], [.gone, .gone, .gone, .gone, .gone, .gone, .gone, qx4]⟩ ht,
 .ev ⟨[qx12], [.gone, .gone, qx6]⟩ ht,
 .vl ⟨[sl 37 (.own 1)], [.gone, rowI 3 intT ([1] : List Int)]⟩ (mt_val (val_indexO (T := intT) (l := ([1] : List Int)) (k := 0) ht rfl (by rfl) (by rfl) (by rfl) (by rfl) (by decide) (by rfl) (by rfl) (by rfl) he_2)),
 .vl ⟨[sl 38 (.oe 1 (0 : Int).toNat 1)], [.gone, rowI 3 intT ([1] : List Int)]⟩ (mt_val (val_loadO (T := intT) (l := ([1] : List Int)) (y := e_2) ht rfl (by rfl) (by rfl) (by rfl) (by rfl) (by rfl) (idx_some he_2).2.2 (by rfl))),
 .vl ⟨[sl 36 (.own 6)], [.gone, .gone, .gone, .gone, .gone, .gone, rowI 3 intT (qx8 g)]⟩ (mt_val (val_indexO (T := intT) (l := (qx8 g)) (k := 0) ht rfl (by rfl) (by rfl) (by rfl) (by rfl) (by decide) (by rfl) (by rfl) (by rfl) he_3)),
 .mu ⟨[sl 39 (I e_2), sl 40 (.oe 6 (0 : Int).toNat 1)], [.gone, .gone, .gone, .gone, .gone, .gone, rowI 3 intT (qx8 g)]⟩ 6 _ _ rfl rfl (by kernel_rfl) (by rfl) (mu_storeO (T := intT) (l := (qx8 g)) (y := e_2) ht rfl (by rfl) (by rfl) (fun _ h => by cases h) (by rfl) (by rfl) (idx_lt he_3) (by rfl) (by rfl) (by rfl)) rfl rfl rfl rfl rfl rfl rfl,
 trivial⟩
 refine En.seq ?_
 refine En.sr ?_
 refine WL.rn ht hn 1 ⟨[qx1, sl 5 (.own 5), qx3, sl 9 (B true)], [.box (qx2 g) 37 false, .gone, .gone, .gone, .gone, rowI 39 ApiMake.ty l5, rowI 3 intT ((qx8 g).set (0 : Int).toNat e_2), qx4]⟩ ?_
 refine En.block ?_
 obtain ⟨Inv_2, mu_2, h0_3, hI_3⟩ := h
 refine En.loop (σ := Bool × (List Int)) (fun zz => Inv_2 zz.1 zz.2) (fun zz => mu_2 zz.1 zz.2) (fun zz => ⟨[qx1, sl 5 (.own 5), qx3, sl 9 (B zz.1)], [.box (qx2 g) 37 false, .gone, .gone, .gone, .gone, rowI 39 ApiMake.ty l5, rowI 3 intT zz.2, qx4]⟩) (true, ((qx8 g).set (0 : Int).toNat e_2)) h0_3 (sub_ok (by kernel_rfl)) ?_
 rintro ⟨x9, l6⟩ h
 replace h := hI_3 _ _ h
 show En c ⟨[qx1, sl 5 (.own 5), qx3, sl 9 (B x9)], (qx11 g l5 l6)⟩ _
 refine En.seq ?_
 refine En.sr ?_
 refine WL.rn ht hn 1 ⟨[qx1, sl 5 (.own 5), qx3, sl 41 (B x9)], (qx11 g l5 l6)⟩ ?_
 refine En.ch h (fun h => ?_) (fun h => ?_)
 refine En.skip ?_
 refine En.block ?_
 refine En.sr ?_
 refine WL.rn ht hn 1 ⟨[qx1, sl 5 (.own 5), qx3, sl 9 (B false)], (qx11 g l5 l6)⟩ ?_
 refine En.sr ?_
 refine WL.rn ht hn 3 ⟨[qx1, sl 5 (.own 5), qx3, sl 9 (B false), qx9, sl 43 (I (l5.length : Int)), sl 44 (I 0)], (qx11 g l5 l6)⟩ ?_
 refine En.block ?_
 obtain ⟨Inv_3, mu_3, h0_2, hI_2⟩ := h
 refine En.loop (σ := Bool × Int × (List Int)) (fun zz => Inv_3 zz.1 zz.2.1 zz.2.2) (fun zz => mu_3 zz.1 zz.2.1 zz.2.2) (fun zz => ⟨[qx1, sl 5 (.own 5), qx3, sl 9 (B zz.1), qx9, sl 43 (I (l5.length : Int)), sl 44 (I zz.2.1)], [.box (qx2 g) 37 false, .gone, .gone, .gone, .gone, rowI 39 ApiMake.ty l5, rowI 3 intT zz.2.2, qx4]⟩) (false, 0, l6) h0_2 (sub_ok (by kernel_rfl)) ?_
 rintro ⟨x9_2, x44, l6_2⟩ h
 replace h := hI_2 _ _ _ h
 show En c ⟨[qx1, sl 5 (.own 5), qx3, sl 9 (B x9_2), qx9, sl 43 (I (l5.length : Int)), sl 44 (I x44)], [.box (qx2 g) 37 false, .gone, .gone, .gone, .gone, rowI 39 ApiMake.ty l5, rowI 3 intT l6_2, qx4]⟩ _
 refine En.sr ?_
 refine WL.rn ht hn 1 ⟨[qx1, sl 5 (.own 5), qx3, sl 9 (B x9_2), qx9, sl 43 (I (l5.length : Int)), sl 44 (I x44), sl 45 (B (decide (x44 < (l5.length : Int))))], [.box (qx2 g) 37 false, .gone, .gone, .gone, .gone, rowI 39 ApiMake.ty l5, rowI 3 intT l6_2, qx4]⟩ ?_
 refine En.seq ?_
 refine En.ch h (fun h => ?_) (fun h => ?_)
 refine En.skip ?_
 refine En.seq ?_
 refine En.block ?_
 refine En.sr ?_
 obtain ⟨e_4, he_4, h⟩ := h
 refine WL.v hn (val_indexO (T := ApiMake.ty) (l := l5) (k := x44) ht rfl (by rfl) (by rfl) (by rfl) (by rfl) (by decide) (by rfl) (by rfl) (by rfl) he_4) ?_
 refine WL.v hn (val_loadO (T := ApiMake.ty) (l := l5) (y := e_4) ht rfl (by rfl) (by rfl) (by rfl) (by rfl) (by rfl) (idx_some he_4).2.2 (by rfl)) ?_
 refine WL.rn ht hn 2 ⟨[qx1, sl 5 (.own 5), qx3, sl 9 (B x9_2), qx10, qx9, sl 43 (I (l5.length : Int)), sl 44 (I x44)], [.box (qx2 g) 37 false, .gone, .gone, .gone, .gone, rowI 39 ApiMake.ty l5, rowI 3 intT l6_2, qx4, .box (ApiMake.cl e_4) 39 false]⟩ ?_
 refine En.sr ?_
 refine WL.rn ht hn 4 ⟨[qx1, sl 5 (.own 5), qx3, sl 9 (B x9_2), qx10, qx9, sl 43 (I (l5.length : Int)), sl 44 (I x44), qx13 e_4.fTo, sl 50 (I (e_4.fTo.length : Int)), sl 51 (I 0)], [.box (qx2 g) 37 false, .gone, .gone, .gone, .gone, rowI 39 ApiMake.ty l5, rowI 3 intT l6_2, qx4, .box (ApiMake.cl e_4) 39 false]⟩ ?_
 refine En.block ?_
 obtain ⟨Inv_4, mu_4, h0, hI⟩ := h
 refine En.loop (σ := Bool × Int × (List Int)) (fun zz => Inv_4 zz.1 zz.2.1 zz.2.2) (fun zz => mu_4 zz.1 zz.2.1 zz.2.2) (fun zz => ⟨[qx1, sl 5 (.own 5), qx3, sl 9 (B zz.1), qx10, qx9, sl 43 (I (l5.length : Int)), sl 44 (I x44), qx13 e_4.fTo, sl 50 (I (e_4.fTo.length : Int)), sl 51 (I zz.2.1)], [.box (qx2 g) 37 false, .gone, .gone, .gone, .gone, rowI 39 ApiMake.ty l5, rowI 3 intT zz.2.2, qx4, .box (ApiMake.cl e_4) 39 false]⟩) (x9_2, 0, l6_2) h0 (sub_ok (by kernel_rfl)) ?_
 rintro ⟨x9_3, x51, l6_3⟩ h
 replace h := hI _ _ _ h
 show En c ⟨[qx1, sl 5 (.own 5), qx3, sl 9 (B x9_3), qx10, qx9, sl 43 (I (l5.length : Int)), sl 44 (I x44), qx13 e_4.fTo, sl 50 (I (e_4.fTo.length : Int)), sl 51 (I x51)], (qx0 g l5 l6_3 e_4)⟩ _
 refine En.sr ?_
 refine WL.rn ht hn 1 ⟨[qx1, sl 5 (.own 5), qx3, sl 9 (B x9_3), qx10, qx9, sl 43 (I (l5.length : Int)), sl 44 (I x44), qx13 e_4.fTo, sl 50 (I (e_4.fTo.length : Int)), sl 51 (I x51), sl 52 (B (decide (x51 < (e_4.fTo.length : Int))))], (qx0 g l5 l6_3 e_4)⟩ ?_
 refine En.seq ?_
 refine En.ch h (fun h => ?_) (fun h => ?_)
 refine En.skip ?_
 obtain ⟨J_2, h, hJ_2⟩ := h
 refine En.seqJ (σ := Bool × (List Int)) (fun zz => J_2 zz.1 zz.2) (fun zz => ⟨[qx1, sl 5 (.own 5), qx3, sl 9 (B zz.1), qx10, qx9, sl 43 (I (l5.length : Int)), sl 44 (I x44), qx13 e_4.fTo, sl 50 (I (e_4.fTo.length : Int)), sl 51 (I x51)], (qx15 g l5 zz.2 e_4)⟩) ?_ ?_
 refine En.block ?_
 refine En.sr ?_
 obtain ⟨e_5, he_5, h⟩ := h
 refine WL.v hn (val_ix (T := intT) (l := e_4.fTo) (i := x51) ht rfl he_5) ?_
 refine WL.v hn (val_ld (s := .one (I e_5)) ht rfl) ?_
 refine WL.rn ht hn 1 ⟨[qx1, sl 5 (.own 5), qx3, sl 9 (B x9_3), qx10, sl 13 (I e_5), qx9, sl 43 (I (l5.length : Int)), sl 44 (I x44), qx13 e_4.fTo, sl 50 (I (e_4.fTo.length : Int)), sl 51 (I x51)], (qx0 g l5 l6_3 e_4)⟩ ?_
 obtain ⟨J_3, h, hJ_3⟩ := h
 refine En.seqJ (σ := Bool) (fun zz => J_3 zz) (fun zz => ⟨[qx1, sl 5 (.own 5), qx3, sl 9 (B x9_3), qx10, sl 13 (I e_5), qx9, sl 43 (I (l5.length : Int)), sl 44 (I x44), qx13 e_4.fTo, sl 50 (I (e_4.fTo.length : Int)), sl 51 (I x51), sl 76 (B zz)], (qx0 g l5 l6_3 e_4)⟩) ?_ ?_
 refine En.region ?_
 refine WL.r ht hn 5 ⟨[qx1, sl 5 (.own 5), qx3, sl 9 (B x9_3), qx10, sl 13 (I e_5), qx9, sl 43 (I (l5.length : Int)), sl 44 (I x44), qx13 e_4.fTo, sl 50 (I (e_4.fTo.length : Int)), sl 51 (I x51), sl 59 (B (decide (e_5 ≥ g.fLetters)))], (qx0 g l5 l6_3 e_4)⟩ ?_
 refine splitB (decide (e_5 ≥ g.fLetters)) (fun hb => ?_) (fun hb => ?_)
 replace h := h.1 hb
 refine WL.sB 59 hb ?_
 refine WL.r ht hn 3 ⟨[qx1, sl 5 (.own 5), qx3, sl 9 (B x9_3), qx10, sl 13 (I e_5), qx9, sl 43 (I (l5.length : Int)), sl 44 (I x44), qx13 e_4.fTo, sl 50 (I (e_4.fTo.length : Int)), sl 51 (I x51), sl 59 (B true), sl 60 (.own 6), sl 62 (I e_4.fFrom)], (qx0 g l5 l6_3 e_4)⟩ ?_
 obtain ⟨e_6, he_6, h⟩ := h
 refine WL.v hn (val_indexO (T := intT) (l := l6_3) (k := e_4.fFrom) ht rfl (by rfl) (by rfl) (by rfl) (by rfl) (by decide) (by rfl) (by rfl) (by rfl) he_6) ?_
 refine WL.v hn (val_loadO (T := intT) (l := l6_3) (y := e_6) ht rfl (by rfl) (by rfl) (by rfl) (by rfl) (by rfl) (idx_some he_6).2.2 (by rfl)) ?_
 refine WL.r ht hn 3 ⟨[qx1, sl 5 (.own 5), qx3, sl 9 (B x9_3), qx10, sl 13 (I e_5), qx9, sl 43 (I (l5.length : Int)), sl 44 (I x44), qx13 e_4.fTo, sl 50 (I (e_4.fTo.length : Int)), sl 51 (I x51), sl 67 (B (e_6 == 1))], (qx0 g l5 l6_3 e_4)⟩ ?_
 refine splitB (e_6 == 1) (fun hb => ?_) (fun hb => ?_)
 replace h := h.1 hb
 refine WL.sB 67 hb ?_
 refine WL.r ht hn 5 ⟨[qx1, sl 5 (.own 5), qx3, sl 9 (B x9_3), qx10, sl 13 (I e_5), qx9, sl 43 (I (l5.length : Int)), sl 44 (I x44), qx13 e_4.fTo, sl 50 (I (e_4.fTo.length : Int)), sl 51 (I x51), sl 67 (B true), sl 68 (.own 6), sl 72 (I (wr (e_5 - g.fLetters)))], (qx0 g l5 l6_3 e_4)⟩ ?_
 obtain ⟨e_7, he_7, h⟩ := h
 refine WL.v hn (val_indexO (T := intT) (l := l6_3) (k := (wr (e_5 - g.fLetters))) ht rfl (by rfl) (by rfl) (by rfl) (by rfl) (by decide) (by rfl) (by rfl) (by rfl) he_7) ?_
 refine WL.v hn (val_loadO (T := intT) (l := l6_3) (y := e_7) ht rfl (by rfl) (by rfl) (by rfl) (by rfl) (by rfl) (idx_some he_7).2.2 (by rfl)) ?_
 refine WL.rn ht hn 2 ⟨[qx1, sl 5 (.own 5), qx3, sl 9 (B x9_3), qx10, sl 13 (I e_5), qx9, sl 43 (I (l5.length : Int)), sl 44 (I x44), qx13 e_4.fTo, sl 50 (I (e_4.fTo.length : Int)), sl 51 (I x51), sl 76 (B (e_7 == 0))], (qx0 g l5 l6_3 e_4)⟩ ?_
 exact En.at (I := fun zz => J_3 zz) (T := fun zz => ⟨[qx1, sl 5 (.own 5), qx3, sl 9 (B x9_3), qx10, sl 13 (I e_5), qx9, sl 43 (I (l5.length : Int)), sl 44 (I x44), qx13 e_4.fTo, sl 50 (I (e_4.fTo.length : Int)), sl 51 (I x51), sl 76 (B zz)], (qx0 g l5 l6_3 e_4)⟩) (e_7 == 0) h (by kernel_rfl)
 replace h := h.2 hb
 refine WL.sB 67 hb ?_
 refine WL.rn ht hn 9 ⟨[qx1, sl 5 (.own 5), qx3, sl 9 (B x9_3), qx10, sl 13 (I e_5), qx9, sl 43 (I (l5.length : Int)), sl 44 (I x44), qx13 e_4.fTo, sl 50 (I (e_4.fTo.length : Int)), sl 51 (I x51), sl 76 (B false)], (qx0 g l5 l6_3 e_4)⟩ ?_
 exact En.at (I := fun zz => J_3 zz) (T := fun zz => ⟨[qx1, sl 5 (.own 5), qx3, sl 9 (B x9_3), qx10, sl 13 (I e_5), qx9, sl 43 (I (l5.length : Int)), sl 44 (I x44), qx13 e_4.fTo, sl 50 (I (e_4.fTo.length : Int)), sl 51 (I x51), sl 76 (B zz)], (qx0 g l5 l6_3 e_4)⟩) false h (by kernel_rfl)
 replace h := h.2 hb
 refine WL.sB 59 hb ?_
 refine WL.rn ht hn 17 ⟨[qx1, sl 5 (.own 5), qx3, sl 9 (B x9_3), qx10, sl 13 (I e_5), qx9, sl 43 (I (l5.length : Int)), sl 44 (I x44), qx13 e_4.fTo, sl 50 (I (e_4.fTo.length : Int)), sl 51 (I x51), sl 76 (B false)], (qx0 g l5 l6_3 e_4)⟩ ?_
 exact En.at (I := fun zz => J_3 zz) (T := fun zz => ⟨[qx1, sl 5 (.own 5), qx3, sl 9 (B x9_3), qx10, sl 13 (I e_5), qx9, sl 43 (I (l5.length : Int)), sl 44 (I x44), qx13 e_4.fTo, sl 50 (I (e_4.fTo.length : Int)), sl 51 (I x51), sl 76 (B zz)], (qx0 g l5 l6_3 e_4)⟩) false h (by kernel_rfl)
 intro x76 h
 replace h := hJ_3 _ h
 show En c ⟨[qx1, sl 5 (.own 5), qx3, sl 9 (B x9_3), qx10, sl 13 (I e_5), qx9, sl 43 (I (l5.length : Int)), sl 44 (I x44), qx13 e_4.fTo, sl 50 (I (e_4.fTo.length : Int)), sl 51 (I x51), sl 76 (B x76)], (qx0 g l5 l6_3 e_4)⟩ _
 refine En.ch h (fun h => ?_) (fun h => ?_)
 refine En.region ?_
 refine WL.r ht hn 5 ⟨[qx1, sl 5 (.own 5), qx3, qx10, qx9, sl 43 (I (l5.length : Int)), sl 44 (I x44), qx13 e_4.fTo, sl 50 (I (e_4.fTo.length : Int)), sl 51 (I x51), sl 77 (.own 6), sl 81 (I (wr (e_5 - g.fLetters)))], (qx0 g l5 l6_3 e_4)⟩ ?_
 obtain ⟨e_8, he_8, h⟩ := h
 refine WL.v hn (val_indexO (T := intT) (l := l6_3) (k := (wr (e_5 - g.fLetters))) ht rfl (by rfl) (by rfl) (by rfl) (by rfl) (by decide) (by rfl) (by rfl) (by rfl) he_8) ?_
 refine WL.storeO (T := intT) (l := l6_3) (y := 1) ht hn (by rfl) rfl (by rfl) (by rfl) (fun _ h => by cases h) (by rfl) (by rfl) (idx_lt he_8) (by rfl) (by rfl) (by rfl) (by rfl) ?_
 refine WL.rn ht hn 1 ⟨[qx1, sl 5 (.own 5), qx3, sl 9 (B true), qx10, qx9, sl 43 (I (l5.length : Int)), sl 44 (I x44), qx13 e_4.fTo, sl 50 (I (e_4.fTo.length : Int)), sl 51 (I x51)], [.box (qx2 g) 37 false, .gone, .gone, .gone, .gone, rowI 39 ApiMake.ty l5, rowI 3 intT (l6_3.set (wr (e_5 - g.fLetters)).toNat 1), qx4, .box (ApiMake.cl e_4) 39 false]⟩ ?_
 exact En.at (I := fun zz => J_2 zz.1 zz.2) (T := fun zz => ⟨[qx1, sl 5 (.own 5), qx3, sl 9 (B zz.1), qx10, qx9, sl 43 (I (l5.length : Int)), sl 44 (I x44), qx13 e_4.fTo, sl 50 (I (e_4.fTo.length : Int)), sl 51 (I x51)], (qx15 g l5 zz.2 e_4)⟩) (true, (l6_3.set (wr (e_5 - g.fLetters)).toNat 1)) h (by kernel_rfl)
 refine En.skip ?_
 exact En.at (I := fun zz => J_2 zz.1 zz.2) (T := fun zz => ⟨[qx1, sl 5 (.own 5), qx3, sl 9 (B zz.1), qx10, qx9, sl 43 (I (l5.length : Int)), sl 44 (I x44), qx13 e_4.fTo, sl 50 (I (e_4.fTo.length : Int)), sl 51 (I x51)], (qx15 g l5 zz.2 e_4)⟩) (x9_3, l6_3) h (by kernel_rfl)
 rintro ⟨x9_4, l6_4⟩ h
 replace h := hJ_2 _ _ h
 show En c ⟨[qx1, sl 5 (.own 5), qx3, sl 9 (B x9_4), qx10, qx9, sl 43 (I (l5.length : Int)), sl 44 (I x44), qx13 e_4.fTo, sl 50 (I (e_4.fTo.length : Int)), sl 51 (I x51)], [.box (qx2 g) 37 false, .gone, .gone, .gone, .gone, rowI 39 ApiMake.ty l5, rowI 3 intT l6_4, qx4, .box (ApiMake.cl e_4) 39 false]⟩ _
 refine En.region ?_
 refine WL.rn ht hn 2 ⟨[qx1, sl 5 (.own 5), qx3, sl 9 (B x9_4), qx10, qx9, sl 43 (I (l5.length : Int)), sl 44 (I x44), qx13 e_4.fTo, sl 50 (I (e_4.fTo.length : Int)), sl 51 (I (wr (x51 + 1)))], [.box (qx2 g) 37 false, .gone, .gone, .gone, .gone, rowI 39 ApiMake.ty l5, rowI 3 intT l6_4, qx4, .box (ApiMake.cl e_4) 39 false]⟩ ?_
 exact En.at (I := fun zz => Inv_4 zz.1 zz.2.1 zz.2.2 ∧ mu_4 zz.1 zz.2.1 zz.2.2 < mu_4 x9_3 x51 l6_3) (T := fun zz => ⟨[qx1, sl 5 (.own 5), qx3, sl 9 (B zz.1), qx10, qx9, sl 43 (I (l5.length : Int)), sl 44 (I x44), qx13 e_4.fTo, sl 50 (I (e_4.fTo.length : Int)), sl 51 (I zz.2.1)], [.box (qx2 g) 37 false, .gone, .gone, .gone, .gone, rowI 39 ApiMake.ty l5, rowI 3 intT zz.2.2, qx4, .box (ApiMake.cl e_4) 39 false]⟩) (x9_4, (wr (x51 + 1)), l6_4) h (by kernel_rfl)
 refine En.exit rfl ?_
 refine En.region ?_
 refine WL.rn ht hn 2 ⟨[qx1, sl 5 (.own 5), qx3, sl 9 (B x9_3), qx9, sl 43 (I (l5.length : Int)), sl 44 (I (wr (x44 + 1)))], [.box (qx2 g) 37 false, .gone, .gone, .gone, .gone, rowI 39 ApiMake.ty l5, rowI 3 intT l6_3, qx4, .gone]⟩ ?_
 exact En.at (I := fun zz => Inv_3 zz.1 zz.2.1 zz.2.2 ∧ mu_3 zz.1 zz.2.1 zz.2.2 < mu_3 x9_2 x44 l6_2) (T := fun zz => ⟨[qx1, sl 5 (.own 5), qx3, sl 9 (B zz.1), qx9, sl 43 (I (l5.length : Int)), sl 44 (I zz.2.1)], [.box (qx2 g) 37 false, .gone, .gone, .gone, .gone, rowI 39 ApiMake.ty l5, rowI 3 intT zz.2.2, qx4]⟩) (x9_3, (wr (x44 + 1)), l6_3) h (by kernel_rfl)
 refine En.exit rfl ?_
 exact En.at (I := fun zz => Inv_2 zz.1 zz.2 ∧ mu_2 zz.1 zz.2 < mu_2 x9 l6) (T := fun zz => ⟨[qx1, sl 5 (.own 5), qx3, sl 9 (B zz.1)], [.box (qx2 g) 37 false, .gone, .gone, .gone, .gone, rowI 39 ApiMake.ty l5, rowI 3 intT zz.2, qx4]⟩) (x9_2, l6_2) h (by kernel_rfl)
 refine En.exit rfl ?_
 refine En.seq ?_
 refine En.seal (T := ApiMake.ty) (l := l5) (e := 39) 5 rfl ?_
 refine En.seal (T := intT) (l := l6) (e := 3) 6 rfl ?_
 refine En.freeze [7] (by rfl) ?_
 obtain ⟨hp_2, h⟩ := h
 refine En.regionA ⟨[sl 5 (LS ApiMake.ty l5), qx3], [.sv (.one (LS ApiMake.ty l5)), .sv (.one (.rd (fvR (fun (x_ : ApiMake) => [.sv (.agg (ApiMake.cl x_))]) (fun (r : Bool) => .sv (.one (B r))) (metDom l6) (metB l6)))), .sv (.one (LS ApiMake.ty l5)), .sv (.one (LS intT l6)), .sv (.one (LS ApiMake.ty l5)), .sv (.one (LS intT l6))], [⟨.gone, none, none, none⟩, ⟨.gone, none, none, none⟩, ⟨.gone, none, none, none⟩, ⟨.gone, none, none, none⟩, ⟨.gone, none, none, none⟩, ⟨.gone, none, none, none⟩, ⟨.gone, none, none, none⟩, ⟨.box [LS intT l6] 23 true, none, none, none⟩]⟩ ⟨[sl 2 (LS ApiMake.ty l5), sl 3 (LS intT l6)], [.gone, .gone, .gone, .gone, .gone, .gone, .gone, .gone]⟩ (by kernel_rfl) hn (by kernel_rfl) (by rfl) (by kernel_rfl) ?_ (by kernel_rfl) ?_
 exact ⟨.ev ⟨[sl 5 (LS ApiMake.ty l5)], []⟩ ht,
 .mt ⟨[qx3], [.gone, .gone, .gone, .gone, .gone, .gone, .gone, .box [LS intT l6] 23 true]⟩ [] none (by kernel_rfl) (by rfl) (mt_fv (x := .sv (.one (.fn 86 [7]))) ht (by kernel_rfl) (fv_of (M := [.box [LS intT l6] 23 true]) (caps := [7]) (fun x_ hx => gUs2_ct x_ l6 hx) en86 rfl (by kernel_rfl) (by rfl) (fun _ => rfl))) rfl rfl rfl rfl,
 .vl ⟨[sl 85 (LS ApiMake.ty l5), sl 86 (.rd (fvR (fun (x_ : ApiMake) => [.sv (.agg (ApiMake.cl x_))]) (fun (r : Bool) => .sv (.one (B r))) (metDom l6) (metB l6)))], []⟩ (mt_c (gDel_ct l5 (metDom l6) (metB l6) hp_2) en85 rfl),
 .ev ⟨[qx3], [.gone, .gone, .gone, .gone, .gone, .gone, .gone, .box [LS intT l6] 23 true]⟩ ht,
 .ev ⟨[sl 87 (LS ApiMake.ty l5)], []⟩ ht,
 .ev ⟨[sl 88 (LS intT l6)], []⟩ ht,
 trivial⟩
 exact En.rb ht (l5, l6) h
theorem en39 : ∀ args w, (callFunc 39 args).run Try.prog w = .ok (.enter 39 args) w := enters_of Try.func39 (by kernel_rfl) rfl
theorem gUse_ct (g : ApiGrammar) (hp : g = tinyG)  : Ct 39 [.sv (.agg [I g.fLetters, I g.fNames, LS ApiMake.ty g.fMakes])] [] (fun (_ : Unit) => True) (fun _ => .tup [.one (LS ApiMake.ty ((tinyG.fMakes, [1])).1), .one (LS intT ((tinyG.fMakes, [1])).2)]) := by
 refine (gUse_walk g (fun res_ => res_ = ((tinyG.fMakes, [1]))) ?_).fun
 subst hp
 intro _
 have k0 : idx tinyG.fMakes 0 = some (ApiMake.mk 0 [0, 1]) := rfl
 have k1 : idx tinyG.fMakes 1 = some (ApiMake.mk 0 []) := rfl
 have w1 : wr (0 + 1) = 1 := rfl
 have w2 : wr (1 + 1) = 2 := rfl
 refine ⟨rfl, fun x l => (x = 0 ∧ l = []) ∨ (x = 1 ∧ l = [ApiMake.mk 0 [0, 1]]) ∨ (x = 2 ∧ l = tinyG.fMakes), fun x _ => 2 - x.toNat, .inl ⟨rfl, rfl⟩, ?_⟩
 rintro x l (⟨rfl, rfl⟩ | ⟨rfl, rfl⟩ | ⟨rfl, rfl⟩)
 ·refine ⟨fun _ => ⟨fun l => l = [ApiMake.mk 0 [0, 1]], ⟨_, k0, fun x hx => ⟨rfl, rfl, by simpa using hx⟩, fun _ => ⟨capOk_of (by decide), rfl⟩, fun h => absurd h (by decide)⟩, ?_⟩, fun h => absurd h (by decide)⟩
  rintro _ rfl
  exact ⟨.inr (.inl ⟨rfl, rfl⟩), by decide⟩
 ·refine ⟨fun _ => ⟨fun l => l = tinyG.fMakes, ⟨_, k1, fun x hx => (by cases hx), fun _ => ⟨capOk_of (by decide), rfl⟩, fun h => absurd h (by decide)⟩, ?_⟩, fun h => absurd h (by decide)⟩
  rintro _ rfl
  exact ⟨.inr (.inr ⟨rfl, rfl⟩), by decide⟩
 refine ⟨fun h => absurd h (by decide), fun _ => ⟨⟨by decide, by decide, by decide⟩, 1, rfl, 0, rfl, fun _ l => l = [1], fun b _ => if b = true then 1 else 0, rfl, ?_⟩⟩
 rintro b _ rfl
 refine ⟨fun hb => ?_, fun _ => ⟨⟨?_, ?_⟩, rfl⟩⟩
 rotate_left
 ·intro m hm
  refine ⟨rfl, ?_⟩
  rcases List.mem_cons.1 hm with rfl | hm
  ·rfl
  ·rw [List.mem_singleton.1 hm]
 ·intro m hm
  rcases List.mem_cons.1 hm with rfl | hm
  ·rfl
  ·rw [List.mem_singleton.1 hm]
   rfl
 subst hb
 refine ⟨fun c x l => c = false ∧ l = [1] ∧ (x = 0 ∨ x = 1 ∨ x = 2), fun _ x _ => 2 - x.toNat, ⟨rfl, rfl, .inl rfl⟩, ?_⟩
 rintro c x l ⟨rfl, rfl, (rfl | rfl | rfl)⟩
 ·refine ⟨fun _ => ⟨_, k0, fun c x l => c = false ∧ l = [1] ∧ (x = 0 ∨ x = 1 ∨ x = 2), fun _ x _ => 2 - x.toNat, ⟨rfl, rfl, .inl rfl⟩, ?_⟩, fun h => absurd h (by decide)⟩
  rintro c x l ⟨rfl, rfl, (rfl | rfl | rfl)⟩
  ·refine ⟨fun _ => ⟨fun c l => c = false ∧ l = [1], ⟨0, rfl, fun b => b = false, ⟨fun h => absurd h (by decide), fun _ => rfl⟩, ?_⟩, ?_⟩, fun h => absurd h (by decide)⟩
   ·rintro _ rfl
    exact ⟨fun h => (by cases h), fun _ => ⟨rfl, rfl⟩⟩
   ·rintro _ _ ⟨rfl, rfl⟩
    exact ⟨⟨rfl, rfl, .inr (.inl rfl)⟩, by decide⟩
  ·refine ⟨fun _ => ⟨fun c l => c = false ∧ l = [1], ⟨1, rfl, fun b => b = false, ⟨fun _ => ⟨1, rfl, fun _ => ⟨1, rfl, rfl⟩, fun h => absurd h (by decide)⟩, fun h => absurd h (by decide)⟩, ?_⟩, ?_⟩, fun h => absurd h (by decide)⟩
   ·rintro _ rfl
    exact ⟨fun h => (by cases h), fun _ => ⟨rfl, rfl⟩⟩
   ·rintro _ _ ⟨rfl, rfl⟩
    exact ⟨⟨rfl, rfl, .inr (.inr rfl)⟩, by decide⟩
  ·exact ⟨fun h => absurd h (by decide), fun _ => ⟨⟨rfl, rfl, .inr (.inl rfl)⟩, by decide⟩⟩
 ·refine ⟨fun _ => ⟨_, k1, fun c x l => c = false ∧ l = [1] ∧ x = 0, fun _ x _ => 0, ⟨rfl, rfl, rfl⟩, ?_⟩, fun h => absurd h (by decide)⟩
  rintro c x l ⟨rfl, rfl, rfl⟩
  exact ⟨fun h => absurd h (by decide), fun _ => ⟨⟨rfl, rfl, .inr (.inr rfl)⟩, by decide⟩⟩
 ·exact ⟨fun h => absurd h (by decide), fun _ => ⟨rfl, by decide⟩⟩
def gHas_vc (s : Int) (g : ApiGrammar) (l : List Bool) (Q : Bool → Prop) : Prop :=
 ∃ J : Bool → Prop, (IfP (decide (s < g.fLetters)) (J true) (∃ e, idx l (wr (s - g.fLetters)) = some e ∧
 J e)) ∧
 (∀ (x4 : Bool), J x4 → Q x4)
theorem gHas_walk (s : Int) (g : ApiGrammar) (l : List Bool) (Q : Bool → Prop) (h : gHas_vc s g l Q) : Ct 40 [.sv (.one (I s)), .sv (.one (.ptr 0 0)), .sv (.one (.ptr 1 0))] [.box [I g.fLetters, I g.fNames, LS ApiMake.ty g.fMakes] 37 true, .box [LS boolT l] 91 true] Q (fun (r : Bool) => .sv (.one (B r))) := by
 have ht := tab_ok
 refine Ct.body Try.func40 rfl rfl rfl rfl (fun c hn => ?_)
 unfold gHas_vc at h
 refine En.sr ?_
 refine WL.rn ht hn 1 ⟨[sl 0 (I s), sl 1 (.ptr 0 0), sl 2 (.ptr 1 0)], [.box (ApiGrammar.cl g) 37 true, .box [LS boolT l] 91 true]⟩ ?_
 obtain ⟨J, h, hJ⟩ := h
 refine En.seqJ (σ := Bool) (fun zz => J zz) (fun zz => ⟨[sl 4 (B zz)], [.gone, .gone]⟩) ?_ ?_
 refine En.region ?_
 refine WL.r ht hn 5 ⟨[sl 0 (I s), sl 1 (.ptr 0 0), sl 2 (.ptr 1 0), sl 9 (B (decide (s < g.fLetters)))], [.box (ApiGrammar.cl g) 37 true, .box [LS boolT l] 91 true]⟩ ?_
 refine splitB (decide (s < g.fLetters)) (fun hb => ?_) (fun hb => ?_)
 replace h := h.1 hb
 refine WL.sB 9 hb ?_
 refine WL.rn ht hn 9 ⟨[sl 4 (B true)], [.gone, .gone]⟩ ?_
 exact En.at (I := fun zz => J zz) (T := fun zz => ⟨[sl 4 (B zz)], [.gone, .gone]⟩) true h (by kernel_rfl)
 replace h := h.2 hb
 refine WL.sB 9 hb ?_
 refine WL.r ht hn 5 ⟨[sl 9 (B false), sl 10 (LS boolT l), sl 14 (I (wr (s - g.fLetters)))], [.gone, .gone]⟩ ?_
 obtain ⟨e, he, h⟩ := h
 refine WL.v hn (val_ix (T := boolT) (l := l) (i := (wr (s - g.fLetters))) ht rfl he) ?_
 refine WL.v hn (val_ld (s := .one (B e)) ht rfl) ?_
 refine WL.rn ht hn 2 ⟨[sl 4 (B e)], [.gone, .gone]⟩ ?_
 exact En.at (I := fun zz => J zz) (T := fun zz => ⟨[sl 4 (B zz)], [.gone, .gone]⟩) e h (by kernel_rfl)
 intro x4 h
 replace h := hJ _ h
 show En c ⟨[sl 4 (B x4)], [.gone, .gone]⟩ _
 exact En.rb ht x4 h
theorem en40 : ∀ args w, (callFunc 40 args).run Try.prog w = .ok (.enter 40 args) w := enters_of Try.func40 (by kernel_rfl) rfl
def hasF (g : ApiGrammar) (l : List Bool) (s : Int) : Bool := decide (s < g.fLetters) || (l.getD (s - g.fLetters).toNat false)
def hasFd (g : ApiGrammar) (l : List Bool) (s : Int) : Prop := g = tinyG ∧ l.length = 1 ∧ (s = 0 ∨ s = 1)
theorem gHas_ct (s : Int) (g : ApiGrammar) (l : List Bool) (hp : hasFd g l s)  : Ct 40 [.sv (.one (I s)), .sv (.one (.ptr 0 0)), .sv (.one (.ptr 1 0))] [.box [I g.fLetters, I g.fNames, LS ApiMake.ty g.fMakes] 37 true, .box [LS boolT l] 91 true] (fun (_ : Unit) => True) (fun _ => .sv (.one (B (hasF g l s)))) := by
 refine (gHas_walk s g l (fun res_ => res_ = (hasF g l s)) ?_).fun
 obtain ⟨rfl, hl, hs⟩ := hp
 obtain ⟨a, rfl⟩ : ∃ a, l = [a] := by
  match l, hl with
  | [a], _ => exact ⟨a, rfl⟩
 unfold gHas_vc
 rcases hs with rfl | rfl
 ·exact ⟨fun b => b = hasF tinyG [a] 0, ⟨fun _ => rfl, fun h => absurd h (by decide)⟩, fun _ h => h⟩
 ·exact ⟨fun b => b = hasF tinyG [a] 1, ⟨fun h => absurd h (by decide), fun _ => ⟨a, rfl, rfl⟩⟩, fun _ h => h⟩
def gLes_vc (g : ApiGrammar) (Q : (Bool × Int) → Prop) : Prop :=
 g.fMakes.length ≤ 9223372036854775807 →
 (IfP ((grmErr g) != 0) (Q (false, (grmErr g))) ((g = tinyG) ∧
 makeOk g.fNames g.fNames 1 ∧
 ∃ (Inv : Bool → (List Bool) → Prop) (mu : Bool → (List Bool) → Nat), Inv true (List.replicate (g.fNames).toNat false) ∧
 ∀ (x9 : Bool) (l1 : List Bool) , Inv x9 l1 → (IfP x9 (∃ (Inv_2 : Bool → Int → (List Bool) → Prop) (mu_2 : Bool → Int → (List Bool) → Nat), Inv_2 false 0 l1 ∧
 ∀ (x9_2 : Bool) (x42 : Int) (l1_2 : List Bool) , Inv_2 x9_2 x42 l1_2 → (IfP (decide (x42 < (((tinyG.fMakes, ([1] : List Int))).1.length : Int))) (∃ J : Bool → (List Bool) → Prop, (∃ e, idx ((tinyG.fMakes, ([1] : List Int))).1 x42 = some e ∧
 ∃ J_2 : Bool → Prop, (∃ e_2, idx l1_2 e.fFrom = some e_2 ∧
 IfP (!e_2) ((∀ x_ ∈ e.fTo, (hasFd g l1_2) x_) ∧
 J_2 (e.fTo.any (hasF g l1_2))) (J_2 false)) ∧
 (∀ (x57 : Bool), J_2 x57 → IfP x57 (∃ e_3, idx l1_2 e.fFrom = some e_3 ∧
 J true (l1_2.set (e.fFrom).toNat true)) (J x9_2 l1_2))) ∧
 (∀ (x9_3 : Bool) (l1_3 : List Bool), J x9_3 l1_3 → (Inv_2 x9_3 (wr (x42 + 1)) l1_3 ∧ mu_2 x9_3 (wr (x42 + 1)) l1_3 < mu_2 x9_2 x42 l1_2))) ((Inv x9_2 l1_2 ∧ mu x9_2 l1_2 < mu x9 l1)))) (makeOk g.fNames g.fNames 24 ∧
 ∃ (Inv_3 : Int → (List (List Int)) → Prop) (mu_3 : Int → (List (List Int)) → Nat), Inv_3 0 (List.replicate (g.fNames).toNat ([] : List Int)) ∧
 ∀ (x68 : Int) (g3 : List (List Int)) , Inv_3 x68 g3 → (IfP (decide (x68 < ((List.replicate (g.fNames).toNat ([] : List Int)).length : Int))) (makeOk g.fNames g.fNames 8 ∧
 ∃ e_4, idx g3 x68 = some e_4 ∧
 (Inv_3 (wr (x68 + 1)) (g3.set (x68).toNat (List.replicate (g.fNames).toNat (0 : Int))) ∧ mu_3 (wr (x68 + 1)) (g3.set (x68).toNat (List.replicate (g.fNames).toNat (0 : Int))) < mu_3 x68 g3)) (∃ (Inv_4 : Int → (List (List Int)) → Prop) (mu_4 : Int → (List (List Int)) → Nat), Inv_4 0 g3 ∧
 ∀ (x80 : Int) (g3_2 : List (List Int)) , Inv_4 x80 g3_2 → (IfP (decide (x80 < (((tinyG.fMakes, ([1] : List Int))).1.length : Int))) (∃ e_5, idx ((tinyG.fMakes, ([1] : List Int))).1 x80 = some e_5 ∧
 ∃ (Inv_5 : Int → (List (List Int)) → Prop) (mu_5 : Int → (List (List Int)) → Nat), Inv_5 0 g3_2 ∧
 ∀ (x87 : Int) (g3_3 : List (List Int)) , Inv_5 x87 g3_3 → (IfP (decide (x87 < (e_5.fTo.length : Int))) (∃ J_3 : (List (List Int)) → Prop, (∃ e_6, idx e_5.fTo x87 = some e_6 ∧
 IfP (decide (e_6 < g.fLetters)) (J_3 g3_3) (∃ J_4 : Int → Prop, (partOk 0 x87 e_5.fTo.length ∧
 partOk (wr (x87 + 1)) (e_5.fTo.length : Int) e_5.fTo.length ∧
 (([((e_5.fTo.take (x87 : Int).toNat).drop (0 : Int).toNat), ((e_5.fTo.take ((e_5.fTo.length : Int) : Int).toNat).drop ((wr (x87 + 1)) : Int).toNat)] : List (List Int)).length ≤ 1000000 ∧ ([((e_5.fTo.take (x87 : Int).toNat).drop (0 : Int).toNat), ((e_5.fTo.take ((e_5.fTo.length : Int) : Int).toNat).drop ((wr (x87 + 1)) : Int).toNat)] : List (List Int)).flatten.length ≤ 1000000) ∧
 (∀ x_ ∈ (([((e_5.fTo.take (x87 : Int).toNat).drop (0 : Int).toNat), ((e_5.fTo.take ((e_5.fTo.length : Int) : Int).toNat).drop ((wr (x87 + 1)) : Int).toNat)] : List (List Int)).flatten), (hasFd g l1) x_) ∧
 IfP ((([((e_5.fTo.take (x87 : Int).toNat).drop (0 : Int).toNat), ((e_5.fTo.take ((e_5.fTo.length : Int) : Int).toNat).drop ((wr (x87 + 1)) : Int).toNat)] : List (List Int)).flatten).any (hasF g l1)) (J_4 2) (J_4 1)) ∧
 (∀ (x18 : Int), J_4 x18 → ∃ e_7, idx g3_3 e_5.fFrom = some e_7 ∧
 ∃ e_8, idx g3_3 e_5.fFrom = some e_8 ∧
 ∃ e_9, idx e_8 (wr (e_6 - g.fLetters)) = some e_9 ∧
 ∃ e_10, idx e_7 (wr (e_6 - g.fLetters)) = some e_10 ∧
 J_3 (g3_3.set (e_5.fFrom).toNat (e_7.set ((wr (e_6 - g.fLetters))).toNat (if x18 > e_9 then x18 else e_9)))))) ∧
 (∀ (g3_4 : List (List Int)), J_3 g3_4 → (Inv_5 (wr (x87 + 1)) g3_4 ∧ mu_5 (wr (x87 + 1)) g3_4 < mu_5 x87 g3_3))) ((Inv_4 (wr (x80 + 1)) g3_3 ∧ mu_4 (wr (x80 + 1)) g3_3 < mu_4 x80 g3_2)))) (∃ (Inv_6 : Int → (List (List Int)) → Prop) (mu_6 : Int → (List (List Int)) → Nat), Inv_6 0 g3_2 ∧
 ∀ (x136 : Int) (g3_5 : List (List Int)) , Inv_6 x136 g3_5 → (IfP (decide (x136 < (g3_2.length : Int))) (∃ (Inv_7 : Int → (List (List Int)) → Prop) (mu_7 : Int → (List (List Int)) → Nat), Inv_7 0 g3_5 ∧
 ∀ (x141 : Int) (g3_6 : List (List Int)) , Inv_7 x141 g3_6 → (IfP (decide (x141 < (g3_5.length : Int))) (∃ (Inv_8 : Int → (List (List Int)) → Prop) (mu_8 : Int → (List (List Int)) → Nat), Inv_8 0 g3_6 ∧
 ∀ (x146 : Int) (g3_7 : List (List Int)) , Inv_8 x146 g3_7 → (IfP (decide (x146 < (g3_6.length : Int))) (∃ J_5 : (List (List Int)) → Prop, (∃ e_11, idx g3_7 x141 = some e_11 ∧
 ∃ e_12, idx e_11 x136 = some e_12 ∧
 ∃ e_13, idx g3_7 x136 = some e_13 ∧
 ∃ e_14, idx e_13 x146 = some e_14 ∧
 IfP ((decide (e_12 > 0)) && (decide (e_14 > 0))) (∃ e_15, idx g3_7 x141 = some e_15 ∧
 ∃ e_16, idx g3_7 x141 = some e_16 ∧
 ∃ e_17, idx e_16 x146 = some e_17 ∧
 ∃ e_18, idx e_15 x146 = some e_18 ∧
 J_5 (g3_7.set (x141).toNat (e_15.set (x146).toNat (if e_14 > (if e_12 > e_17 then e_12 else e_17) then e_14 else (if e_12 > e_17 then e_12 else e_17))))) (J_5 g3_7)) ∧
 (∀ (g3_8 : List (List Int)), J_5 g3_8 → (Inv_8 (wr (x146 + 1)) g3_8 ∧ mu_8 (wr (x146 + 1)) g3_8 < mu_8 x146 g3_7))) ((Inv_7 (wr (x141 + 1)) g3_7 ∧ mu_7 (wr (x141 + 1)) g3_7 < mu_7 x141 g3_6)))) ((Inv_6 (wr (x136 + 1)) g3_6 ∧ mu_6 (wr (x136 + 1)) g3_6 < mu_6 x136 g3_5)))) (∃ (Inv_9 : Int → Prop) (mu_9 : Int → Nat), Inv_9 0 ∧
 ∀ (x190 : Int) , Inv_9 x190 → (IfP (decide (x190 < (g3_5.length : Int))) (∃ e_19, idx g3_5 x190 = some e_19 ∧
 ∃ e_20, idx e_19 x190 = some e_20 ∧
 IfP (e_20 == 2) (Q (true, 0)) ((Inv_9 (wr (x190 + 1)) ∧ mu_9 (wr (x190 + 1)) < mu_9 x190))) (Q (false, 0)))))))))))))
noncomputable abbrev qz0 := (LS ApiMake.ty (tinyG.fMakes, ([1] : List Int)).1)
noncomputable abbrev qz1 := (I ((tinyG.fMakes, ([1] : List Int)).1.length : Int))
noncomputable abbrev qz2 := (.box [.own 1] 91 false : Item)
noncomputable abbrev qz3 := sl 8 (.fn 40 [0, 2])
noncomputable abbrev qz4 := sl 12 (.gs 3 0)
noncomputable abbrev qz5 (g : ApiGrammar) := (ApiGrammar.cl g)
noncomputable abbrev qz6 := sl 1 (.ptr 0 0)
noncomputable abbrev qz7 (y0) := ([.gone, .gone, .gone, gridI 23 3 intT y0] : List Item)
noncomputable abbrev qz8 (g : ApiGrammar) := (List.replicate (g.fNames).toNat ([] : List Int))
noncomputable abbrev qz9 (g : ApiGrammar) (y0) (y1) := ([.box (qz5 g) 37 false, rowI 4 boolT y0, (qz2), .box (ApiMake.cl y1) 39 false] : List Item)
noncomputable abbrev qz10 (g : ApiGrammar) (y0) (y1) (y2) := ([.box (qz5 g) 37 false, rowI 4 boolT y0, (qz2), gridI 23 3 intT y1, .box (ApiMake.cl y2) 39 false, .gone, .gone] : List Item)
noncomputable abbrev qz11 (y0) := ([.gone, .gone, .gone, gridI 23 3 intT y0] : List Item)
noncomputable abbrev qz12 (g : ApiGrammar) (y0) (y1) (y2) := ([.box (qz5 g) 37 false, rowI 4 boolT y0, (qz2), gridI 23 3 intT y1, .box (ApiMake.cl y2) 39 false] : List Item)
noncomputable abbrev qz13 := sl 15 (.ptr 4 0)
noncomputable abbrev qz14 := sl 7 (.ptr 2 0)
noncomputable abbrev qz15 := (List (List Int))
noncomputable abbrev qz16 (y0 : Int) (y1 : Int) (y2 : Int) := (if y0 > (if y1 > y2 then y1 else y2) then y0 else (if y1 > y2 then y1 else y2))
noncomputable abbrev qz17 (y0) := sl 85 (LS intT y0)
noncomputable abbrev qz18 (g : ApiGrammar) := sl 67 (I ((qz8 g).length : Int))
noncomputable abbrev qz19 (g : ApiGrammar) (y0) (y1) := ([.box (qz5 g) 37 false, rowI 4 boolT y0, (qz2), gridI 23 3 intT y1] : List Item)
noncomputable abbrev qz20 (y0) := ([.gone, .gone, .gone, gridI 23 3 intT y0] : List Item)
noncomputable abbrev qz21 (y0) := ([.gone, .gone, .gone, gridI 23 3 intT y0] : List Item)
noncomputable abbrev qz22 (y0) := ([.gone, .gone, .gone, gridI 23 3 intT y0] : List Item)
noncomputable abbrev qz23 (y0) := ([.gone, .gone, .gone, .gone, .box (ApiMake.cl y0) 39 false] : List Item)
noncomputable abbrev qz24 (g : ApiGrammar) := ([.box (qz5 g) 37 false, rowI 4 boolT (List.replicate (g.fNames).toNat false), (qz2)] : List Item)
noncomputable abbrev qz25 (g : ApiGrammar) := (List.replicate (g.fNames).toNat (0 : Int))
noncomputable abbrev qz26 (g : ApiGrammar) (y0) (y1) := ([.box (qz5 g) 37 false, rowI 4 boolT y0, (qz2), gridI 23 3 intT y1] : List Item)
noncomputable abbrev qz27 (g : ApiGrammar) (y0) := ([.box (qz5 g) 37 false, rowI 4 boolT y0, (qz2)] : List Item)
noncomputable abbrev qz28 (g : ApiGrammar) (y0) (y1) (y2) := ([.box (qz5 g) 37 false, rowI 4 boolT y0, (qz2), gridI 23 3 intT y1, .box (ApiMake.cl y2) 39 false] : List Item)
set_option maxHeartbeats 2000000 in
theorem gLes_walk (g : ApiGrammar) (Q : (Bool × Int) → Prop) (h : gLes_vc g Q) : Ct 14 [.sv (.agg [I g.fLetters, I g.fNames, LS ApiMake.ty g.fMakes])] [] Q (fun (r : (Bool × Int)) => .tup [.one (B r.1), .one (I r.2)]) := by
 have ht := tab_ok
 refine Ct.body Try.func14 rfl rfl rfl rfl (fun c hn => ?_)
 unfold gLes_vc at h
 refine En.lenA 0 2 (by rfl) (by rfl) (fun hl => ?_)
 replace h := h hl
 clear hl
 refine En.sr ?_
 refine WL.rn ht hn 3 ⟨[qz6], [.box (qz5 g) 37 false]⟩ ?_
 refine En.seq ?_
 refine En.sr ?_
 refine WL.r ht hn 1 ⟨[qz6, (25, .sv (.agg (qz5 g)))], [.box (qz5 g) 37 false]⟩ ?_
 refine WL.m0 hn (mt_c (gChk_ct g) en38 rfl) ?_
 refine WL.rn ht hn 1 ⟨[qz6, sl 4 (I (grmErr g))], [.box (qz5 g) 37 false]⟩ ?_
 refine En.sr ?_
 refine WL.rn ht hn 2 ⟨[qz6, sl 4 (I (grmErr g)), sl 28 (B ((grmErr g) != 0))], [.box (qz5 g) 37 false]⟩ ?_
 refine En.ch h (fun h => ?_) (fun h => ?_)
 refine En.sr ?_
 refine WL.rn ht hn 3 ⟨[sl 2 (B false), sl 3 (I (grmErr g))], [.gone]⟩ ?_
 exact En.rb ht (false, (grmErr g)) h
 refine En.skip ?_
 refine En.sr ?_
 refine WL.r ht hn 1 ⟨[qz6, (31, .sv (.agg (qz5 g)))], [.box (qz5 g) 37 false]⟩ ?_
 obtain ⟨hp, h⟩ := h
 refine WL.m0 hn (mt_c (gUse_ct g hp) en39 rfl) ?_
 refine WL.rn ht hn 5 ⟨[qz6, sl 5 qz0], [.box (qz5 g) 37 false]⟩ ?_
 refine En.sr ?_
 refine WL.r ht hn 2 ⟨[qz6, sl 5 qz0, sl 36 (I g.fNames)], [.box (qz5 g) 37 false]⟩ ?_
 obtain ⟨hp, h⟩ := h
 refine WL.mt0 (K := []) (p := some (1, rowI 4 boolT (List.replicate (g.fNames).toNat false))) hn (by rfl) (mt_make (T := boolT) false (zv := (.bool false)) 1 (l := g.fNames) (cp := g.fNames) ht rfl (by rfl) (by rfl) (by rfl) (by rfl) (by decide) (by rfl) (by rfl) hp.1 hp.2.1 hp.2.2 (hp.le (by decide)) rfl (fun _ => ⟨rfl, trivial⟩)) (by rfl) (by rfl) (by rfl) ?_
 refine WL.rn ht hn 2 ⟨[qz6, sl 5 qz0, qz14], (qz24 g)⟩ ?_
 refine En.sr ?_
 refine WL.rn ht hn 2 ⟨[qz6, sl 5 qz0, qz14, qz3], (qz24 g)⟩ ?_
 refine En.seq ?_
 refine En.sr ?_
 refine WL.rn ht hn 1 ⟨[qz6, sl 5 qz0, qz14, qz3, sl 9 (B true)], (qz24 g)⟩ ?_
 refine En.block ?_
 obtain ⟨Inv, mu, h0_9, hI_9⟩ := h
 refine En.loop (σ := Bool × (List Bool)) (fun zz => Inv zz.1 zz.2) (fun zz => mu zz.1 zz.2) (fun zz => ⟨[qz6, sl 5 qz0, qz14, qz3, sl 9 (B zz.1)], [.box (qz5 g) 37 false, rowI 4 boolT zz.2, qz2]⟩) (true, (List.replicate (g.fNames).toNat false)) h0_9 (sub_ok (by kernel_rfl)) ?_
 rintro ⟨x9, l1⟩ h
 replace h := hI_9 _ _ h
 show En c ⟨[qz6, sl 5 qz0, qz14, qz3, sl 9 (B x9)], (qz27 g l1)⟩ _
 refine En.seq ?_
 refine En.sr ?_
 refine WL.rn ht hn 1 ⟨[qz6, sl 5 qz0, qz14, qz3, sl 39 (B x9)], (qz27 g l1)⟩ ?_
 refine En.ch h (fun h => ?_) (fun h => ?_)
 refine En.skip ?_
 refine En.block ?_
 refine En.sr ?_
 refine WL.rn ht hn 1 ⟨[qz6, sl 5 qz0, qz14, qz3, sl 9 (B false)], (qz27 g l1)⟩ ?_
 refine En.sr ?_
 refine WL.rn ht hn 3 ⟨[qz6, sl 5 qz0, qz14, qz3, sl 9 (B false), sl 40 qz0, sl 41 qz1, sl 42 (I 0)], (qz27 g l1)⟩ ?_
 refine En.block ?_
 obtain ⟨Inv_2, mu_2, h0, hI⟩ := h
 refine En.loop (σ := Bool × Int × (List Bool)) (fun zz => Inv_2 zz.1 zz.2.1 zz.2.2) (fun zz => mu_2 zz.1 zz.2.1 zz.2.2) (fun zz => ⟨[qz6, sl 5 qz0, qz14, qz3, sl 9 (B zz.1), sl 40 qz0, sl 41 qz1, sl 42 (I zz.2.1)], [.box (qz5 g) 37 false, rowI 4 boolT zz.2.2, qz2]⟩) (false, 0, l1) h0 (sub_ok (by kernel_rfl)) ?_
 rintro ⟨x9_2, x42, l1_2⟩ h
 replace h := hI _ _ _ h
 show En c ⟨[qz6, sl 5 qz0, qz14, qz3, sl 9 (B x9_2), sl 40 qz0, sl 41 qz1, sl 42 (I x42)], [.box (qz5 g) 37 false, rowI 4 boolT l1_2, qz2]⟩ _
 refine En.sr ?_
 refine WL.rn ht hn 1 ⟨[qz6, sl 5 qz0, qz14, qz3, sl 9 (B x9_2), sl 40 qz0, sl 41 qz1, sl 42 (I x42), sl 43 (B (decide (x42 < ((tinyG.fMakes, ([1] : List Int)).1.length : Int))))], [.box (qz5 g) 37 false, rowI 4 boolT l1_2, qz2]⟩ ?_
 refine En.seq ?_
 refine En.ch h (fun h => ?_) (fun h => ?_)
 refine En.skip ?_
 obtain ⟨J, h, hJ⟩ := h
 refine En.seqJ (σ := Bool × (List Bool)) (fun zz => J zz.1 zz.2) (fun zz => ⟨[qz6, sl 5 qz0, qz14, qz3, sl 9 (B zz.1), sl 40 qz0, sl 41 qz1, sl 42 (I x42)], [.box (qz5 g) 37 false, rowI 4 boolT zz.2, qz2, .gone]⟩) ?_ ?_
 refine En.block ?_
 refine En.sr ?_
 obtain ⟨e, he, h⟩ := h
 refine WL.v hn (val_ix (T := ApiMake.ty) (l := (tinyG.fMakes, ([1] : List Int)).1) (i := x42) ht rfl he) ?_
 refine WL.v hn (val_ld (s := .agg (ApiMake.cl e)) ht rfl) ?_
 refine WL.rn ht hn 2 ⟨[qz6, sl 5 qz0, qz14, qz3, sl 9 (B x9_2), sl 11 (.ptr 3 0), sl 40 qz0, sl 41 qz1, sl 42 (I x42)], (qz9 g l1_2 e)⟩ ?_
 obtain ⟨J_2, h, hJ_2⟩ := h
 refine En.seqJ (σ := Bool) (fun zz => J_2 zz) (fun zz => ⟨[qz6, sl 5 qz0, qz14, qz3, sl 9 (B x9_2), sl 11 (.ptr 3 0), sl 40 qz0, sl 41 qz1, sl 42 (I x42), sl 57 (B zz)], (qz9 g l1_2 e)⟩) ?_ ?_
 refine En.region ?_
 refine WL.r ht hn 3 ⟨[qz6, sl 5 qz0, qz14, qz3, sl 9 (B x9_2), sl 11 (.ptr 3 0), sl 40 qz0, sl 41 qz1, sl 42 (I x42), sl 46 (.own 1), sl 48 (I e.fFrom)], (qz9 g l1_2 e)⟩ ?_
 obtain ⟨e_2, he_2, h⟩ := h
 refine WL.v hn (val_indexO (T := boolT) (l := l1_2) (k := e.fFrom) ht rfl (by rfl) (by rfl) (by rfl) (by rfl) (by decide) (by rfl) (by rfl) (by rfl) he_2) ?_
 refine WL.v hn (val_loadO (T := boolT) (l := l1_2) (y := e_2) ht rfl (by rfl) (by rfl) (by rfl) (by rfl) (by rfl) (idx_some he_2).2.2 (by rfl)) ?_
 refine WL.r ht hn 2 ⟨[qz6, sl 5 qz0, qz14, qz3, sl 9 (B x9_2), sl 11 (.ptr 3 0), sl 40 qz0, sl 41 qz1, sl 42 (I x42), sl 52 (B (!e_2))], (qz9 g l1_2 e)⟩ ?_
 refine splitB (!e_2) (fun hb => ?_) (fun hb => ?_)
 replace h := h.1 hb
 refine WL.sB 52 hb ?_
 refine WL.r ht hn 3 ⟨[qz6, sl 5 qz0, qz14, qz3, sl 9 (B x9_2), sl 11 (.ptr 3 0), sl 40 qz0, sl 41 qz1, sl 42 (I x42), sl 52 (B true), sl 54 (LS intT e.fTo), sl 55 (.fn 40 [0, 2])], (qz9 g l1_2 e)⟩ ?_
 obtain ⟨hp, h⟩ := h
 refine WL.m0 hn (mt_lend (T := boolT) (l := l1_2) 1 (by rfl) (by rfl) (mt_lendF [0, 2] (by rfl) (by rfl) (mt_ghost 55 (o1 (.rd (fvR (fun (x_ : Int) => [.sv (.one (I x_))]) (fun (r : Bool) => .sv (.one (B r))) (hasFd g l1_2) (hasF g l1_2)))) (by rfl) (fv_of (M := [.box (qz5 g) 37 true, .box [LS boolT l1_2] 91 true]) (caps := [0, 2]) (fun x_ hx => gHas_ct x_ g l1_2 hx) en40 rfl (by kernel_rfl) (by rfl) (fun _ => rfl)) (mt_c (anyInt_ct e.fTo (hasFd g l1_2) (hasF g l1_2) hp) en41 rfl)))) ?_
 refine WL.rn ht hn 1 ⟨[qz6, sl 5 qz0, qz14, qz3, sl 9 (B x9_2), sl 11 (.ptr 3 0), sl 40 qz0, sl 41 qz1, sl 42 (I x42), sl 57 (B (e.fTo.any (hasF g l1_2)))], (qz9 g l1_2 e)⟩ ?_
 exact En.at (I := fun zz => J_2 zz) (T := fun zz => ⟨[qz6, sl 5 qz0, qz14, qz3, sl 9 (B x9_2), sl 11 (.ptr 3 0), sl 40 qz0, sl 41 qz1, sl 42 (I x42), sl 57 (B zz)], (qz9 g l1_2 e)⟩) (e.fTo.any (hasF g l1_2)) h (by kernel_rfl)
 replace h := h.2 hb
 refine WL.sB 52 hb ?_
 refine WL.rn ht hn 5 ⟨[qz6, sl 5 qz0, qz14, qz3, sl 9 (B x9_2), sl 11 (.ptr 3 0), sl 40 qz0, sl 41 qz1, sl 42 (I x42), sl 57 (B false)], (qz9 g l1_2 e)⟩ ?_
 exact En.at (I := fun zz => J_2 zz) (T := fun zz => ⟨[qz6, sl 5 qz0, qz14, qz3, sl 9 (B x9_2), sl 11 (.ptr 3 0), sl 40 qz0, sl 41 qz1, sl 42 (I x42), sl 57 (B zz)], (qz9 g l1_2 e)⟩) false h (by kernel_rfl)
 intro x57 h
 replace h := hJ_2 _ h
 show En c ⟨[qz6, sl 5 qz0, qz14, qz3, sl 9 (B x9_2), sl 11 (.ptr 3 0), sl 40 qz0, sl 41 qz1, sl 42 (I x42), sl 57 (B x57)], (qz9 g l1_2 e)⟩ _
 refine En.ch h (fun h => ?_) (fun h => ?_)
 refine En.region ?_
 refine WL.r ht hn 3 ⟨[qz6, sl 5 qz0, qz14, qz3, sl 40 qz0, sl 41 qz1, sl 42 (I x42), sl 58 (.own 1), sl 60 (I e.fFrom)], [.box (qz5 g) 37 false, rowI 4 boolT l1_2, qz2, .gone]⟩ ?_
 obtain ⟨e_3, he_3, h⟩ := h
 refine WL.v hn (val_indexO (T := boolT) (l := l1_2) (k := e.fFrom) ht rfl (by rfl) (by rfl) (by rfl) (by rfl) (by decide) (by rfl) (by rfl) (by rfl) he_3) ?_
 refine WL.storeO (T := boolT) (l := l1_2) (y := true) ht hn (by rfl) rfl (by rfl) (by rfl) (fun _ h => by cases h) (by rfl) (by rfl) (idx_lt he_3) (by rfl) (by rfl) (by rfl) (by rfl) ?_
 refine WL.rn ht hn 1 ⟨[qz6, sl 5 qz0, qz14, qz3, sl 9 (B true), sl 40 qz0, sl 41 qz1, sl 42 (I x42)], [.box (qz5 g) 37 false, rowI 4 boolT (l1_2.set (e.fFrom).toNat true), qz2, .gone]⟩ ?_
 exact En.at (I := fun zz => J zz.1 zz.2) (T := fun zz => ⟨[qz6, sl 5 qz0, qz14, qz3, sl 9 (B zz.1), sl 40 qz0, sl 41 qz1, sl 42 (I x42)], [.box (qz5 g) 37 false, rowI 4 boolT zz.2, qz2, .gone]⟩) (true, (l1_2.set (e.fFrom).toNat true)) h (by kernel_rfl)
 refine En.skip ?_
 exact En.at (I := fun zz => J zz.1 zz.2) (T := fun zz => ⟨[qz6, sl 5 qz0, qz14, qz3, sl 9 (B zz.1), sl 40 qz0, sl 41 qz1, sl 42 (I x42)], [.box (qz5 g) 37 false, rowI 4 boolT zz.2, qz2, .gone]⟩) (x9_2, l1_2) h (by kernel_rfl)
 rintro ⟨x9_3, l1_3⟩ h
 replace h := hJ _ _ h
 show En c ⟨[qz6, sl 5 qz0, qz14, qz3, sl 9 (B x9_3), sl 40 qz0, sl 41 qz1, sl 42 (I x42)], [.box (qz5 g) 37 false, rowI 4 boolT l1_3, qz2, .gone]⟩ _
 refine En.region ?_
 refine WL.rn ht hn 2 ⟨[qz6, sl 5 qz0, qz14, qz3, sl 9 (B x9_3), sl 40 qz0, sl 41 qz1, sl 42 (I (wr (x42 + 1)))], [.box (qz5 g) 37 false, rowI 4 boolT l1_3, qz2, .gone]⟩ ?_
 exact En.at (I := fun zz => Inv_2 zz.1 zz.2.1 zz.2.2 ∧ mu_2 zz.1 zz.2.1 zz.2.2 < mu_2 x9_2 x42 l1_2) (T := fun zz => ⟨[qz6, sl 5 qz0, qz14, qz3, sl 9 (B zz.1), sl 40 qz0, sl 41 qz1, sl 42 (I zz.2.1)], [.box (qz5 g) 37 false, rowI 4 boolT zz.2.2, qz2]⟩) (x9_3, (wr (x42 + 1)), l1_3) h (by kernel_rfl)
 refine En.exit rfl ?_
 exact En.at (I := fun zz => Inv zz.1 zz.2 ∧ mu zz.1 zz.2 < mu x9 l1) (T := fun zz => ⟨[qz6, sl 5 qz0, qz14, qz3, sl 9 (B zz.1)], [.box (qz5 g) 37 false, rowI 4 boolT zz.2, qz2]⟩) (x9_2, l1_2) h (by kernel_rfl)
 refine En.exit rfl ?_
 refine En.sr ?_
 refine WL.r ht hn 2 ⟨[qz6, sl 5 qz0, qz3, sl 64 (I g.fNames)], (qz27 g l1)⟩ ?_
 obtain ⟨hp, h⟩ := h
 refine WL.mt0 (K := []) (p := some (3, gridI 23 3 intT (qz8 g))) hn (by rfl) (mt_makeG intT 3 (zv := .slice none 0 0) 3 (l := g.fNames) (cp := g.fNames) ht rfl (by rfl) (by rfl) (by rfl) (by rfl) (by rfl) (by rfl) hp.1 hp.2.1 hp.2.2 (hp.le (by decide)) rfl rfl) (by rfl) (by rfl) (by rfl) ?_
 refine WL.rn ht hn 1 ⟨[qz6, sl 5 qz0, qz3, qz4], [.box (qz5 g) 37 false, rowI 4 boolT l1, qz2, gridI 23 3 intT (qz8 g)]⟩ ?_
 refine En.seq ?_
 refine En.sr ?_
 refine WL.r ht hn 1 ⟨[qz6, sl 5 qz0, qz3, qz4, sl 66 (.gs 3 0)], [.box (qz5 g) 37 false, rowI 4 boolT l1, qz2, gridI 23 3 intT (qz8 g)]⟩ ?_
 refine WL.v hn (val_lenG0 (T := intT) (L := (qz8 g)) ht rfl (by rfl) (by rfl) (by rfl) (by rfl)) ?_
 refine WL.rn ht hn 1 ⟨[qz6, sl 5 qz0, qz3, qz4, qz18 g, sl 68 (I 0)], [.box (qz5 g) 37 false, rowI 4 boolT l1, qz2, gridI 23 3 intT (qz8 g)]⟩ ?_
 refine En.block ?_
 obtain ⟨Inv_3, mu_3, h0_8, hI_8⟩ := h
 refine En.loop (σ := Int × qz15) (fun zz => Inv_3 zz.1 zz.2) (fun zz => mu_3 zz.1 zz.2) (fun zz => ⟨[qz6, sl 5 qz0, qz3, qz4, qz18 g, sl 68 (I zz.1)], (qz26 g l1 zz.2)⟩) (0, (qz8 g)) h0_8 (sub_ok (by kernel_rfl)) ?_
 rintro ⟨x68, g3⟩ h
 replace h := hI_8 _ _ h
 show En c ⟨[qz6, sl 5 qz0, qz3, qz4, qz18 g, sl 68 (I x68)], (qz19 g l1 g3)⟩ _
 refine En.sr ?_
 refine WL.rn ht hn 1 ⟨[qz6, sl 5 qz0, qz3, qz4, qz18 g, sl 68 (I x68), sl 69 (B (decide (x68 < ((qz8 g).length : Int))))], (qz19 g l1 g3)⟩ ?_
 refine En.seq ?_
 refine En.ch h (fun h => ?_) (fun h => ?_)
 refine En.skip ?_
 refine En.seq ?_
 refine En.block ?_
 refine En.sr ?_
 refine WL.rn ht hn 2 ⟨[qz6, sl 5 qz0, qz3, qz4, sl 13 (I x68), qz18 g, sl 68 (I x68)], (qz19 g l1 g3)⟩ ?_
 refine En.region ?_
 refine WL.r ht hn 4 ⟨[qz6, sl 5 qz0, qz3, qz4, qz18 g, sl 68 (I x68), sl 71 (.gs 3 0), sl 72 (I x68), sl 74 (I g.fNames)], (qz19 g l1 g3)⟩ ?_
 obtain ⟨hp, h⟩ := h
 refine WL.mt0 (K := []) (p := some (4, rowI 3 intT (qz25 g))) hn (by rfl) (mt_make (T := intT) (0 : Int) (zv := (.int .i64 0)) 4 (l := g.fNames) (cp := g.fNames) ht rfl (by rfl) (by rfl) (by rfl) (by rfl) (by decide) (by rfl) (by rfl) hp.1 hp.2.1 hp.2.2 (hp.le (by decide)) rfl (fun _ => ⟨rfl, trivial⟩)) (by rfl) (by rfl) (by rfl) ?_
 obtain ⟨e_4, he_4, h⟩ := h
 refine WL.v hn (val_indexG0 (T := intT) (L := g3) (k := x68) ht rfl (by rfl) (by rfl) (by rfl) (by rfl) (by rfl) (by rfl) (by rfl) ⟨(idx_some he_4).1, (idx_some he_4).2.1⟩) ?_
 refine WL.putG (T := intT) (L := g3) (l := (qz25 g)) ht hn (by rfl) rfl (by rfl) (by rfl) (by rfl) (by rfl) (by rfl) (by rfl) (idx_lt he_4) (by rfl) (by rfl) ?_
 refine WL.sub ⟨[qz6, sl 5 qz0, qz3, qz4, qz18 g, sl 68 (I x68), sl 71 (.gs 3 0), sl 72 (I x68), sl 74 (I g.fNames)], [.box (qz5 g) 37 false, rowI 4 boolT l1, qz2, gridI 23 3 intT (g3.set (x68).toNat (qz25 g)), .gone]⟩ (by kernel_rfl) ?_
 refine WL.nil ?_
 refine En.region ?_
 refine WL.rn ht hn 2 ⟨[qz6, sl 5 qz0, qz3, qz4, qz18 g, sl 68 (I (wr (x68 + 1)))], [.box (qz5 g) 37 false, rowI 4 boolT l1, qz2, gridI 23 3 intT (g3.set (x68).toNat (qz25 g)), .gone]⟩ ?_
 exact En.at (I := fun zz => Inv_3 zz.1 zz.2 ∧ mu_3 zz.1 zz.2 < mu_3 x68 g3) (T := fun zz => ⟨[qz6, sl 5 qz0, qz3, qz4, qz18 g, sl 68 (I zz.1)], (qz26 g l1 zz.2)⟩) ((wr (x68 + 1)), (g3.set (x68).toNat (qz25 g))) h (by kernel_rfl)
 refine En.exit rfl ?_
 refine En.seq ?_
 refine En.sr ?_
 refine WL.rn ht hn 3 ⟨[qz6, qz3, qz4, sl 78 qz0, sl 79 qz1, sl 80 (I 0)], (qz19 g l1 g3)⟩ ?_
 refine En.block ?_
 obtain ⟨Inv_4, mu_4, h0_7, hI_7⟩ := h
 refine En.loop (σ := Int × qz15) (fun zz => Inv_4 zz.1 zz.2) (fun zz => mu_4 zz.1 zz.2) (fun zz => ⟨[qz6, qz3, qz4, sl 78 qz0, sl 79 qz1, sl 80 (I zz.1)], (qz26 g l1 zz.2)⟩) (0, g3) h0_7 (sub_ok (by kernel_rfl)) ?_
 rintro ⟨x80, g3_2⟩ h
 replace h := hI_7 _ _ h
 show En c ⟨[qz6, qz3, qz4, sl 78 qz0, sl 79 qz1, sl 80 (I x80)], [.box (qz5 g) 37 false, rowI 4 boolT l1, qz2, gridI 23 3 intT g3_2]⟩ _
 refine En.sr ?_
 refine WL.rn ht hn 1 ⟨[qz6, qz3, qz4, sl 78 qz0, sl 79 qz1, sl 80 (I x80), sl 81 (B (decide (x80 < ((tinyG.fMakes, ([1] : List Int)).1.length : Int))))], [.box (qz5 g) 37 false, rowI 4 boolT l1, qz2, gridI 23 3 intT g3_2]⟩ ?_
 refine En.seq ?_
 refine En.ch h (fun h => ?_) (fun h => ?_)
 refine En.skip ?_
 refine En.seq ?_
 refine En.block ?_
 refine En.sr ?_
 obtain ⟨e_5, he_5, h⟩ := h
 refine WL.v hn (val_ix (T := ApiMake.ty) (l := (tinyG.fMakes, ([1] : List Int)).1) (i := x80) ht rfl he_5) ?_
 refine WL.v hn (val_ld (s := .agg (ApiMake.cl e_5)) ht rfl) ?_
 refine WL.rn ht hn 2 ⟨[qz6, qz3, qz4, qz13, sl 78 qz0, sl 79 qz1, sl 80 (I x80)], [.box (qz5 g) 37 false, rowI 4 boolT l1, qz2, gridI 23 3 intT g3_2, .box (ApiMake.cl e_5) 39 false]⟩ ?_
 refine En.sr ?_
 refine WL.rn ht hn 4 ⟨[qz6, qz3, qz4, qz13, sl 78 qz0, sl 79 qz1, sl 80 (I x80), qz17 e_5.fTo, sl 86 (I (e_5.fTo.length : Int)), sl 87 (I 0)], [.box (qz5 g) 37 false, rowI 4 boolT l1, qz2, gridI 23 3 intT g3_2, .box (ApiMake.cl e_5) 39 false]⟩ ?_
 refine En.block ?_
 obtain ⟨Inv_5, mu_5, h0_2, hI_2⟩ := h
 refine En.loop (σ := Int × qz15) (fun zz => Inv_5 zz.1 zz.2) (fun zz => mu_5 zz.1 zz.2) (fun zz => ⟨[qz6, qz3, qz4, qz13, sl 78 qz0, sl 79 qz1, sl 80 (I x80), qz17 e_5.fTo, sl 86 (I (e_5.fTo.length : Int)), sl 87 (I zz.1)], [.box (qz5 g) 37 false, rowI 4 boolT l1, qz2, gridI 23 3 intT zz.2, .box (ApiMake.cl e_5) 39 false]⟩) (0, g3_2) h0_2 (sub_ok (by kernel_rfl)) ?_
 rintro ⟨x87, g3_3⟩ h
 replace h := hI_2 _ _ h
 show En c ⟨[qz6, qz3, qz4, qz13, sl 78 qz0, sl 79 qz1, sl 80 (I x80), qz17 e_5.fTo, sl 86 (I (e_5.fTo.length : Int)), sl 87 (I x87)], (qz12 g l1 g3_3 e_5)⟩ _
 refine En.sr ?_
 refine WL.rn ht hn 1 ⟨[qz6, qz3, qz4, qz13, sl 78 qz0, sl 79 qz1, sl 80 (I x80), qz17 e_5.fTo, sl 86 (I (e_5.fTo.length : Int)), sl 87 (I x87), sl 88 (B (decide (x87 < (e_5.fTo.length : Int))))], (qz12 g l1 g3_3 e_5)⟩ ?_
 refine En.seq ?_
 refine En.ch h (fun h => ?_) (fun h => ?_)
 refine En.skip ?_
 obtain ⟨J_3, h, hJ_3⟩ := h
 refine En.seqJ (σ := qz15) (fun zz => J_3 zz) (fun zz => ⟨[qz6, qz3, qz4, qz13, sl 78 qz0, sl 79 qz1, sl 80 (I x80), qz17 e_5.fTo, sl 86 (I (e_5.fTo.length : Int)), sl 87 (I x87)], (qz28 g l1 zz e_5)⟩) ?_ ?_
 refine En.block ?_
 refine En.sr ?_
 refine WL.r ht hn 1 ⟨[qz6, qz3, qz4, qz13, sl 78 qz0, sl 79 qz1, sl 80 (I x80), qz17 e_5.fTo, sl 86 (I (e_5.fTo.length : Int)), sl 87 (I x87), sl 89 (I x87)], (qz12 g l1 g3_3 e_5)⟩ ?_
 obtain ⟨e_6, he_6, h⟩ := h
 refine WL.v hn (val_ix (T := intT) (l := e_5.fTo) (i := x87) ht rfl he_6) ?_
 refine WL.v hn (val_ld (s := .one (I e_6)) ht rfl) ?_
 refine WL.rn ht hn 2 ⟨[qz6, qz3, qz4, qz13, sl 16 (I x87), sl 17 (I e_6), sl 78 qz0, sl 79 qz1, sl 80 (I x80), qz17 e_5.fTo, sl 86 (I (e_5.fTo.length : Int)), sl 87 (I x87)], (qz12 g l1 g3_3 e_5)⟩ ?_
 refine En.seq ?_
 refine En.sr ?_
 refine WL.rn ht hn 4 ⟨[qz6, qz3, qz4, qz13, sl 16 (I x87), sl 17 (I e_6), sl 78 qz0, sl 79 qz1, sl 80 (I x80), qz17 e_5.fTo, sl 86 (I (e_5.fTo.length : Int)), sl 87 (I x87), sl 95 (B (decide (e_6 < g.fLetters)))], (qz12 g l1 g3_3 e_5)⟩ ?_
 refine En.ch h (fun h => ?_) (fun h => ?_)
 refine En.exit rfl ?_
 exact En.at (I := fun zz => J_3 zz) (T := fun zz => ⟨[qz6, qz3, qz4, qz13, sl 78 qz0, sl 79 qz1, sl 80 (I x80), qz17 e_5.fTo, sl 86 (I (e_5.fTo.length : Int)), sl 87 (I x87)], (qz28 g l1 zz e_5)⟩) g3_3 h (by kernel_rfl)
 refine En.skip ?_
 refine En.sr ?_
 refine WL.rn ht hn 1 ⟨[qz6, qz3, qz4, qz13, sl 16 (I x87), sl 17 (I e_6), sl 18 (I 1), sl 78 qz0, sl 79 qz1, sl 80 (I x80), qz17 e_5.fTo, sl 86 (I (e_5.fTo.length : Int)), sl 87 (I x87)], (qz12 g l1 g3_3 e_5)⟩ ?_
 obtain ⟨J_4, h, hJ_4⟩ := h
 refine En.seqJ (σ := Int) (fun zz => J_4 zz) (fun zz => ⟨[qz6, qz3, qz4, qz13, sl 17 (I e_6), sl 18 (I zz), sl 78 qz0, sl 79 qz1, sl 80 (I x80), qz17 e_5.fTo, sl 86 (I (e_5.fTo.length : Int)), sl 87 (I x87)], (qz10 g l1 g3_3 e_5)⟩) ?_ ?_
 refine En.seq ?_
 obtain ⟨hp_2, h⟩ := h
 obtain ⟨hp_3, h⟩ := h
 obtain ⟨hp_4, h⟩ := h
 obtain ⟨hp_5, h⟩ := h
 refine En.regionA ⟨[qz6, qz3, qz4, qz13, sl 16 (I x87), sl 17 (I e_6), sl 18 (I 1), sl 78 qz0, sl 79 qz1, sl 80 (I x80), qz17 e_5.fTo, sl 86 (I (e_5.fTo.length : Int)), sl 87 (I x87)], [.sv (.one (.ptr 4 1)), .sv (.one (LS intT e_5.fTo)), .sv (.one (I x87)), .sv (.one (LS intT ((e_5.fTo.take (x87 : Int).toNat).drop (0 : Int).toNat))), .sv (.one (.ptr 4 1)), .sv (.one (LS intT e_5.fTo)), .sv (.one (I x87)), .sv (.one (I (wr (x87 + 1)))), .sv (.one (LS intT ((e_5.fTo.take ((e_5.fTo.length : Int) : Int).toNat).drop ((wr (x87 + 1)) : Int).toNat))), .sv (.one (.own 5)), .sv (.one (.own 6)), .sv (.one (.fn 40 [0, 2])), .sv (.one (B ((([((e_5.fTo.take (x87 : Int).toNat).drop (0 : Int).toNat), ((e_5.fTo.take ((e_5.fTo.length : Int) : Int).toNat).drop ((wr (x87 + 1)) : Int).toNat)] : qz15).flatten).any (hasF g l1))))], [⟨.box (qz5 g) 37 false, none, none, none⟩, ⟨rowI 4 boolT l1, none, none, none⟩, ⟨(qz2), none, none, none⟩, ⟨gridI 23 3 intT g3_3, none, none, none⟩, ⟨.box (ApiMake.cl e_5) 39 false, none, none, none⟩, ⟨rowI 23 (lsT intT) ([((e_5.fTo.take (x87 : Int).toNat).drop (0 : Int).toNat), ((e_5.fTo.take ((e_5.fTo.length : Int) : Int).toNat).drop ((wr (x87 + 1)) : Int).toNat)] : qz15), some 9, none, none⟩, ⟨rowI 3 intT ([((e_5.fTo.take (x87 : Int).toNat).drop (0 : Int).toNat), ((e_5.fTo.take ((e_5.fTo.length : Int) : Int).toNat).drop ((wr (x87 + 1)) : Int).toNat)] : qz15).flatten, some 10, none, none⟩]⟩ ⟨[qz6, qz3, qz4, qz13, sl 17 (I e_6), sl 18 (I 1), sl 78 qz0, sl 79 qz1, sl 80 (I x80), qz17 e_5.fTo, sl 86 (I (e_5.fTo.length : Int)), sl 87 (I x87), sl 108 (B ((([((e_5.fTo.take (x87 : Int).toNat).drop (0 : Int).toNat), ((e_5.fTo.take ((e_5.fTo.length : Int) : Int).toNat).drop ((wr (x87 + 1)) : Int).toNat)] : qz15).flatten).any (hasF g l1)))], (qz10 g l1 g3_3 e_5)⟩ (by kernel_rfl) hn (by kernel_rfl) (by rfl) (by kernel_rfl) ?_ (by kernel_rfl) ?_
 exact ⟨.ev ⟨[qz13], []⟩ ht,
 .ev ⟨[sl 96 (.ptr 4 1)], (qz23 e_5)⟩ ht,
 .ev ⟨[sl 16 (I x87)], []⟩ ht,
 .vl ⟨[sl 97 (LS intT e_5.fTo), sl 98 (I x87)], []⟩ (mt_val (val_slice (T := intT) (l := e_5.fTo) (lv := 0) (hv := x87) ht rfl (by rfl) (by rfl) (by rfl) (by rfl) (by rfl) (by rfl) (by rfl) hp_2)),
 .ev ⟨[qz13], []⟩ ht,
 .ev ⟨[sl 100 (.ptr 4 1)], (qz23 e_5)⟩ ht,
 .ev ⟨[sl 16 (I x87)], []⟩ ht,
 .ev ⟨[sl 102 (I x87)], []⟩ ht,
 .vl ⟨[sl 101 (LS intT e_5.fTo), sl 103 (I (wr (x87 + 1)))], []⟩ (mt_val (val_slice (T := intT) (l := e_5.fTo) (lv := (wr (x87 + 1))) (hv := (e_5.fTo.length : Int)) ht rfl (by rfl) (by rfl) (by rfl) (by rfl) (by rfl) (by rfl) (by rfl) hp_3)),
 .mt ⟨[sl 99 (LS intT ((e_5.fTo.take (x87 : Int).toNat).drop (0 : Int).toNat)), sl 104 (LS intT ((e_5.fTo.take ((e_5.fTo.length : Int) : Int).toNat).drop ((wr (x87 + 1)) : Int).toNat))], []⟩ [] (some 5) (by kernel_rfl) (by rfl) (mt_lit (T := (lsT intT)) ([((e_5.fTo.take (x87 : Int).toNat).drop (0 : Int).toNat), ((e_5.fTo.take ((e_5.fTo.length : Int) : Int).toNat).drop ((wr (x87 + 1)) : Int).toNat)] : qz15) (mt_bsl 5 (r := cellsOf (lsT intT) ([((e_5.fTo.take (x87 : Int).toNat).drop (0 : Int).toNat), ((e_5.fTo.take ((e_5.fTo.length : Int) : Int).toNat).drop ((wr (x87 + 1)) : Int).toNat)] : qz15)) ht rfl (by rfl) (by rfl) (by rfl) (by kernel_rfl) (by rfl)) (fun _ h => by cases h) (fun _ => rfl) (fun _ => rfl) (by rfl) (Nat.le_of_ble_eq_true rfl)) rfl rfl rfl rfl,
 .mt ⟨[sl 105 (.own 5)], [.gone, .gone, .gone, .gone, .gone, rowI 23 (lsT intT) ([((e_5.fTo.take (x87 : Int).toNat).drop (0 : Int).toNat), ((e_5.fTo.take ((e_5.fTo.length : Int) : Int).toNat).drop ((wr (x87 + 1)) : Int).toNat)] : qz15)]⟩ [] (some 6) (by kernel_rfl) (by rfl) (mt_lendI (T := (lsT intT)) (l := ([((e_5.fTo.take (x87 : Int).toNat).drop (0 : Int).toNat), ((e_5.fTo.take ((e_5.fTo.length : Int) : Int).toNat).drop ((wr (x87 + 1)) : Int).toNat)] : qz15)) 5 (by rfl) (plain_row fun _ => rfl) (mt_callI 6 (concatI_ct ([((e_5.fTo.take (x87 : Int).toNat).drop (0 : Int).toNat), ((e_5.fTo.take ((e_5.fTo.length : Int) : Int).toNat).drop ((wr (x87 + 1)) : Int).toNat)] : qz15) hp_4) en42 (caps := []) [] rfl rfl (by rfl) (by kernel_rfl) (by kernel_rfl) (by rfl) (by rfl))) rfl rfl rfl rfl,
 .ev ⟨[qz3], []⟩ ht,
 .mt ⟨[sl 106 (.own 6), sl 107 (.fn 40 [0, 2])], [.box (qz5 g) 37 false, rowI 4 boolT l1, qz2, .gone, .gone, .gone, rowI 3 intT ([((e_5.fTo.take (x87 : Int).toNat).drop (0 : Int).toNat), ((e_5.fTo.take ((e_5.fTo.length : Int) : Int).toNat).drop ((wr (x87 + 1)) : Int).toNat)] : qz15).flatten]⟩ [] none (by kernel_rfl) (by rfl) (mt_lend (T := intT) (l := ([((e_5.fTo.take (x87 : Int).toNat).drop (0 : Int).toNat), ((e_5.fTo.take ((e_5.fTo.length : Int) : Int).toNat).drop ((wr (x87 + 1)) : Int).toNat)] : qz15).flatten) 6 (by rfl) (by rfl) (mt_lend (T := boolT) (l := l1) 1 (by rfl) (by rfl) (mt_lendF [0, 2] (by rfl) (by rfl) (mt_ghost 107 (o1 (.rd (fvR (fun (x_ : Int) => [.sv (.one (I x_))]) (fun (r : Bool) => .sv (.one (B r))) (hasFd g l1) (hasF g l1)))) (by rfl) (fv_of (M := [.box (qz5 g) 37 true, .box [LS boolT l1] 91 true]) (caps := [0, 2]) (fun x_ hx => gHas_ct x_ g l1 hx) en40 rfl (by kernel_rfl) (by rfl) (fun _ => rfl)) (mt_c (anyInt_ct ([((e_5.fTo.take (x87 : Int).toNat).drop (0 : Int).toNat), ((e_5.fTo.take ((e_5.fTo.length : Int) : Int).toNat).drop ((wr (x87 + 1)) : Int).toNat)] : qz15).flatten (hasFd g l1) (hasF g l1) hp_5) en41 rfl))))) rfl rfl rfl rfl,
 trivial⟩
 refine En.ch h (fun h => ?_) (fun h => ?_)
 refine En.region ?_
 refine WL.rn ht hn 1 ⟨[qz6, qz3, qz4, qz13, sl 17 (I e_6), sl 18 (I 2), sl 78 qz0, sl 79 qz1, sl 80 (I x80), qz17 e_5.fTo, sl 86 (I (e_5.fTo.length : Int)), sl 87 (I x87)], (qz10 g l1 g3_3 e_5)⟩ ?_
 exact En.at (I := fun zz => J_4 zz) (T := fun zz => ⟨[qz6, qz3, qz4, qz13, sl 17 (I e_6), sl 18 (I zz), sl 78 qz0, sl 79 qz1, sl 80 (I x80), qz17 e_5.fTo, sl 86 (I (e_5.fTo.length : Int)), sl 87 (I x87)], (qz10 g l1 g3_3 e_5)⟩) 2 h (by kernel_rfl)
 refine En.skip ?_
 exact En.at (I := fun zz => J_4 zz) (T := fun zz => ⟨[qz6, qz3, qz4, qz13, sl 17 (I e_6), sl 18 (I zz), sl 78 qz0, sl 79 qz1, sl 80 (I x80), qz17 e_5.fTo, sl 86 (I (e_5.fTo.length : Int)), sl 87 (I x87)], (qz10 g l1 g3_3 e_5)⟩) 1 h (by kernel_rfl)
 intro x18 h
 replace h := hJ_4 _ h
 show En c ⟨[qz6, qz3, qz4, qz13, sl 17 (I e_6), sl 18 (I x18), sl 78 qz0, sl 79 qz1, sl 80 (I x80), qz17 e_5.fTo, sl 86 (I (e_5.fTo.length : Int)), sl 87 (I x87)], (qz10 g l1 g3_3 e_5)⟩ _
 obtain ⟨e_7, he_7, h⟩ := h
 obtain ⟨e_8, he_8, h⟩ := h
 obtain ⟨e_9, he_9, h⟩ := h
 refine En.regionT ⟨[qz6, qz3, qz4, qz13, sl 17 (I e_6), sl 18 (I x18), sl 78 qz0, sl 79 qz1, sl 80 (I x80), qz17 e_5.fTo, sl 86 (I (e_5.fTo.length : Int)), sl 87 (I x87)], [.sv (.one (.gs 3 0)), .sv (.one (.ptr 4 0)), .sv (.one (I e_5.fFrom)), .sv (.one (.ge 3 0 (e_5.fFrom).toNat 1)), .sv (.one (.gs 3 ((e_5.fFrom).toNat + 1))), .sv (.one (I e_6)), .sv (.one (.ptr 0 0)), .sv (.one (I g.fLetters)), .sv (.one (I (wr (e_6 - g.fLetters)))), .sv (.one (.gs 3 0)), .sv (.one (.ptr 4 0)), .sv (.one (I e_5.fFrom)), .sv (.one (.ge 3 0 (e_5.fFrom).toNat 1)), .sv (.one (.gs 3 ((e_5.fFrom).toNat + 1))), .sv (.one (I e_6)), .sv (.one (.ptr 0 0)), .sv (.one (I g.fLetters)), .sv (.one (I (wr (e_6 - g.fLetters)))), .sv (.one (.ge 3 ((e_5.fFrom).toNat + 1) (wr (e_6 - g.fLetters)).toNat 1)), .sv (.one (I e_9)), .sv (.one (I x18)), .sv (.one (I (if x18 > e_9 then x18 else e_9)))], [⟨.box (qz5 g) 37 false, none, none, none⟩, ⟨rowI 4 boolT l1, none, none, none⟩, ⟨(qz2), none, none, none⟩, ⟨gridI 23 3 intT g3_3, none, none, none⟩, ⟨.box (ApiMake.cl e_5) 39 false, none, none, none⟩, ⟨.gone, none, none, none⟩, ⟨.gone, none, none, none⟩]⟩ 22 ⟨[qz6, qz3, qz4, qz13, sl 78 qz0, sl 79 qz1, sl 80 (I x80), qz17 e_5.fTo, sl 86 (I (e_5.fTo.length : Int)), sl 87 (I x87), sl 113 (.gs 3 ((e_5.fFrom).toNat + 1)), sl 117 (I (wr (e_6 - g.fLetters))), sl 130 (I (if x18 > e_9 then x18 else e_9))], (qz10 g l1 g3_3 e_5)⟩ (by kernel_rfl) hn (by kernel_rfl) (by kernel_rfl) (by kernel_rfl) (by rfl) (by kernel_rfl) ?_ (by kernel_rfl) ?_
 exact ⟨.ev ⟨[qz4], []⟩ ht,
 .ev ⟨[qz13], []⟩ ht,
 .ev ⟨[sl 110 (.ptr 4 0)], (qz23 e_5)⟩ ht,
 .vl ⟨[sl 109 (.gs 3 0), sl 111 (I e_5.fFrom)], (qz20 g3_3)⟩ (mt_val (val_indexG0 (T := intT) (L := g3_3) (k := e_5.fFrom) ht rfl (by rfl) (by rfl) (by rfl) (by rfl) (by rfl) (by rfl) (by rfl) ⟨(idx_some he_7).1, (idx_some he_7).2.1⟩)),
 .vl ⟨[sl 112 (.ge 3 0 (e_5.fFrom).toNat 1)], (qz20 g3_3)⟩ (mt_val (val_loadG0 (T := intT) (L := g3_3) ht rfl (by rfl) (by rfl) (by rfl) (by rfl) (idx_lt he_7))),
 .ev ⟨[sl 17 (I e_6)], []⟩ ht,
 .ev ⟨[qz6], []⟩ ht,
 .ev ⟨[sl 115 (.ptr 0 0)], [.box (qz5 g) 37 false]⟩ ht,
 .ev ⟨[sl 114 (I e_6), sl 116 (I g.fLetters)], []⟩ ht,
 .ev ⟨[qz4], []⟩ ht,
 .ev ⟨[qz13], []⟩ ht,
 .ev ⟨[sl 119 (.ptr 4 0)], (qz23 e_5)⟩ ht,
 .vl ⟨[sl 118 (.gs 3 0), sl 120 (I e_5.fFrom)], (qz20 g3_3)⟩ (mt_val (val_indexG0 (T := intT) (L := g3_3) (k := e_5.fFrom) ht rfl (by rfl) (by rfl) (by rfl) (by rfl) (by rfl) (by rfl) (by rfl) ⟨(idx_some he_8).1, (idx_some he_8).2.1⟩)),
 .vl ⟨[sl 121 (.ge 3 0 (e_5.fFrom).toNat 1)], (qz20 g3_3)⟩ (mt_val (val_loadG0 (T := intT) (L := g3_3) ht rfl (by rfl) (by rfl) (by rfl) (by rfl) (idx_lt he_8))),
 .ev ⟨[sl 17 (I e_6)], []⟩ ht,
 .ev ⟨[qz6], []⟩ ht,
 .ev ⟨[sl 124 (.ptr 0 0)], [.box (qz5 g) 37 false]⟩ ht,
 .ev ⟨[sl 123 (I e_6), sl 125 (I g.fLetters)], []⟩ ht,
 .vl ⟨[sl 122 (.gs 3 ((e_5.fFrom).toNat + 1)), sl 126 (I (wr (e_6 - g.fLetters)))], (qz20 g3_3)⟩ (mt_val (val_indexG (T := intT) (L := g3_3) (l := e_8) (k := (wr (e_6 - g.fLetters))) ht rfl (by rfl) (by rfl) (by rfl) (by rfl) (by decide) (by rfl) (by rfl) (idx_some he_8).2.2 (by rfl) ⟨(idx_some he_9).1, (idx_some he_9).2.1⟩)),
 .vl ⟨[sl 127 (.ge 3 ((e_5.fFrom).toNat + 1) (wr (e_6 - g.fLetters)).toNat 1)], (qz20 g3_3)⟩ (mt_val (val_loadG (T := intT) (L := g3_3) (l := e_8) (y := e_9) ht rfl (by rfl) (by rfl) (by rfl) (by rfl) (by rfl) (idx_some he_8).2.2 (idx_some he_9).2.2 (by rfl))),
 .ev ⟨[sl 18 (I x18)], []⟩ ht,
 .ev ⟨[sl 128 (I e_9), sl 129 (I x18)], []⟩ ht,
 trivial⟩
 obtain ⟨e_10, he_10, h⟩ := h
 refine WL.v hn (val_indexG (T := intT) (L := g3_3) (l := e_7) (k := (wr (e_6 - g.fLetters))) ht rfl (by rfl) (by rfl) (by rfl) (by rfl) (by decide) (by rfl) (by rfl) (idx_some he_7).2.2 (by rfl) ⟨(idx_some he_10).1, (idx_some he_10).2.1⟩) ?_
 refine WL.storeG (T := intT) (L := g3_3) (l := e_7) (y := (if x18 > e_9 then x18 else e_9)) ht hn (by rfl) rfl (by rfl) (by rfl) (fun _ h => by cases h) (by rfl) (by rfl) (idx_some he_7).2.2 (idx_lt he_10) (by rfl) (by rfl) (by rfl) (by rfl) ?_
 refine WL.nil ?_
 exact En.at (I := fun zz => J_3 zz) (T := fun zz => ⟨[qz6, qz3, qz4, qz13, sl 78 qz0, sl 79 qz1, sl 80 (I x80), qz17 e_5.fTo, sl 86 (I (e_5.fTo.length : Int)), sl 87 (I x87)], (qz28 g l1 zz e_5)⟩) (g3_3.set (e_5.fFrom).toNat (e_7.set (wr (e_6 - g.fLetters)).toNat (if x18 > e_9 then x18 else e_9))) h (by kernel_rfl)
 intro g3_4 h
 replace h := hJ_3 _ h
 show En c ⟨[qz6, qz3, qz4, qz13, sl 78 qz0, sl 79 qz1, sl 80 (I x80), qz17 e_5.fTo, sl 86 (I (e_5.fTo.length : Int)), sl 87 (I x87)], [.box (qz5 g) 37 false, rowI 4 boolT l1, qz2, gridI 23 3 intT g3_4, .box (ApiMake.cl e_5) 39 false]⟩ _
 refine En.region ?_
 refine WL.rn ht hn 2 ⟨[qz6, qz3, qz4, qz13, sl 78 qz0, sl 79 qz1, sl 80 (I x80), qz17 e_5.fTo, sl 86 (I (e_5.fTo.length : Int)), sl 87 (I (wr (x87 + 1)))], [.box (qz5 g) 37 false, rowI 4 boolT l1, qz2, gridI 23 3 intT g3_4, .box (ApiMake.cl e_5) 39 false]⟩ ?_
 exact En.at (I := fun zz => Inv_5 zz.1 zz.2 ∧ mu_5 zz.1 zz.2 < mu_5 x87 g3_3) (T := fun zz => ⟨[qz6, qz3, qz4, qz13, sl 78 qz0, sl 79 qz1, sl 80 (I x80), qz17 e_5.fTo, sl 86 (I (e_5.fTo.length : Int)), sl 87 (I zz.1)], [.box (qz5 g) 37 false, rowI 4 boolT l1, qz2, gridI 23 3 intT zz.2, .box (ApiMake.cl e_5) 39 false]⟩) ((wr (x87 + 1)), g3_4) h (by kernel_rfl)
 refine En.exit rfl ?_
 refine En.region ?_
 refine WL.rn ht hn 2 ⟨[qz6, qz3, qz4, sl 78 qz0, sl 79 qz1, sl 80 (I (wr (x80 + 1)))], [.box (qz5 g) 37 false, rowI 4 boolT l1, qz2, gridI 23 3 intT g3_3, .gone]⟩ ?_
 exact En.at (I := fun zz => Inv_4 zz.1 zz.2 ∧ mu_4 zz.1 zz.2 < mu_4 x80 g3_2) (T := fun zz => ⟨[qz6, qz3, qz4, sl 78 qz0, sl 79 qz1, sl 80 (I zz.1)], (qz26 g l1 zz.2)⟩) ((wr (x80 + 1)), g3_3) h (by kernel_rfl)
 refine En.exit rfl ?_
 refine En.seq ?_
 refine En.sr ?_
 refine WL.r ht hn 1 ⟨[qz4, sl 134 (.gs 3 0)], [.gone, .gone, .gone, gridI 23 3 intT g3_2]⟩ ?_
 refine WL.v hn (val_lenG0 (T := intT) (L := g3_2) ht rfl (by rfl) (by rfl) (by rfl) (by rfl)) ?_
 refine WL.rn ht hn 1 ⟨[qz4, sl 135 (I (g3_2.length : Int)), sl 136 (I 0)], [.gone, .gone, .gone, gridI 23 3 intT g3_2]⟩ ?_
 refine En.block ?_
 obtain ⟨Inv_6, mu_6, h0_6, hI_6⟩ := h
 refine En.loop (σ := Int × qz15) (fun zz => Inv_6 zz.1 zz.2) (fun zz => mu_6 zz.1 zz.2) (fun zz => ⟨[qz4, sl 135 (I (g3_2.length : Int)), sl 136 (I zz.1)], (qz21 zz.2)⟩) (0, g3_2) h0_6 (sub_ok (by kernel_rfl)) ?_
 rintro ⟨x136, g3_5⟩ h
 replace h := hI_6 _ _ h
 show En c ⟨[qz4, sl 135 (I (g3_2.length : Int)), sl 136 (I x136)], (qz11 g3_5)⟩ _
 refine En.sr ?_
 refine WL.rn ht hn 1 ⟨[qz4, sl 135 (I (g3_2.length : Int)), sl 136 (I x136), sl 137 (B (decide (x136 < (g3_2.length : Int))))], (qz11 g3_5)⟩ ?_
 refine En.seq ?_
 refine En.ch h (fun h => ?_) (fun h => ?_)
 refine En.skip ?_
 refine En.seq ?_
 refine En.block ?_
 refine En.sr ?_
 refine WL.rn ht hn 2 ⟨[qz4, sl 19 (I x136), sl 135 (I (g3_2.length : Int)), sl 136 (I x136)], (qz11 g3_5)⟩ ?_
 refine En.sr ?_
 refine WL.r ht hn 1 ⟨[qz4, sl 19 (I x136), sl 135 (I (g3_2.length : Int)), sl 136 (I x136), sl 139 (.gs 3 0)], (qz11 g3_5)⟩ ?_
 refine WL.v hn (val_lenG0 (T := intT) (L := g3_5) ht rfl (by rfl) (by rfl) (by rfl) (by rfl)) ?_
 refine WL.rn ht hn 1 ⟨[qz4, sl 19 (I x136), sl 135 (I (g3_2.length : Int)), sl 136 (I x136), sl 140 (I (g3_5.length : Int)), sl 141 (I 0)], (qz11 g3_5)⟩ ?_
 refine En.block ?_
 obtain ⟨Inv_7, mu_7, h0_4, hI_4⟩ := h
 refine En.loop (σ := Int × qz15) (fun zz => Inv_7 zz.1 zz.2) (fun zz => mu_7 zz.1 zz.2) (fun zz => ⟨[qz4, sl 19 (I x136), sl 135 (I (g3_2.length : Int)), sl 136 (I x136), sl 140 (I (g3_5.length : Int)), sl 141 (I zz.1)], (qz21 zz.2)⟩) (0, g3_5) h0_4 (sub_ok (by kernel_rfl)) ?_
 rintro ⟨x141, g3_6⟩ h
 replace h := hI_4 _ _ h
 show En c ⟨[qz4, sl 19 (I x136), sl 135 (I (g3_2.length : Int)), sl 136 (I x136), sl 140 (I (g3_5.length : Int)), sl 141 (I x141)], (qz22 g3_6)⟩ _
 refine En.sr ?_
 refine WL.rn ht hn 1 ⟨[qz4, sl 19 (I x136), sl 135 (I (g3_2.length : Int)), sl 136 (I x136), sl 140 (I (g3_5.length : Int)), sl 141 (I x141), sl 142 (B (decide (x141 < (g3_5.length : Int))))], (qz22 g3_6)⟩ ?_
 refine En.seq ?_
 refine En.ch h (fun h => ?_) (fun h => ?_)
 refine En.skip ?_
 refine En.seq ?_
 refine En.block ?_
 refine En.sr ?_
 refine WL.rn ht hn 2 ⟨[qz4, sl 19 (I x136), sl 20 (I x141), sl 135 (I (g3_2.length : Int)), sl 136 (I x136), sl 140 (I (g3_5.length : Int)), sl 141 (I x141)], (qz22 g3_6)⟩ ?_
 refine En.sr ?_
 refine WL.r ht hn 1 ⟨[qz4, sl 19 (I x136), sl 20 (I x141), sl 135 (I (g3_2.length : Int)), sl 136 (I x136), sl 140 (I (g3_5.length : Int)), sl 141 (I x141), sl 144 (.gs 3 0)], (qz22 g3_6)⟩ ?_
 refine WL.v hn (val_lenG0 (T := intT) (L := g3_6) ht rfl (by rfl) (by rfl) (by rfl) (by rfl)) ?_
 refine WL.rn ht hn 1 ⟨[qz4, sl 19 (I x136), sl 20 (I x141), sl 135 (I (g3_2.length : Int)), sl 136 (I x136), sl 140 (I (g3_5.length : Int)), sl 141 (I x141), sl 145 (I (g3_6.length : Int)), sl 146 (I 0)], (qz22 g3_6)⟩ ?_
 refine En.block ?_
 obtain ⟨Inv_8, mu_8, h0_3, hI_3⟩ := h
 refine En.loop (σ := Int × qz15) (fun zz => Inv_8 zz.1 zz.2) (fun zz => mu_8 zz.1 zz.2) (fun zz => ⟨[qz4, sl 19 (I x136), sl 20 (I x141), sl 135 (I (g3_2.length : Int)), sl 136 (I x136), sl 140 (I (g3_5.length : Int)), sl 141 (I x141), sl 145 (I (g3_6.length : Int)), sl 146 (I zz.1)], (qz21 zz.2)⟩) (0, g3_6) h0_3 (sub_ok (by kernel_rfl)) ?_
 rintro ⟨x146, g3_7⟩ h
 replace h := hI_3 _ _ h
 show En c ⟨[qz4, sl 19 (I x136), sl 20 (I x141), sl 135 (I (g3_2.length : Int)), sl 136 (I x136), sl 140 (I (g3_5.length : Int)), sl 141 (I x141), sl 145 (I (g3_6.length : Int)), sl 146 (I x146)], (qz7 g3_7)⟩ _
 refine En.sr ?_
 refine WL.rn ht hn 1 ⟨[qz4, sl 19 (I x136), sl 20 (I x141), sl 135 (I (g3_2.length : Int)), sl 136 (I x136), sl 140 (I (g3_5.length : Int)), sl 141 (I x141), sl 145 (I (g3_6.length : Int)), sl 146 (I x146), sl 147 (B (decide (x146 < (g3_6.length : Int))))], (qz7 g3_7)⟩ ?_
 refine En.seq ?_
 refine En.ch h (fun h => ?_) (fun h => ?_)
 refine En.skip ?_
 obtain ⟨J_5, h, hJ_5⟩ := h
 refine En.seqJ (σ := qz15) (fun zz => J_5 zz) (fun zz => ⟨[qz4, sl 19 (I x136), sl 20 (I x141), sl 135 (I (g3_2.length : Int)), sl 136 (I x136), sl 140 (I (g3_5.length : Int)), sl 141 (I x141), sl 145 (I (g3_6.length : Int)), sl 146 (I x146)], [.gone, .gone, .gone, gridI 23 3 intT zz]⟩) ?_ ?_
 refine En.block ?_
 refine En.sr ?_
 refine WL.rn ht hn 2 ⟨[qz4, sl 19 (I x136), sl 20 (I x141), sl 21 (I x146), sl 135 (I (g3_2.length : Int)), sl 136 (I x136), sl 140 (I (g3_5.length : Int)), sl 141 (I x141), sl 145 (I (g3_6.length : Int)), sl 146 (I x146)], (qz7 g3_7)⟩ ?_
 refine En.seq ?_
 obtain ⟨e_11, he_11, h⟩ := h
 obtain ⟨e_12, he_12, h⟩ := h
 obtain ⟨e_13, he_13, h⟩ := h
 obtain ⟨e_14, he_14, h⟩ := h
 refine En.regionA ⟨[qz4, sl 19 (I x136), sl 20 (I x141), sl 21 (I x146), sl 135 (I (g3_2.length : Int)), sl 136 (I x136), sl 140 (I (g3_5.length : Int)), sl 141 (I x141), sl 145 (I (g3_6.length : Int)), sl 146 (I x146)], [.sv (.one (.gs 3 0)), .sv (.one (I x141)), .sv (.one (.ge 3 0 (x141).toNat 1)), .sv (.one (.gs 3 ((x141).toNat + 1))), .sv (.one (I x136)), .sv (.one (.ge 3 ((x141).toNat + 1) (x136).toNat 1)), .sv (.one (I e_12)), .sv (.one (.gs 3 0)), .sv (.one (I x136)), .sv (.one (.ge 3 0 (x136).toNat 1)), .sv (.one (.gs 3 ((x136).toNat + 1))), .sv (.one (I x146)), .sv (.one (.ge 3 ((x136).toNat + 1) (x146).toNat 1)), .sv (.one (I e_14)), .sv (.one (I e_12)), .sv (.one (I e_14))], [⟨.gone, none, none, none⟩, ⟨.gone, none, none, none⟩, ⟨.gone, none, none, none⟩, ⟨gridI 23 3 intT g3_7, none, none, none⟩]⟩ ⟨[qz4, sl 19 (I x136), sl 20 (I x141), sl 21 (I x146), sl 22 (I e_12), sl 23 (I e_14), sl 135 (I (g3_2.length : Int)), sl 136 (I x136), sl 140 (I (g3_5.length : Int)), sl 141 (I x141), sl 145 (I (g3_6.length : Int)), sl 146 (I x146)], (qz7 g3_7)⟩ (by kernel_rfl) hn (by kernel_rfl) (by rfl) (by kernel_rfl) ?_ (by kernel_rfl) ?_
 exact ⟨.ev ⟨[qz4], []⟩ ht,
 .ev ⟨[sl 20 (I x141)], []⟩ ht,
 .vl ⟨[sl 149 (.gs 3 0), sl 150 (I x141)], (qz7 g3_7)⟩ (mt_val (val_indexG0 (T := intT) (L := g3_7) (k := x141) ht rfl (by rfl) (by rfl) (by rfl) (by rfl) (by rfl) (by rfl) (by rfl) ⟨(idx_some he_11).1, (idx_some he_11).2.1⟩)),
 .vl ⟨[sl 151 (.ge 3 0 (x141).toNat 1)], (qz7 g3_7)⟩ (mt_val (val_loadG0 (T := intT) (L := g3_7) ht rfl (by rfl) (by rfl) (by rfl) (by rfl) (idx_lt he_11))),
 .ev ⟨[sl 19 (I x136)], []⟩ ht,
 .vl ⟨[sl 152 (.gs 3 ((x141).toNat + 1)), sl 153 (I x136)], (qz7 g3_7)⟩ (mt_val (val_indexG (T := intT) (L := g3_7) (l := e_11) (k := x136) ht rfl (by rfl) (by rfl) (by rfl) (by rfl) (by decide) (by rfl) (by rfl) (idx_some he_11).2.2 (by rfl) ⟨(idx_some he_12).1, (idx_some he_12).2.1⟩)),
 .vl ⟨[sl 154 (.ge 3 ((x141).toNat + 1) (x136).toNat 1)], (qz7 g3_7)⟩ (mt_val (val_loadG (T := intT) (L := g3_7) (l := e_11) (y := e_12) ht rfl (by rfl) (by rfl) (by rfl) (by rfl) (by rfl) (idx_some he_11).2.2 (idx_some he_12).2.2 (by rfl))),
 .ev ⟨[qz4], []⟩ ht,
 .ev ⟨[sl 19 (I x136)], []⟩ ht,
 .vl ⟨[sl 156 (.gs 3 0), sl 157 (I x136)], (qz7 g3_7)⟩ (mt_val (val_indexG0 (T := intT) (L := g3_7) (k := x136) ht rfl (by rfl) (by rfl) (by rfl) (by rfl) (by rfl) (by rfl) (by rfl) ⟨(idx_some he_13).1, (idx_some he_13).2.1⟩)),
 .vl ⟨[sl 158 (.ge 3 0 (x136).toNat 1)], (qz7 g3_7)⟩ (mt_val (val_loadG0 (T := intT) (L := g3_7) ht rfl (by rfl) (by rfl) (by rfl) (by rfl) (idx_lt he_13))),
 .ev ⟨[sl 21 (I x146)], []⟩ ht,
 .vl ⟨[sl 159 (.gs 3 ((x136).toNat + 1)), sl 160 (I x146)], (qz7 g3_7)⟩ (mt_val (val_indexG (T := intT) (L := g3_7) (l := e_13) (k := x146) ht rfl (by rfl) (by rfl) (by rfl) (by rfl) (by decide) (by rfl) (by rfl) (idx_some he_13).2.2 (by rfl) ⟨(idx_some he_14).1, (idx_some he_14).2.1⟩)),
 .vl ⟨[sl 161 (.ge 3 ((x136).toNat + 1) (x146).toNat 1)], (qz7 g3_7)⟩ (mt_val (val_loadG (T := intT) (L := g3_7) (l := e_13) (y := e_14) ht rfl (by rfl) (by rfl) (by rfl) (by rfl) (by rfl) (idx_some he_13).2.2 (idx_some he_14).2.2 (by rfl))),
 .ev ⟨[sl 155 (I e_12)], []⟩ ht,
 .ev ⟨[sl 162 (I e_14)], []⟩ ht,
 trivial⟩
 refine En.sr ?_
 refine WL.r ht hn 3 ⟨[qz4, sl 19 (I x136), sl 20 (I x141), sl 21 (I x146), sl 22 (I e_12), sl 23 (I e_14), sl 135 (I (g3_2.length : Int)), sl 136 (I x136), sl 140 (I (g3_5.length : Int)), sl 141 (I x141), sl 145 (I (g3_6.length : Int)), sl 146 (I x146), sl 165 (B (decide (e_12 > 0)))], (qz7 g3_7)⟩ ?_
 refine WL.thru ⟨[qz4, sl 19 (I x136), sl 20 (I x141), sl 21 (I x146), sl 22 (I e_12), sl 23 (I e_14), sl 135 (I (g3_2.length : Int)), sl 136 (I x136), sl 140 (I (g3_5.length : Int)), sl 141 (I x141), sl 145 (I (g3_6.length : Int)), sl 146 (I x146), sl 168 (B ((decide (e_12 > 0)) && (decide (e_14 > 0))))], (qz7 g3_7)⟩ ?_ ?_
 refine splitB (decide (e_12 > 0)) (fun hb0 => ?_) (fun hb0 => ?_)
 refine WL.sB 165 hb0 ?_
 refine WL.r ht hn 3 ⟨[qz4, sl 19 (I x136), sl 20 (I x141), sl 21 (I x146), sl 22 (I e_12), sl 23 (I e_14), sl 135 (I (g3_2.length : Int)), sl 136 (I x136), sl 140 (I (g3_5.length : Int)), sl 141 (I x141), sl 145 (I (g3_6.length : Int)), sl 146 (I x146), sl 168 (B (decide (e_14 > 0)))], (qz7 g3_7)⟩ ?_
 exact WL.nil (sub_ok (by simp only [hb0]; kernel_rfl))
 refine WL.sB 165 hb0 ?_
 refine WL.r ht hn 3 ⟨[qz4, sl 19 (I x136), sl 20 (I x141), sl 21 (I x146), sl 22 (I e_12), sl 23 (I e_14), sl 135 (I (g3_2.length : Int)), sl 136 (I x136), sl 140 (I (g3_5.length : Int)), sl 141 (I x141), sl 145 (I (g3_6.length : Int)), sl 146 (I x146), sl 168 (B false)], (qz7 g3_7)⟩ ?_
 exact WL.nil (sub_ok (by simp only [hb0]; kernel_rfl))
 refine En.ch h (fun h => ?_) (fun h => ?_)
 obtain ⟨e_15, he_15, h⟩ := h
 obtain ⟨e_16, he_16, h⟩ := h
 obtain ⟨e_17, he_17, h⟩ := h
 refine En.regionT ⟨[qz4, sl 19 (I x136), sl 20 (I x141), sl 21 (I x146), sl 22 (I e_12), sl 23 (I e_14), sl 135 (I (g3_2.length : Int)), sl 136 (I x136), sl 140 (I (g3_5.length : Int)), sl 141 (I x141), sl 145 (I (g3_6.length : Int)), sl 146 (I x146)], [.sv (.one (.gs 3 0)), .sv (.one (I x141)), .sv (.one (.ge 3 0 (x141).toNat 1)), .sv (.one (.gs 3 ((x141).toNat + 1))), .sv (.one (I x146)), .sv (.one (.gs 3 0)), .sv (.one (I x141)), .sv (.one (.ge 3 0 (x141).toNat 1)), .sv (.one (.gs 3 ((x141).toNat + 1))), .sv (.one (I x146)), .sv (.one (.ge 3 ((x141).toNat + 1) (x146).toNat 1)), .sv (.one (I e_17)), .sv (.one (I e_12)), .sv (.one (I e_14)), .sv (.one (I (qz16 e_14 e_12 e_17)))], [⟨.gone, none, none, none⟩, ⟨.gone, none, none, none⟩, ⟨.gone, none, none, none⟩, ⟨gridI 23 3 intT g3_7, none, none, none⟩]⟩ 15 ⟨[qz4, sl 19 (I x136), sl 20 (I x141), sl 135 (I (g3_2.length : Int)), sl 136 (I x136), sl 140 (I (g3_5.length : Int)), sl 141 (I x141), sl 145 (I (g3_6.length : Int)), sl 146 (I x146), sl 172 (.gs 3 ((x141).toNat + 1)), sl 173 (I x146), sl 183 (I (qz16 e_14 e_12 e_17))], (qz7 g3_7)⟩ (by kernel_rfl) hn (by kernel_rfl) (by kernel_rfl) (by kernel_rfl) (by rfl) (by kernel_rfl) ?_ (by kernel_rfl) ?_
 exact ⟨.ev ⟨[qz4], []⟩ ht,
 .ev ⟨[sl 20 (I x141)], []⟩ ht,
 .vl ⟨[sl 169 (.gs 3 0), sl 170 (I x141)], (qz7 g3_7)⟩ (mt_val (val_indexG0 (T := intT) (L := g3_7) (k := x141) ht rfl (by rfl) (by rfl) (by rfl) (by rfl) (by rfl) (by rfl) (by rfl) ⟨(idx_some he_15).1, (idx_some he_15).2.1⟩)),
 .vl ⟨[sl 171 (.ge 3 0 (x141).toNat 1)], (qz7 g3_7)⟩ (mt_val (val_loadG0 (T := intT) (L := g3_7) ht rfl (by rfl) (by rfl) (by rfl) (by rfl) (idx_lt he_15))),
 .ev ⟨[sl 21 (I x146)], []⟩ ht,
 .ev ⟨[qz4], []⟩ ht,
 .ev ⟨[sl 20 (I x141)], []⟩ ht,
 .vl ⟨[sl 174 (.gs 3 0), sl 175 (I x141)], (qz7 g3_7)⟩ (mt_val (val_indexG0 (T := intT) (L := g3_7) (k := x141) ht rfl (by rfl) (by rfl) (by rfl) (by rfl) (by rfl) (by rfl) (by rfl) ⟨(idx_some he_16).1, (idx_some he_16).2.1⟩)),
 .vl ⟨[sl 176 (.ge 3 0 (x141).toNat 1)], (qz7 g3_7)⟩ (mt_val (val_loadG0 (T := intT) (L := g3_7) ht rfl (by rfl) (by rfl) (by rfl) (by rfl) (idx_lt he_16))),
 .ev ⟨[sl 21 (I x146)], []⟩ ht,
 .vl ⟨[sl 177 (.gs 3 ((x141).toNat + 1)), sl 178 (I x146)], (qz7 g3_7)⟩ (mt_val (val_indexG (T := intT) (L := g3_7) (l := e_16) (k := x146) ht rfl (by rfl) (by rfl) (by rfl) (by rfl) (by decide) (by rfl) (by rfl) (idx_some he_16).2.2 (by rfl) ⟨(idx_some he_17).1, (idx_some he_17).2.1⟩)),
 .vl ⟨[sl 179 (.ge 3 ((x141).toNat + 1) (x146).toNat 1)], (qz7 g3_7)⟩ (mt_val (val_loadG (T := intT) (L := g3_7) (l := e_16) (y := e_17) ht rfl (by rfl) (by rfl) (by rfl) (by rfl) (by rfl) (idx_some he_16).2.2 (idx_some he_17).2.2 (by rfl))),
 .ev ⟨[sl 22 (I e_12)], []⟩ ht,
 .ev ⟨[sl 23 (I e_14)], []⟩ ht,
 .ev ⟨[sl 180 (I e_17), sl 181 (I e_12), sl 182 (I e_14)], []⟩ ht,
 trivial⟩
 obtain ⟨e_18, he_18, h⟩ := h
 refine WL.v hn (val_indexG (T := intT) (L := g3_7) (l := e_15) (k := x146) ht rfl (by rfl) (by rfl) (by rfl) (by rfl) (by decide) (by rfl) (by rfl) (idx_some he_15).2.2 (by rfl) ⟨(idx_some he_18).1, (idx_some he_18).2.1⟩) ?_
 refine WL.storeG (T := intT) (L := g3_7) (l := e_15) (y := (qz16 e_14 e_12 e_17)) ht hn (by rfl) rfl (by rfl) (by rfl) (fun _ h => by cases h) (by rfl) (by rfl) (idx_some he_15).2.2 (idx_lt he_18) (by rfl) (by rfl) (by rfl) (by rfl) ?_
 refine WL.nil ?_
 exact En.at (I := fun zz => J_5 zz) (T := fun zz => ⟨[qz4, sl 19 (I x136), sl 20 (I x141), sl 135 (I (g3_2.length : Int)), sl 136 (I x136), sl 140 (I (g3_5.length : Int)), sl 141 (I x141), sl 145 (I (g3_6.length : Int)), sl 146 (I x146)], [.gone, .gone, .gone, gridI 23 3 intT zz]⟩) (g3_7.set (x141).toNat (e_15.set (x146).toNat (qz16 e_14 e_12 e_17))) h (by kernel_rfl)
 refine En.skip ?_
 exact En.at (I := fun zz => J_5 zz) (T := fun zz => ⟨[qz4, sl 19 (I x136), sl 20 (I x141), sl 135 (I (g3_2.length : Int)), sl 136 (I x136), sl 140 (I (g3_5.length : Int)), sl 141 (I x141), sl 145 (I (g3_6.length : Int)), sl 146 (I x146)], [.gone, .gone, .gone, gridI 23 3 intT zz]⟩) g3_7 h (by kernel_rfl)
 intro g3_8 h
 replace h := hJ_5 _ h
 show En c ⟨[qz4, sl 19 (I x136), sl 20 (I x141), sl 135 (I (g3_2.length : Int)), sl 136 (I x136), sl 140 (I (g3_5.length : Int)), sl 141 (I x141), sl 145 (I (g3_6.length : Int)), sl 146 (I x146)], [.gone, .gone, .gone, gridI 23 3 intT g3_8]⟩ _
 refine En.region ?_
 refine WL.rn ht hn 2 ⟨[qz4, sl 19 (I x136), sl 20 (I x141), sl 135 (I (g3_2.length : Int)), sl 136 (I x136), sl 140 (I (g3_5.length : Int)), sl 141 (I x141), sl 145 (I (g3_6.length : Int)), sl 146 (I (wr (x146 + 1)))], [.gone, .gone, .gone, gridI 23 3 intT g3_8]⟩ ?_
 exact En.at (I := fun zz => Inv_8 zz.1 zz.2 ∧ mu_8 zz.1 zz.2 < mu_8 x146 g3_7) (T := fun zz => ⟨[qz4, sl 19 (I x136), sl 20 (I x141), sl 135 (I (g3_2.length : Int)), sl 136 (I x136), sl 140 (I (g3_5.length : Int)), sl 141 (I x141), sl 145 (I (g3_6.length : Int)), sl 146 (I zz.1)], (qz21 zz.2)⟩) ((wr (x146 + 1)), g3_8) h (by kernel_rfl)
 refine En.exit rfl ?_
 refine En.region ?_
 refine WL.rn ht hn 2 ⟨[qz4, sl 19 (I x136), sl 135 (I (g3_2.length : Int)), sl 136 (I x136), sl 140 (I (g3_5.length : Int)), sl 141 (I (wr (x141 + 1)))], (qz7 g3_7)⟩ ?_
 exact En.at (I := fun zz => Inv_7 zz.1 zz.2 ∧ mu_7 zz.1 zz.2 < mu_7 x141 g3_6) (T := fun zz => ⟨[qz4, sl 19 (I x136), sl 135 (I (g3_2.length : Int)), sl 136 (I x136), sl 140 (I (g3_5.length : Int)), sl 141 (I zz.1)], (qz21 zz.2)⟩) ((wr (x141 + 1)), g3_7) h (by kernel_rfl)
 refine En.exit rfl ?_
 refine En.region ?_
 refine WL.rn ht hn 2 ⟨[qz4, sl 135 (I (g3_2.length : Int)), sl 136 (I (wr (x136 + 1)))], (qz22 g3_6)⟩ ?_
 exact En.at (I := fun zz => Inv_6 zz.1 zz.2 ∧ mu_6 zz.1 zz.2 < mu_6 x136 g3_5) (T := fun zz => ⟨[qz4, sl 135 (I (g3_2.length : Int)), sl 136 (I zz.1)], (qz21 zz.2)⟩) ((wr (x136 + 1)), g3_6) h (by kernel_rfl)
 refine En.exit rfl ?_
 refine En.seq ?_
 refine En.sr ?_
 refine WL.r ht hn 1 ⟨[qz4, sl 188 (.gs 3 0)], (qz11 g3_5)⟩ ?_
 refine WL.v hn (val_lenG0 (T := intT) (L := g3_5) ht rfl (by rfl) (by rfl) (by rfl) (by rfl)) ?_
 refine WL.rn ht hn 1 ⟨[qz4, sl 189 (I (g3_5.length : Int)), sl 190 (I 0)], (qz11 g3_5)⟩ ?_
 refine En.block ?_
 obtain ⟨Inv_9, mu_9, h0_5, hI_5⟩ := h
 refine En.loop (σ := Int) (fun zz => Inv_9 zz) (fun zz => mu_9 zz) (fun zz => ⟨[qz4, sl 189 (I (g3_5.length : Int)), sl 190 (I zz)], (qz11 g3_5)⟩) 0 h0_5 (sub_ok (by kernel_rfl)) ?_
 intro x190 h
 replace h := hI_5 _ h
 show En c ⟨[qz4, sl 189 (I (g3_5.length : Int)), sl 190 (I x190)], (qz11 g3_5)⟩ _
 refine En.sr ?_
 refine WL.rn ht hn 1 ⟨[qz4, sl 189 (I (g3_5.length : Int)), sl 190 (I x190), sl 191 (B (decide (x190 < (g3_5.length : Int))))], (qz11 g3_5)⟩ ?_
 refine En.seq ?_
 refine En.ch h (fun h => ?_) (fun h => ?_)
 refine En.skip ?_
 refine En.seq ?_
 refine En.block ?_
 refine En.sr ?_
 refine WL.rn ht hn 2 ⟨[qz4, sl 24 (I x190), sl 189 (I (g3_5.length : Int)), sl 190 (I x190)], (qz11 g3_5)⟩ ?_
 refine En.sr ?_
 refine WL.r ht hn 2 ⟨[qz4, sl 24 (I x190), sl 189 (I (g3_5.length : Int)), sl 190 (I x190), sl 193 (.gs 3 0), sl 194 (I x190)], (qz11 g3_5)⟩ ?_
 obtain ⟨e_19, he_19, h⟩ := h
 refine WL.v hn (val_indexG0 (T := intT) (L := g3_5) (k := x190) ht rfl (by rfl) (by rfl) (by rfl) (by rfl) (by rfl) (by rfl) (by rfl) ⟨(idx_some he_19).1, (idx_some he_19).2.1⟩) ?_
 refine WL.v hn (val_loadG0 (T := intT) (L := g3_5) ht rfl (by rfl) (by rfl) (by rfl) (by rfl) (idx_lt he_19)) ?_
 refine WL.r ht hn 1 ⟨[qz4, sl 189 (I (g3_5.length : Int)), sl 190 (I x190), sl 196 (.gs 3 ((x190).toNat + 1)), sl 197 (I x190)], (qz11 g3_5)⟩ ?_
 obtain ⟨e_20, he_20, h⟩ := h
 refine WL.v hn (val_indexG (T := intT) (L := g3_5) (l := e_19) (k := x190) ht rfl (by rfl) (by rfl) (by rfl) (by rfl) (by decide) (by rfl) (by rfl) (idx_some he_19).2.2 (by rfl) ⟨(idx_some he_20).1, (idx_some he_20).2.1⟩) ?_
 refine WL.v hn (val_loadG (T := intT) (L := g3_5) (l := e_19) (y := e_20) ht rfl (by rfl) (by rfl) (by rfl) (by rfl) (by rfl) (idx_some he_19).2.2 (idx_some he_20).2.2 (by rfl)) ?_
 refine WL.rn ht hn 1 ⟨[qz4, sl 189 (I (g3_5.length : Int)), sl 190 (I x190), sl 200 (B (e_20 == 2))], (qz11 g3_5)⟩ ?_
 refine En.ch h (fun h => ?_) (fun h => ?_)
 refine En.sr ?_
 refine WL.rn ht hn 2 ⟨[sl 2 (B true), sl 3 (I 0)], [.gone, .gone, .gone, .gone]⟩ ?_
 exact En.rb ht (true, 0) h
 refine En.skip ?_
 refine En.region ?_
 refine WL.rn ht hn 2 ⟨[qz4, sl 189 (I (g3_5.length : Int)), sl 190 (I (wr (x190 + 1)))], (qz11 g3_5)⟩ ?_
 exact En.at (I := fun zz => Inv_9 zz ∧ mu_9 zz < mu_9 x190) (T := fun zz => ⟨[qz4, sl 189 (I (g3_5.length : Int)), sl 190 (I zz)], (qz11 g3_5)⟩) (wr (x190 + 1)) h (by kernel_rfl)
 refine En.exit rfl ?_
 refine En.sr ?_
 refine WL.rn ht hn 2 ⟨[sl 2 (B false), sl 3 (I 0)], [.gone, .gone, .gone, .gone]⟩ ?_
 exact En.rb ht (false, 0) h
theorem en14 : ∀ args w, (callFunc 14 args).run Try.prog w = .ok (.enter 14 args) w := enters_of Try.func14 (by kernel_rfl) rfl
theorem gLes_ct (g : ApiGrammar) (hp : g = tinyG)  : Ct 14 [.sv (.agg [I g.fLetters, I g.fNames, LS ApiMake.ty g.fMakes])] [] (fun (_ : Unit) => True) (fun _ => .tup [.one (B ((true, 0)).1), .one (I ((true, 0)).2)]) := by
 refine (gLes_walk g (fun res_ => res_ = ((true, 0))) ?_).fun
 subst hp
 unfold gLes_vc
 intro _
 have k0 : idx tinyG.fMakes 0 = some (ApiMake.mk 0 [0, 1]) := rfl
 have k1 : idx tinyG.fMakes 1 = some (ApiMake.mk 0 []) := rfl
 have hg0 : grmErr tinyG = 0 := by kernel_rfl
 refine ⟨fun h => absurd h (by rw [hg0]; decide), fun _ => ⟨rfl, ⟨by decide, by decide, by decide⟩, fun b l => (b = true ∧ l = [false]) ∨ l = [true], fun b l => (if b = true then 1 else 0) + (if l = [false] then 1 else 0), .inl ⟨rfl, rfl⟩, ?_⟩⟩
 rintro b l hI
 refine ⟨fun hb => ?_, fun hb => ?_⟩
 ·subst hb
  refine ⟨fun c x l' => (l = [false] ∧ c = false ∧ x = 0 ∧ l' = [false]) ∨ (l = [false] ∧ c = true ∧ (x = 1 ∨ x = 2) ∧ l' = [true]) ∨ (l = [true] ∧ c = false ∧ (x = 0 ∨ x = 1 ∨ x = 2) ∧ l' = [true]), fun _ x _ => 2 - x.toNat, ?_, ?_⟩
  ·rcases hI with ⟨_, h⟩ | h
   ·exact .inl ⟨h, rfl, rfl, h⟩
   ·exact .inr (.inr ⟨h, rfl, .inl rfl, h⟩)
  rintro c x l' (⟨rfl, rfl, rfl, rfl⟩ | ⟨rfl, rfl, (rfl | rfl), rfl⟩ | ⟨rfl, rfl, (rfl | rfl | rfl), rfl⟩)
  ·refine ⟨fun _ => ⟨fun b l2 => b = true ∧ l2 = [true], ⟨_, k0, fun b => b = true, ⟨false, rfl, fun _ => ⟨fun x hx => ⟨rfl, rfl, by simpa using hx⟩, rfl⟩, fun h => (by cases h)⟩, ?_⟩, ?_⟩, fun h => absurd h (by decide)⟩
   ·rintro _ rfl
    exact ⟨fun _ => ⟨false, rfl, rfl, rfl⟩, fun h => (by cases h)⟩
   ·rintro _ _ ⟨rfl, rfl⟩
    exact ⟨.inr (.inl ⟨rfl, rfl, .inl rfl, rfl⟩), by decide⟩
  ·refine ⟨fun _ => ⟨fun b l2 => b = true ∧ l2 = [true], ⟨_, k1, fun b => b = false, ⟨true, rfl, fun h => (by cases h), fun _ => rfl⟩, ?_⟩, ?_⟩, fun h => absurd h (by decide)⟩
   ·rintro _ rfl
    exact ⟨fun h => (by cases h), fun _ => ⟨rfl, rfl⟩⟩
   ·rintro _ _ ⟨rfl, rfl⟩
    exact ⟨.inr (.inl ⟨rfl, rfl, .inr rfl, rfl⟩), by decide⟩
  ·exact ⟨fun h => absurd h (by decide), fun _ => ⟨.inr rfl, by decide⟩⟩
  ·refine ⟨fun _ => ⟨fun b l2 => b = false ∧ l2 = [true], ⟨_, k0, fun b => b = false, ⟨true, rfl, fun h => (by cases h), fun _ => rfl⟩, ?_⟩, ?_⟩, fun h => absurd h (by decide)⟩
   ·rintro _ rfl
    exact ⟨fun h => (by cases h), fun _ => ⟨rfl, rfl⟩⟩
   ·rintro _ _ ⟨rfl, rfl⟩
    exact ⟨.inr (.inr ⟨rfl, rfl, .inr (.inl rfl), rfl⟩), by decide⟩
  ·refine ⟨fun _ => ⟨fun b l2 => b = false ∧ l2 = [true], ⟨_, k1, fun b => b = false, ⟨true, rfl, fun h => (by cases h), fun _ => rfl⟩, ?_⟩, ?_⟩, fun h => absurd h (by decide)⟩
   ·rintro _ rfl
    exact ⟨fun h => (by cases h), fun _ => ⟨rfl, rfl⟩⟩
   ·rintro _ _ ⟨rfl, rfl⟩
    exact ⟨.inr (.inr ⟨rfl, rfl, .inr (.inr rfl), rfl⟩), by decide⟩
  ·exact ⟨fun h => absurd h (by decide), fun _ => ⟨.inr rfl, by decide⟩⟩
 obtain rfl : l = [true] := by
  rcases hI with ⟨h, _⟩ | h
  ·rw [hb] at h; cases h
  ·exact h
 clear hI hb
 refine ⟨⟨by decide, by decide, by decide⟩, fun x g => (x = 0 ∧ g = [[]]) ∨ (x = 1 ∧ g = [[0]]), fun x _ => 1 - x.toNat, .inl ⟨rfl, rfl⟩, ?_⟩
 rintro x g3 (⟨rfl, rfl⟩ | ⟨rfl, rfl⟩)
 ·exact ⟨fun _ => ⟨⟨by decide, by decide, by decide⟩, [], rfl, .inr ⟨rfl, rfl⟩, by decide⟩, fun h => absurd h (by decide)⟩
 refine ⟨fun h => absurd h (by decide), fun _ => ⟨fun x g => (x = 0 ∧ g = [[0]]) ∨ (x = 1 ∧ g = [[2]]) ∨ (x = 2 ∧ g = [[2]]), fun x _ => 2 - x.toNat, .inl ⟨rfl, rfl⟩, ?_⟩⟩
 rintro x g3 (⟨rfl, rfl⟩ | ⟨rfl, rfl⟩ | ⟨rfl, rfl⟩)
 ·refine ⟨fun _ => ⟨_, k0, fun x g => (x = 0 ∧ g = [[0]]) ∨ (x = 1 ∧ g = [[0]]) ∨ (x = 2 ∧ g = [[2]]), fun x _ => 2 - x.toNat, .inl ⟨rfl, rfl⟩, ?_⟩, fun h => absurd h (by decide)⟩
  rintro x g3 (⟨rfl, rfl⟩ | ⟨rfl, rfl⟩ | ⟨rfl, rfl⟩)
  ·refine ⟨fun _ => ⟨fun g => g = [[0]], ⟨0, rfl, fun _ => rfl, fun h => absurd h (by decide)⟩, ?_⟩, fun h => absurd h (by decide)⟩
   rintro _ rfl
   exact ⟨.inr (.inl ⟨rfl, rfl⟩), by decide⟩
  ·refine ⟨fun _ => ⟨fun g => g = [[2]], ⟨1, rfl, fun h => absurd h (by decide), fun _ => ⟨fun k => k = 2, ⟨⟨by decide, by decide, by decide⟩, ⟨by decide, by decide, by decide⟩, ⟨by decide, by decide⟩, fun x hx => ?_, fun _ => rfl, fun h => absurd h (by decide)⟩, ?_⟩⟩, ?_⟩, fun h => absurd h (by decide)⟩
   ·have hx : x ∈ ([0] : List Int) := hx
    exact ⟨rfl, rfl, .inl (List.mem_singleton.1 hx)⟩
   ·rintro _ rfl
    exact ⟨[0], rfl, [0], rfl, 0, rfl, 0, rfl, rfl⟩
   ·rintro _ rfl
    exact ⟨.inr (.inr ⟨rfl, rfl⟩), by decide⟩
  ·exact ⟨fun h => absurd h (by decide), fun _ => ⟨.inr (.inl ⟨rfl, rfl⟩), by decide⟩⟩
 ·refine ⟨fun _ => ⟨_, k1, fun x g => x = 0 ∧ g = [[2]], fun x _ => 0, ⟨rfl, rfl⟩, ?_⟩, fun h => absurd h (by decide)⟩
  rintro x g3 ⟨rfl, rfl⟩
  exact ⟨fun h => absurd h (by decide), fun _ => ⟨.inr (.inr ⟨rfl, rfl⟩), by decide⟩⟩
 refine ⟨fun h => absurd h (by decide), fun _ => ⟨fun x g => (x = 0 ∨ x = 1) ∧ g = [[2]], fun x _ => 1 - x.toNat, ⟨.inl rfl, rfl⟩, ?_⟩⟩
 rintro x g3 ⟨(rfl | rfl), rfl⟩
 ·refine ⟨fun _ => ⟨fun x g => (x = 0 ∨ x = 1) ∧ g = [[2]], fun x _ => 1 - x.toNat, ⟨.inl rfl, rfl⟩, ?_⟩, fun h => absurd h (by decide)⟩
  rintro x g3 ⟨(rfl | rfl), rfl⟩
  ·refine ⟨fun _ => ⟨fun x g => (x = 0 ∨ x = 1) ∧ g = [[2]], fun x _ => 1 - x.toNat, ⟨.inl rfl, rfl⟩, ?_⟩, fun h => absurd h (by decide)⟩
   rintro x g3 ⟨(rfl | rfl), rfl⟩
   ·refine ⟨fun _ => ⟨fun g => g = [[2]], ⟨[2], rfl, 2, rfl, [2], rfl, 2, rfl, fun _ => ⟨[2], rfl, [2], rfl, 2, rfl, 2, rfl, rfl⟩, fun h => absurd h (by decide)⟩, ?_⟩, fun h => absurd h (by decide)⟩
    rintro _ rfl
    exact ⟨⟨.inr rfl, rfl⟩, by decide⟩
   ·exact ⟨fun h => absurd h (by decide), fun _ => ⟨⟨.inr rfl, rfl⟩, by decide⟩⟩
  ·exact ⟨fun h => absurd h (by decide), fun _ => ⟨⟨.inr rfl, rfl⟩, by decide⟩⟩
 refine ⟨fun h => absurd h (by decide), fun _ => ⟨fun x => x = 0, fun _ => 0, rfl, ?_⟩⟩
 rintro x rfl
 exact ⟨fun _ => ⟨[2], rfl, 2, rfl, fun _ => rfl, fun h => absurd h (by decide)⟩, fun h => absurd h (by decide)⟩
inductive SDn (g : ApiGrammar) : List Int → List Int → Nat → Prop where
 | nil : SDn g [] [] 0
 | lett {s : Int} {rest u : List Int} {n : Nat} : s < g.fLetters → SDn g rest u n → SDn g (s :: rest) (s :: u) n
 | name {s : Int} {rest u v : List Int} {m : ApiMake} {n k : Nat} : g.fLetters ≤ s → m ∈ g.fMakes → m.fFrom = s - g.fLetters → SDn g m.fTo u n → SDn g rest v k → SDn g (s :: rest) (u ++ v) (n + 1 + k)
theorem SDer.num {g : ApiGrammar} {l u : List Int} (h : SDer g l u) : ∃ n, SDn g l u n := by
 induction h with
 | nil => exact ⟨0, .nil⟩
 | lett h1 _ ih => obtain ⟨n, hn⟩ := ih; exact ⟨n, .lett h1 hn⟩
 | name h1 h2 h3 _ _ ih1 ih2 =>
  obtain ⟨n, hn⟩ := ih1
  obtain ⟨k, hk⟩ := ih2
  exact ⟨n + 1 + k, .name h1 h2 h3 hn hk⟩
def NSize (g : ApiGrammar) (a : Int) (u : List Int) (n : Nat) : Prop := ∃ m ∈ g.fMakes, m.fFrom = a ∧ ∃ k, SDn g m.fTo u k ∧ n = k + 1
def NDer (g : ApiGrammar) (a : Int) (u : List Int) : Prop := ∃ n, NSize g a u n
theorem least_nat {P : Nat → Prop} (h : ∃ n, P n) : ∃ n, P n ∧ ∀ k, P k → n ≤ k := by
 obtain ⟨n, hn⟩ := h
 induction n using Nat.strongRecOn with
 | ind n ih =>
  by_cases c : ∃ k, k < n ∧ P k
  ·obtain ⟨k, hk, hp⟩ := c
   exact ih k hk hp
  ·exact ⟨n, hn, fun k hk => Nat.le_of_not_lt fun hlt => c ⟨k, hlt, hk⟩⟩
open Classical in
noncomputable def mn (g : ApiGrammar) (a : Int) (u : List Int) : Nat := if h : NDer g a u then Classical.choose (least_nat h) else 0
theorem mn_ok {g : ApiGrammar} {a : Int} {u : List Int} (h : NDer g a u) : NSize g a u (mn g a u) ∧ ∀ k, NSize g a u k → mn g a u ≤ k := by
 unfold mn
 rw [dif_pos h]
 exact Classical.choose_spec (least_nat h)
inductive RM (g : ApiGrammar) : List Int → List Int → Nat → Prop where
 | nil : RM g [] [] 0
 | lett {s : Int} {rest u : List Int} {n : Nat} : s < g.fLetters → RM g rest u n → RM g (s :: rest) (s :: u) n
 | name {s : Int} {rest u v : List Int} {k : Nat} : g.fLetters ≤ s → NDer g (s - g.fLetters) u → RM g rest v k → RM g (s :: rest) (u ++ v) (mn g (s - g.fLetters) u + k)
theorem RM.sd {g : ApiGrammar} {l u : List Int} {n : Nat} (h : RM g l u n) : SDn g l u n := by
 induction h with
 | nil => exact .nil
 | lett h1 _ ih => exact .lett h1 ih
 | name h1 h2 _ ih =>
  obtain ⟨m, hm, hf, k, hk, he⟩ := (mn_ok h2).1
  rw [he]
  exact .name h1 hm hf hk ih
theorem SDn.rm {g : ApiGrammar} {l u : List Int} {n : Nat} (h : SDn g l u n) : ∃ k, k ≤ n ∧ RM g l u k := by
 induction h with
 | nil => exact ⟨0, Nat.le_refl _, .nil⟩
 | lett h1 _ ih => obtain ⟨k, hk, hr⟩ := ih; exact ⟨k, hk, .lett h1 hr⟩
 | name h1 h2 h3 h4 _ _ ih =>
  obtain ⟨k, hk, hr⟩ := ih
  have hs : NSize g _ _ _ := ⟨_, h2, h3, _, h4, rfl⟩
  have := (mn_ok ⟨_, hs⟩).2 _ hs
  exact ⟨_, by omega, .name h1 ⟨_, hs⟩ hr⟩
theorem mn_rm {g : ApiGrammar} {a : Int} {u : List Int} (h : NDer g a u) : ∃ m ∈ g.fMakes, m.fFrom = a ∧ ∃ n, RM g m.fTo u n ∧ mn g a u = n + 1 := by
 obtain ⟨⟨m, hm, hf, k, hk, he⟩, hmin⟩ := mn_ok h
 obtain ⟨n, hn, hr⟩ := hk.rm
 refine ⟨m, hm, hf, n, hr, ?_⟩
 have := hmin (n + 1) ⟨m, hm, hf, n, hr.sd, rfl⟩
 omega
open Classical in
noncomputable def cn (g : ApiGrammar) (u : List Int) (t : Nat) : Nat := ((List.range g.fNames.toNat).filter fun (b : Nat) => decide (NDer g (b : Int) u ∧ mn g (b : Int) u ≤ t)).length
theorem filt_le {α : Type} {p q : α → Bool} (h : ∀ x, p x = true → q x = true) : ∀ l : List α, (l.filter p).length ≤ (l.filter q).length ∧ ((∃ x ∈ l, q x = true ∧ p x = false) → (l.filter p).length < (l.filter q).length)
 | [] => ⟨Nat.le_refl _, fun ⟨_, hx, _⟩ => by cases hx⟩
 | y :: l => by
  obtain ⟨h1, h2⟩ := filt_le h l
  have hy := h y
  cases hp : p y with
  | true =>
   have hq := hy hp
   rw [List.filter_cons_of_pos hp, List.filter_cons_of_pos hq]
   simp only [List.length_cons]
   refine ⟨by omega, fun ⟨x, hx, hqx, hpx⟩ => ?_⟩
   rcases List.mem_cons.1 hx with rfl | hx
   ·rw [hp] at hpx; cases hpx
   ·have := h2 ⟨x, hx, hqx, hpx⟩; omega
  | false =>
   rw [List.filter_cons_of_neg (by rw [hp]; decide)]
   cases hq : q y with
   | true =>
    rw [List.filter_cons_of_pos hq]
    simp only [List.length_cons]
    exact ⟨by omega, fun _ => by omega⟩
   | false =>
    rw [List.filter_cons_of_neg (by rw [hq]; decide)]
    refine ⟨h1, fun ⟨x, hx, hqx, hpx⟩ => ?_⟩
    rcases List.mem_cons.1 hx with rfl | hx
    ·rw [hq] at hqx; cases hqx
    ·exact h2 ⟨x, hx, hqx, hpx⟩
open Classical in
theorem cn_le {g : ApiGrammar} (hg : GrmOk g) {u : List Int} {t : Nat} : cn g u t ≤ 6 := by
 have := hg.names
 have h := List.length_filter_le (fun (b : Nat) => decide (NDer g (b : Int) u ∧ mn g (b : Int) u ≤ t)) (List.range g.fNames.toNat)
 rw [List.length_range] at h
 exact Nat.le_trans h (by omega)
open Classical in
theorem cn_lt {g : ApiGrammar} {u : List Int} {a : Int} (ha : 0 ≤ a ∧ a < g.fNames) (hd : NDer g a u) {t : Nat} (h : t < mn g a u) : cn g u t < cn g u (mn g a u) := by
 unfold cn
 refine (filt_le (fun x hx => ?_) _).2 ⟨a.toNat, List.mem_range.2 (by omega), ?_, ?_⟩
 ·have hx := of_decide_eq_true hx
  exact decide_eq_true ⟨hx.1, by omega⟩
 ·rw [Int.toNat_of_nonneg ha.1]
  exact decide_eq_true ⟨hd, Nat.le_refl _⟩
 ·rw [Int.toNat_of_nonneg ha.1]
  exact decide_eq_false fun hx => by omega
theorem cn_pos {g : ApiGrammar} {u : List Int} {a : Int} (ha : 0 ≤ a ∧ a < g.fNames) (hd : NDer g a u) : 1 ≤ cn g u (mn g a u) := by
 have hr : RM g [] [] 0 := .nil
 obtain ⟨_, _, _, n, _, he⟩ := mn_rm hd
 have := cn_lt (t := n) ha hd (by omega)
 omega
section
variable {g : ApiGrammar}
theorem rm_nil {N X : Nat} (H : ∀ b, 0 ≤ b ∧ b < g.fNames → NDer g b [] → mn g b [] ≤ N → 2 * mn g b [] + 1 ≤ X) {l u : List Int} {n : Nat} (h : RM g l u n) : u = [] → n ≤ N → SgOk g l → 2 * n ≤ l.length * (X - 1) := by
 induction h with
 | nil => intro _ _ _; exact Nat.zero_le _
 | lett _ _ _ => intro e; cases e
 | @name s rest u v k h1 h2 _ ih =>
  intro e hn hs
  obtain ⟨rfl, rfl⟩ := List.append_eq_nil_iff.1 e
  have h3 := ih rfl (by omega) fun x hx => hs x (List.mem_cons_of_mem _ hx)
  have h4 := hs s List.mem_cons_self
  have h5 := H _ ⟨by omega, by omega⟩ h2 (by omega)
  have h6 : (rest.length + 1) * (X - 1) = rest.length * (X - 1) + (X - 1) := Nat.add_one_mul _ _
  rw [List.length_cons, h6]
  generalize rest.length * (X - 1) = z at h3 ⊢
  omega
theorem rm_row {N : Nat} (H : ∀ b x, 0 ≤ b ∧ b < g.fNames → NDer g b x → mn g b x ≤ N → (x = [] → mn g b x ≤ 364) ∧ (x ≠ [] → mn g b x + 6558 ≤ 13116 * x.length)) {l u : List Int} {n : Nat} (h : RM g l u n) : n ≤ N → SgOk g l →
  n ≤ 364 * l.length ∨ (u ≠ [] ∧ ∃ b, (0 ≤ b ∧ b < g.fNames) ∧ NDer g b u ∧ mn g b u ≤ N ∧ n ≤ 364 * l.length + mn g b u) ∨ (u ≠ [] ∧ n + 13116 ≤ 364 * l.length + 13116 * u.length) := by
 induction h with
 | nil => intro _ _; exact .inl (Nat.zero_le _)
 | @lett s rest u n h1 _ ih =>
  intro hn hs
  have hc : u ≠ [] → 1 ≤ u.length := fun h => List.length_pos_iff.2 h
  rcases ih hn fun x hx => hs x (List.mem_cons_of_mem _ hx) with h | ⟨h0, b, hb, hd, hN, h⟩ | ⟨h0, h⟩
  ·refine .inl ?_; rw [List.length_cons]; omega
  ·refine .inr (.inr ⟨by simp, ?_⟩)
   have := (H b u hb hd hN).2 h0
   rw [List.length_cons, List.length_cons]
   omega
  ·refine .inr (.inr ⟨by simp, ?_⟩)
   rw [List.length_cons, List.length_cons]
   omega
 | @name s rest u v k h1 h2 _ ih =>
  intro hn hs
  have h4 := hs s List.mem_cons_self
  have hr := ih (by omega) fun x hx => hs x (List.mem_cons_of_mem _ hx)
  have hbr : 0 ≤ s - g.fLetters ∧ s - g.fLetters < g.fNames := ⟨by omega, by omega⟩
  obtain ⟨p1, p2⟩ := H _ u hbr h2 (by omega)
  rw [List.length_cons]
  by_cases hu : u = []
  ·have q := p1 hu
   subst hu
   rw [List.nil_append]
   rcases hr with h | ⟨h0, b, hb, hd, hN, h⟩ | ⟨h0, h⟩
   ·exact .inl (by omega)
   ·exact .inr (.inl ⟨h0, b, hb, hd, hN, by omega⟩)
   ·exact .inr (.inr ⟨h0, by omega⟩)
  ·have q := p2 hu
   have hul : 1 ≤ u.length := List.length_pos_iff.2 hu
   have hne : u ++ v ≠ [] := fun e => hu (List.append_eq_nil_iff.1 e).1
   rcases hr with h | ⟨h0, b, hb, hd, hN, h⟩ | ⟨h0, h⟩
   ·by_cases hv : v = []
    ·subst hv
     rw [List.append_nil]
     exact .inr (.inl ⟨hu, _, hbr, h2, by omega, by omega⟩)
    ·have hvl : 1 ≤ v.length := List.length_pos_iff.2 hv
     refine .inr (.inr ⟨hne, ?_⟩)
     rw [List.length_append]
     omega
   ·have := (H b v hb hd hN).2 h0
    refine .inr (.inr ⟨hne, ?_⟩)
    rw [List.length_append]
    omega
   ·refine .inr (.inr ⟨hne, ?_⟩)
    rw [List.length_append]
    omega
theorem mn_bound (hg : GrmOk g) : ∀ (t : Nat) (a : Int) (u : List Int), 0 ≤ a ∧ a < g.fNames → NDer g a u → mn g a u = t → (u = [] → 2 * mn g a u + 1 ≤ 3 ^ cn g u (mn g a u)) ∧ (u ≠ [] → mn g a u + 13116 ≤ 13116 * u.length + 1093 * cn g u (mn g a u)) := by
 intro t
 induction t using Nat.strongRecOn with
 | ind t ih =>
  intro a u ha hd ht
  obtain ⟨m, hm, hf, n, hr, he⟩ := mn_rm hd
  have hlen := hg.len m hm
  have hsg : SgOk g m.fTo := hg.tos m hm
  have hcp := cn_pos ha hd
  have h6 : ∀ u t, cn g u t ≤ 6 := fun u t => cn_le hg
  have IH : ∀ b x, 0 ≤ b ∧ b < g.fNames → NDer g b x → mn g b x ≤ n → (x = [] → 2 * mn g b x + 1 ≤ 3 ^ cn g x (mn g b x)) ∧ (x ≠ [] → mn g b x + 13116 ≤ 13116 * x.length + 1093 * cn g x (mn g b x)) := fun b x hb hbd hle => ih _ (by omega) b x hb hbd rfl
  refine ⟨fun hu => ?_, fun hu => ?_⟩
  ·subst hu
   obtain ⟨c, hc⟩ : ∃ c, cn g [] (mn g a []) = c + 1 := ⟨cn g [] (mn g a []) - 1, by omega⟩
   have h1 := rm_nil (N := n) (X := 3 ^ c) (fun b hb hbd hle => by
    have h2 := (IH b [] hb hbd hle).1 rfl
    have h3 := cn_lt ha hd (t := mn g b []) (by omega)
    exact Nat.le_trans h2 (Nat.pow_le_pow_right (by decide) (by omega))) hr rfl (Nat.le_refl _) hsg
   have h4 : 1 ≤ 3 ^ c := Nat.one_le_pow _ _ (by decide)
   have h5 : m.fTo.length * (3 ^ c - 1) ≤ 3 * (3 ^ c - 1) := Nat.mul_le_mul_right _ hlen
   rw [hc, Nat.pow_succ]
   omega
  ·have h1 := rm_row (N := n) (fun b x hb hbd hle => by
    obtain ⟨k1, k2⟩ := IH b x hb hbd hle
    refine ⟨fun hx => ?_, fun hx => ?_⟩
    ·have h2 := k1 hx
     have h3 : 3 ^ cn g x (mn g b x) ≤ 3 ^ 6 := Nat.pow_le_pow_right (by decide) (h6 _ _)
     have h4 : 3 ^ 6 = 729 := by decide
     omega
    ·have h2 := k2 hx
     have := h6 x (mn g b x)
     omega) hr (Nat.le_refl _) hsg
   rcases h1 with h | ⟨h0, b, hb, hbd, hN, h⟩ | ⟨h0, h⟩
   ·have hul : 1 ≤ u.length := List.length_pos_iff.2 hu
    omega
   ·have h2 := (IH b u hb hbd hN).2 hu
    have h3 := cn_lt ha hd (t := mn g b u) (by omega)
    omega
   ·omega
theorem small_der (hg : GrmOk g) {a : Int} {u : List Int} (ha : 0 ≤ a ∧ a < g.fNames) (h : SDer g [a + g.fLetters] u) (hu : u.length ≤ 12) : ∃ n, n ≤ 1000000 ∧ SDn g [a + g.fLetters] u n := by
 obtain ⟨k, hk⟩ := h.num
 have hd : NDer g a u := by
  cases hk with
  | lett h1 _ => exact absurd h1 (by omega)
  | name h1 h2 h3 h4 h5 =>
   cases h5
   rw [List.append_nil]
   exact ⟨_, _, h2, by omega, _, h4, rfl⟩
 obtain ⟨m, hm, hf, n, hr, he⟩ := mn_rm hd
 obtain ⟨h1, h2⟩ := mn_bound hg _ a u ha hd rfl
 have h6 := cn_le hg (u := u) (t := mn g a u)
 refine ⟨n + 1 + 0, ?_, ?_⟩
 ·by_cases hu0 : u = []
  ·have h3 := h1 hu0
   have h4 : 3 ^ cn g u (mn g a u) ≤ 3 ^ 6 := Nat.pow_le_pow_right (by decide) h6
   have h5 : 3 ^ 6 = 729 := by decide
   omega
  ·have h3 := h2 hu0
   omega
 ·have hh := SDn.name (g := g) (s := a + g.fLetters) (rest := []) (v := []) (by omega) hm (by omega) hr.sd .nil
  rw [List.append_nil] at hh
  exact hh
end
abbrev YMap := List (Key3 × GramChoice)
def ofC (E : IMap) (a i j : Int) : Int := (mget (key3 a i j) E).getD 1099511627776
def headC (g : ApiGrammar) (w : List Int) (E : IMap) (s i k : Int) : Int :=
 if s ≥ g.fLetters then ofC E (s - g.fLetters) i k else if k = i + 1 ∧ idx w i = some s then 0 else 1099511627776
def rstep (h : Int) (R : Int × List Int) (k : Int) (acc : Int × List Int) : Int × List Int :=
 if h = 1099511627776 then acc else if h + R.1 < acc.1 then (h + R.1, k :: R.2) else acc
def rowC (g : ApiGrammar) (w : List Int) (E : IMap) : List Int → Int → Int → Int × List Int
 | [], i, j => if i = j then (0, []) else (1099511627776, [])
 | s :: rest, i, j => (List.range (j - i + 1).toNat).foldl (fun acc (t : Nat) => rstep (headC g w E s i (i + (t : Int))) (rowC g w E rest (i + (t : Int)) j) (i + (t : Int)) acc) (1099511627776, [])
def CostC (E : IMap) : Prop := ∀ k c, mget k E = some c → 1 ≤ c ∧ c < 1099511627776
section
variable {g : ApiGrammar} {w : List Int} {E : IMap}
theorem ofC_le (h : CostC E) (a i j : Int) : 1 ≤ ofC E a i j ∧ ofC E a i j ≤ 1099511627776 := by
 unfold ofC
 cases e : mget (key3 a i j) E with
 | none => exact ⟨by decide, Int.le_refl _⟩
 | some c => have := h _ _ e; show 1 ≤ c ∧ c ≤ _; omega
theorem headC_le (h : CostC E) (s i k : Int) : 0 ≤ headC g w E s i k ∧ headC g w E s i k ≤ 1099511627776 := by
 unfold headC
 split
 ·have := ofC_le h (s - g.fLetters) i k; omega
 ·split <;> omega
theorem rowC_le (h : CostC E) : ∀ (signs : List Int) (i j : Int), 0 ≤ (rowC g w E signs i j).1 ∧ (rowC g w E signs i j).1 ≤ 1099511627776 ∧ (rowC g w E signs i j).2.length ≤ signs.length
 | [], i, j => by
  rw [rowC]
  split
  ·exact ⟨Int.le_refl _, by decide, Nat.le_refl _⟩
  ·exact ⟨by decide, Int.le_refl _, Nat.le_refl _⟩
 | s :: rest, i, j => by
  rw [rowC]
  refine foldl_rel (P := fun acc : Int × List Int => 0 ≤ acc.1 ∧ acc.1 ≤ 1099511627776 ∧ acc.2.length ≤ (s :: rest).length) (fun acc (t : Nat) hacc => ?_) _ _ ⟨by decide, Int.le_refl _, Nat.zero_le _⟩
  have h1 := headC_le (g := g) (w := w) h s i (i + (t : Int))
  have h2 := rowC_le h rest (i + (t : Int)) j
  unfold rstep
  split
  ·exact hacc
  ·split
   ·refine ⟨by show 0 ≤ _ + _; omega, by show _ + _ ≤ _; omega, ?_⟩
    simp only [List.length_cons]
    omega
   ·exact hacc
def kidsC (g : ApiGrammar) (E : IMap) : List Int → Int → List Int → Int
 | s :: ss, i, k :: ks => (if s ≥ g.fLetters then ofC E (s - g.fLetters) i k else 0) + kidsC g E ss k ks
 | _, _, _ => 0
theorem rowC_ok (h : CostC E) : ∀ (signs : List Int) (i j : Int), (rowC g w E signs i j).1 < 1099511627776 → (rowC g w E signs i j).2.length = signs.length ∧ kidsC g E signs i (rowC g w E signs i j).2 ≤ (rowC g w E signs i j).1
 | [], i, j => by
  rw [rowC]
  split
  ·exact fun _ => ⟨rfl, Int.le_refl _⟩
  ·exact fun e => absurd e (by decide)
 | s :: rest, i, j => by
  rw [rowC]
  refine foldl_rel (P := fun acc : Int × List Int => acc.1 < 1099511627776 → acc.2.length = (s :: rest).length ∧ kidsC g E (s :: rest) i acc.2 ≤ acc.1) (fun acc t hacc => ?_) _ _ (fun e => absurd e (by decide))
  have h1 := headC_le (g := g) (w := w) h s i (i + (t : Int))
  have h2 := rowC_le (g := g) (w := w) h rest (i + (t : Int)) j
  have h3 := rowC_ok h rest (i + (t : Int)) j
  unfold rstep
  split
  ·exact hacc
  ·rename_i hne
   split
   ·intro hlt
    have hlt : headC g w E s i (i + (t : Int)) + (rowC g w E rest (i + (t : Int)) j).1 < 1099511627776 := hlt
    obtain ⟨k1, k2⟩ := h3 (by omega)
    refine ⟨by simp only [List.length_cons, k1], ?_⟩
    show (if s ≥ g.fLetters then ofC E (s - g.fLetters) i (i + (t : Int)) else 0) + kidsC g E rest (i + (t : Int)) (rowC g w E rest (i + (t : Int)) j).2 ≤ headC g w E s i (i + (t : Int)) + (rowC g w E rest (i + (t : Int)) j).1
    unfold headC at h1 ⊢
    split
    ·omega
    ·rename_i hs
     rw [if_neg hs] at h1
     omega
   ·exact hacc
theorem fold_min {H : Nat → Int} {R : Nat → Int × List Int} {K : Nat → Int} : ∀ (l : List Nat) (acc : Int × List Int), (l.foldl (fun acc (t : Nat) => rstep (H t) (R t) (K t) acc) acc).1 ≤ acc.1 ∧ ∀ t ∈ l, H t ≠ 1099511627776 → (l.foldl (fun acc (t : Nat) => rstep (H t) (R t) (K t) acc) acc).1 ≤ H t + (R t).1
 | [], acc => ⟨Int.le_refl _, fun _ h => by cases h⟩
 | t :: l, acc => by
  obtain ⟨h1, h2⟩ := fold_min (H := H) (R := R) (K := K) l (rstep (H t) (R t) (K t) acc)
  have h3 : (rstep (H t) (R t) (K t) acc).1 ≤ acc.1 ∧ (H t ≠ 1099511627776 → (rstep (H t) (R t) (K t) acc).1 ≤ H t + (R t).1) := by
   unfold rstep
   split
   ·rename_i e; exact ⟨Int.le_refl _, fun c => absurd e c⟩
   ·split
    ·exact ⟨by show _ + _ ≤ _; omega, fun _ => Int.le_refl _⟩
    ·exact ⟨Int.le_refl _, fun _ => by omega⟩
  rw [List.foldl_cons]
  refine ⟨Int.le_trans h1 h3.1, fun u hu hne => ?_⟩
  rcases List.mem_cons.1 hu with rfl | hu
  ·exact Int.le_trans h1 (h3.2 hne)
  ·exact h2 u hu hne
theorem rowC_min {s : Int} {rest : List Int} {i j k : Int} (hk : i ≤ k ∧ k ≤ j) (hne : headC g w E s i k ≠ 1099511627776) : (rowC g w E (s :: rest) i j).1 ≤ headC g w E s i k + (rowC g w E rest k j).1 := by
 have h := (fold_min (H := fun t => headC g w E s i (i + (t : Int))) (R := fun t => rowC g w E rest (i + (t : Int)) j) (K := fun t => i + (t : Int)) (List.range (j - i + 1).toNat) (1099511627776, [])).2 (k - i).toNat (List.mem_range.2 (by omega))
 have e : i + (((k - i).toNat : Nat) : Int) = k := by omega
 simp only [e] at h
 rw [rowC]
 exact h hne
def ClosedA (g : ApiGrammar) (w : List Int) (E : IMap) (m : ApiMake) (i j : Int) : Prop := (rowC g w E m.fTo i j).1 < 1099511627776 → ofC E m.fFrom i j ≤ (rowC g w E m.fTo i j).1 + 1
def ClosedS (g : ApiGrammar) (w : List Int) (E : IMap) (s : Nat) : Prop := ∀ z : Nat, z < s → ∀ i : Nat, i + z ≤ w.length → ∀ m ∈ g.fMakes, ClosedA g w E m i ((i : Int) + (z : Int))
theorem idx_mid {p v : List Int} {x : Int} : idx (p ++ x :: v) (p.length : Int) = some x := by
 have h : p.length < (p ++ x :: v).length := by simp
 rw [idx_at h, List.getElem_append_right (Nat.le_refl _)]
 simp
theorem rowC_all (hE : CostC E) (hC : ClosedS g w E (w.length + 1)) {l u : List Int} {n : Nat} (h : SDn g l u n) : (n : Int) < 1099511627776 → ∀ p q : List Int, p ++ u ++ q = w → (rowC g w E l p.length ((p.length : Int) + u.length)).1 ≤ n := by
 induction h with
 | nil =>
  intro _ p q _
  rw [rowC, if_pos (by simp)]
  exact Int.le_refl _
 | @lett s rest u n h1 _ ih =>
  intro hn p q hw
  have h2 := ih hn (p ++ [s]) q (by simpa using hw)
  have hh : headC g w E s p.length ((p.length : Int) + 1) = 0 := by
   unfold headC
   rw [if_neg (by omega), if_pos ⟨rfl, by rw [← hw, List.append_assoc]; exact idx_mid⟩]
  have h3 := rowC_min (g := g) (w := w) (E := E) (s := s) (rest := rest) (i := p.length) (j := (p.length : Int) + (s :: u).length) (k := (p.length : Int) + 1) ⟨by omega, by rw [List.length_cons]; omega⟩ (by rw [hh]; decide)
  rw [hh] at h3
  have e1 : (((p ++ [s]).length : Nat) : Int) = (p.length : Int) + 1 := by simp
  have e2 : (p.length : Int) + 1 + (u.length : Int) = (p.length : Int) + ((s :: u).length : Int) := by rw [List.length_cons]; omega
  rw [e1, e2] at h2
  omega
 | @name s rest u v m n k h1 h2 h3 _ _ ih1 ih2 =>
  intro hn p q hw
  have k1 := ih1 (by omega) p (v ++ q) (by simpa using hw)
  have k2 := ih2 (by omega) (p ++ u) q (by simpa using hw)
  have hlw : p.length + u.length ≤ w.length := by rw [← hw]; simp only [List.length_append]; omega
  have hc := hC u.length (by omega) p.length hlw m h2 (by omega)
  have hh : headC g w E s p.length ((p.length : Int) + u.length) = ofC E m.fFrom p.length ((p.length : Int) + u.length) := by
   unfold headC
   rw [if_pos h1, h3]
  have h4 := rowC_min (g := g) (w := w) (E := E) (s := s) (rest := rest) (i := p.length) (j := (p.length : Int) + (u ++ v).length) (k := (p.length : Int) + u.length) ⟨by omega, by rw [List.length_append]; omega⟩ (by rw [hh]; omega)
  rw [hh] at h4
  have e1 : (((p ++ u).length : Nat) : Int) = (p.length : Int) + u.length := by simp
  have e2 : (p.length : Int) + (u.length : Int) + (v.length : Int) = (p.length : Int) + ((u ++ v).length : Int) := by rw [List.length_append]; omega
  rw [e1, e2] at k2
  omega
def ChoiceOk (g : ApiGrammar) (E : IMap) (i : Int) (c : Int) (b : GramChoice) : Prop := ∃ m, idx g.fMakes b.fMake = some m ∧ b.fEnds.length = m.fTo.length ∧ (c < 1099511627775 → kidsC g E m.fTo i b.fEnds + 1 ≤ c)
structure CInv (g : ApiGrammar) (E : IMap) (Y : YMap) : Prop where
 cost : CostC E
 by_ : ∀ a i j c, mget (key3 a i j) E = some c → ∃ b, mget (key3 a i j) Y = some b ∧ ChoiceOk g E i c b
theorem kids_mono {E' : IMap} (h : ∀ a i j, ofC E' a i j ≤ ofC E a i j) : ∀ (l : List Int) (i : Int) (ks : List Int), kidsC g E' l i ks ≤ kidsC g E l i ks
 | [], _, _ => by simp [kidsC]
 | s :: ss, i, [] => by simp [kidsC]
 | s :: ss, i, k :: ks => by
  have h1 := kids_mono h ss k ks
  have h2 := h (s - g.fLetters) i k
  rw [kidsC, kidsC]
  split <;> omega
theorem kids_nn (h : CostC E) : ∀ (l : List Int) (i : Int) (ks : List Int), 0 ≤ kidsC g E l i ks
 | [], _, _ => by simp [kidsC]
 | s :: ss, i, [] => by simp [kidsC]
 | s :: ss, i, k :: ks => by
  have h1 := kids_nn h ss k ks
  have h2 := ofC_le h (s - g.fLetters) i k
  rw [kidsC]
  split <;> omega
theorem ofC_put {a i j c a' i' j' : Int} : ofC (mput (key3 a i j) c E) a' i' j' = if key3 a' i' j' = key3 a i j then c else ofC E a' i' j' := by
 unfold ofC
 rw [mget_put]
 split <;> rfl
theorem rowC_congr {E' : IMap} {J : Int} : ∀ (l : List Int) (i j : Int) (I : Int), I ≤ i → j ≤ J → (∀ a x y, I ≤ x → y ≤ J → ofC E' a x y = ofC E a x y) → rowC g w E' l i j = rowC g w E l i j
 | [], i, j, I, _, _, _ => by rw [rowC, rowC]
 | s :: rest, i, j, I, hi, hj, h => by
  rw [rowC, rowC]
  have : ∀ (l : List Nat), (∀ t ∈ l, i + (t : Int) ≤ j) → ∀ acc, l.foldl (fun acc (t : Nat) => rstep (headC g w E' s i (i + (t : Int))) (rowC g w E' rest (i + (t : Int)) j) (i + (t : Int)) acc) acc = l.foldl (fun acc (t : Nat) => rstep (headC g w E s i (i + (t : Int))) (rowC g w E rest (i + (t : Int)) j) (i + (t : Int)) acc) acc := by
   intro l
   induction l with
   | nil => intro _ _; rfl
   | cons t l ih =>
    intro hl acc
    rw [List.foldl_cons, List.foldl_cons, ih fun x hx => hl x (List.mem_cons_of_mem _ hx)]
    have ht := hl t List.mem_cons_self
    have e1 : headC g w E' s i (i + (t : Int)) = headC g w E s i (i + (t : Int)) := by
     unfold headC
     rw [h _ _ _ hi (by omega)]
    rw [e1, rowC_congr rest (i + (t : Int)) j I (by omega) hj h]
  exact this _ (fun t ht => by have := List.mem_range.1 ht; omega) _
def allC : List Key3 := (List.range 6).flatMap fun (a : Nat) => (List.range 13).flatMap fun (b : Nat) => (List.range 13).map fun (c : Nat) => key3 (a : Int) (b : Int) (c : Int)
def muC (E : IMap) : Nat := (allC.map fun k => ((mget k E).getD 1099511627776).toNat).sum
theorem mem_allC {a i j : Int} (ha : 0 ≤ a ∧ a < 6) (hi : 0 ≤ i ∧ i ≤ 12) (hj : 0 ≤ j ∧ j ≤ 12) : key3 a i j ∈ allC := by
 unfold allC
 simp only [List.mem_flatMap, List.mem_map, List.mem_range]
 exact ⟨a.toNat, by omega, i.toNat, by omega, j.toNat, by omega, by rw [Int.toNat_of_nonneg ha.1, Int.toNat_of_nonneg hi.1, Int.toNat_of_nonneg hj.1]⟩
theorem sum_ltC {α : Type} {f h : α → Nat} : ∀ {l : List α}, (∀ x ∈ l, f x ≤ h x) → (l.map f).sum ≤ (l.map h).sum ∧ ((∃ x ∈ l, f x < h x) → (l.map f).sum < (l.map h).sum)
 | [], _ => ⟨Nat.le_refl _, fun ⟨x, hx, _⟩ => by cases hx⟩
 | y :: l, hh => by
  obtain ⟨h1, h2⟩ := sum_ltC (l := l) fun x hx => hh x (List.mem_cons_of_mem _ hx)
  have h3 := hh y List.mem_cons_self
  simp only [List.map_cons, List.sum_cons]
  refine ⟨by omega, fun ⟨x, hx, hl⟩ => ?_⟩
  rcases List.mem_cons.1 hx with rfl | hx
  ·omega
  ·have := h2 ⟨x, hx, hl⟩
   omega
theorem muC_put {a i j c : Int} (hE : CostC E) (hk : key3 a i j ∈ allC) (hc : 0 ≤ c ∧ c < ofC E a i j) : muC (mput (key3 a i j) c E) < muC E := by
 refine (sum_ltC fun k _ => ?_).2 ⟨_, hk, ?_⟩
 ·show ((mget k (mput (key3 a i j) c E)).getD 1099511627776).toNat ≤ _
  rw [mget_put]
  split
  ·rename_i e
   subst e
   show c.toNat ≤ (ofC E a i j).toNat
   omega
  ·exact Nat.le_refl _
 ·show ((mget (key3 a i j) (mput (key3 a i j) c E)).getD 1099511627776).toNat < (ofC E a i j).toNat
  rw [mget_put, if_pos rfl]
  show c.toNat < _
  have := ofC_le hE a i j
  omega
variable {Y : YMap}
theorem CInv.start : CInv g [] [] := ⟨(fun _ _ h => by cases h), (fun _ _ _ _ h => by cases h)⟩
theorem CInv.put (h : CInv g E Y) {m : ApiMake} {k : Nat} (hk : k < g.fMakes.length) (hm : g.fMakes[k] = m) {i j : Int}
  (h1 : (rowC g w E m.fTo i j).1 < 1099511627776) (h2 : (rowC g w E m.fTo i j).1 + 1 < ofC E m.fFrom i j) {c : Int} (hc : c = if 1099511627775 < (rowC g w E m.fTo i j).1 + 1 then 1099511627775 else (rowC g w E m.fTo i j).1 + 1) :
  CInv g (mput (key3 m.fFrom i j) c E) (mput (key3 m.fFrom i j) (GramChoice.mk k (rowC g w E m.fTo i j).2) Y) ∧ 0 ≤ c ∧ c < ofC E m.fFrom i j := by
 have hle := ofC_le h.cost m.fFrom i j
 have hr := rowC_le (g := g) (w := w) h.cost m.fTo i j
 obtain ⟨k1, k2⟩ := rowC_ok (g := g) (w := w) h.cost m.fTo i j h1
 have hcr : 1 ≤ c ∧ c < ofC E m.fFrom i j ∧ (c < 1099511627775 → c = (rowC g w E m.fTo i j).1 + 1) := by
  subst hc
  split <;> omega
 have hmono : ∀ a x y, ofC (mput (key3 m.fFrom i j) c E) a x y ≤ ofC E a x y := fun a x y => by
  rw [ofC_put]
  split
  ·rename_i e
   obtain ⟨rfl, rfl, rfl⟩ := key3_inj e
   omega
  ·exact Int.le_refl _
 refine ⟨⟨fun k0 c0 h0 => ?_, fun a x y c0 h0 => ?_⟩, by omega, hcr.2.1⟩
 ·rw [mget_put] at h0
  split at h0
  ·cases h0
   omega
  ·exact h.cost k0 c0 h0
 ·rw [mget_put] at h0
  rw [mget_put]
  split at h0
  ·rename_i e
   cases h0
   obtain ⟨rfl, rfl, rfl⟩ := key3_inj e
   rw [if_pos rfl]
   refine ⟨_, rfl, m, by rw [← hm]; exact idx_at hk, k1, fun hlt => ?_⟩
   have := kids_mono (g := g) hmono m.fTo x (rowC g w E m.fTo x y).2
   show kidsC g _ m.fTo x (rowC g w E m.fTo x y).2 + 1 ≤ c
   have := hcr.2.2 hlt
   omega
  ·rename_i e
   rw [if_neg e]
   obtain ⟨b, hb, m', e1, e2, e3⟩ := h.by_ a x y c0 h0
   refine ⟨b, hb, m', e1, e2, fun hlt => ?_⟩
   have h5 := e3 hlt
   have h6 := kids_mono (g := g) hmono m'.fTo x b.fEnds
   omega
theorem ClosedS.put {s : Nat} (h : ClosedS g w E s) {a i c : Int} : ClosedS g w (mput (key3 a i (i + (s : Int))) c E) s := by
 intro z hz x hx m hm
 have hcg : ∀ b p q, (x : Int) ≤ p → q ≤ (x : Int) + (z : Int) → ofC (mput (key3 a i (i + (s : Int))) c E) b p q = ofC E b p q := fun b p q hp hq => by
  rw [ofC_put]
  split
  ·rename_i e
   obtain ⟨_, rfl, e3⟩ := key3_inj e
   omega
  ·rfl
 have h1 := h z hz x hx m hm
 unfold ClosedA at h1 ⊢
 rw [rowC_congr m.fTo x _ x (Int.le_refl _) (Int.le_refl _) hcg, hcg _ _ _ (Int.le_refl _) (Int.le_refl _)]
 exact h1
theorem ClosedS.next {s : Nat} (h : ClosedS g w E s) (h2 : ∀ i : Nat, i + s ≤ w.length → ∀ m ∈ g.fMakes, ClosedA g w E m i ((i : Int) + (s : Int))) : ClosedS g w E (s + 1) := fun z hz => by
 rcases Nat.lt_succ_iff_lt_or_eq.1 hz with hz | rfl
 ·exact h z hz
 ·exact h2
theorem told_found (hg : GrmOk g) (hE : CostC E) (hC : ClosedS g w E (w.length + 1)) (hw : w.length ≤ 12) (h : SDer g [g.fLetters] w) : ofC E 0 0 w.length ≠ 1099511627776 := by
 have hn := hg.names
 obtain ⟨n, hn1, hd⟩ := small_der hg (a := 0) (u := w) ⟨Int.le_refl _, by omega⟩ (by rw [Int.zero_add]; exact h) hw
 rw [Int.zero_add] at hd
 cases hd with
 | lett h1 _ => exact absurd h1 (by omega)
 | @name _ _ u v m k n2 h1 h2 h3 h4 h5 =>
  cases h5
  rw [List.append_nil] at hw hC h ⊢
  have h6 := rowC_all (w := u) hE hC h4 (by omega) [] [] (by simp)
  have h7 := hC u.length (Nat.lt_succ_self _) 0 (by omega) m h2
  unfold ClosedA at h7
  have h6 : (rowC g u E m.fTo 0 (0 + (u.length : Int))).1 ≤ k := h6
  have h7 : (rowC g u E m.fTo 0 (0 + (u.length : Int))).1 < 1099511627776 → ofC E m.fFrom 0 (0 + (u.length : Int)) ≤ (rowC g u E m.fTo 0 (0 + (u.length : Int))).1 + 1 := h7
  have h8 := h7 (by omega)
  rw [h3, Int.sub_self, Int.zero_add] at h8
  rw [Int.zero_add] at h6
  omega
structure RowPre (g : ApiGrammar) (w : List Int) (E : IMap) (signs : List Int) (i j : Int) (n : Nat) : Prop where
 fuel : signs.length < n
 lo : 0 ≤ i
 mid : i ≤ j
 hi : j ≤ w.length
 len : w.length ≤ 12
 cost : CostC E
 lets : 1 ≤ g.fLetters ∧ g.fLetters ≤ 4
 sg : ∀ s ∈ signs, 0 ≤ s ∧ s < 10
 sl : signs.length ≤ 3
end
end Go.Proofs.Ytobenjahlicnoaa
