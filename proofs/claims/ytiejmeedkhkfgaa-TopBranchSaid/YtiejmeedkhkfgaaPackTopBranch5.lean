/- Lemmas towards the statement: mirrors of functions, and plain laws. No condition. -/
import Derived.Test.YtiejmeedkhkfgaaPackTopBranch4
namespace Go.Proofs.Ytiejmeedkhkfgaa
open Go.RowKit Go.MapKept
set_option linter.unusedSimpArgs false
set_option linter.unusedVariables false
set_option maxRecDepth 100000
def isNan_vc (x : Int) (Q : Bool → Prop) : Prop :=
 Q (x != x)
theorem isNan_walk (x : Int) (Q : Bool → Prop) (h : isNan_vc x Q) : Ct 133 [.sv (.one (I x))] [] Q (fun (r : Bool) => .sv (.one (B r))) := by
 have ht := tab_ok
 refine Ct.body Try.func133 rfl rfl rfl rfl (fun c hn => ?_)
 unfold isNan_vc at h
 refine En.sr ?_
 refine WL.rn ht hn 1 ⟨[sl 0 (I x)], []⟩ ?_
 refine En.sr ?_
 refine WL.rn ht hn 4 ⟨[sl 2 (B (x != x))], []⟩ ?_
 exact En.rb ht (x != x) h
theorem en133 : ∀ args w, (callFunc 133 args).run Try.prog w = .ok (.enter 133 args) w := enters_of Try.func133 (by kernel_rfl) rfl
theorem isNan_ct (x : Int)  : Ct 133 [.sv (.one (I x))] [] (fun (_ : Unit) => True) (fun _ => .sv (.one (B (false)))) := by
 refine (isNan_walk x (fun res_ => res_ = (false)) ?_).fun
 unfold isNan_vc
 simp
def cmpC_vc (x : Int) (y : Int) (Q : Int → Prop) : Prop :=
 IfP (false) (IfP (false) (Q 0) (Q (-1))) (IfP (false) (Q 1) (IfP (decide (x < y)) (Q (-1)) (IfP (decide (x > y)) (Q 1) (Q 0))))
theorem cmpC_walk (x : Int) (y : Int) (Q : Int → Prop) (h : cmpC_vc x y Q) : Ct 94 [.sv (.one (I x)), .sv (.one (I y))] [] Q (fun (r : Int) => .sv (.one (I r))) := by
 have ht := tab_ok
 refine Ct.body Try.func94 rfl rfl rfl rfl (fun c hn => ?_)
 unfold cmpC_vc at h
 refine En.sr ?_
 refine WL.rn ht hn 1 ⟨[sl 0 (I x), sl 1 (I y)], []⟩ ?_
 refine En.sr ?_
 refine WL.r ht hn 1 ⟨[sl 0 (I x), sl 1 (I y), sl 7 (I x)], []⟩ ?_
 refine WL.m0 hn (mt_c (isNan_ct x) en133 rfl) ?_
 refine WL.rn ht hn 1 ⟨[sl 0 (I x), sl 1 (I y), sl 5 (B false)], []⟩ ?_
 refine En.sr ?_
 refine WL.r ht hn 1 ⟨[sl 0 (I x), sl 1 (I y), sl 5 (B false), sl 9 (I y)], []⟩ ?_
 refine WL.m0 hn (mt_c (isNan_ct y) en133 rfl) ?_
 refine WL.rn ht hn 1 ⟨[sl 0 (I x), sl 1 (I y), sl 5 (B false), sl 6 (B false)], []⟩ ?_
 refine En.seq ?_
 refine En.sr ?_
 refine WL.rn ht hn 1 ⟨[sl 0 (I x), sl 1 (I y), sl 6 (B false), sl 11 (B false)], []⟩ ?_
 refine En.cd (b := false) (fun hb => ?_) (fun hb => ?_)
 replace h := h.1 hb
 refine En.seq ?_
 refine En.sr ?_
 refine WL.rn ht hn 1 ⟨[sl 12 (B false)], []⟩ ?_
 refine En.cd (b := false) (fun hb => ?_) (fun hb => ?_)
 replace h := h.1 hb
 refine En.sr ?_
 refine WL.rn ht hn 1 ⟨[sl 4 (I 0)], []⟩ ?_
 exact En.rb ht 0 h
 replace h := h.2 hb
 refine En.skip ?_
 refine En.sr ?_
 refine WL.rn ht hn 1 ⟨[sl 4 (I (-1))], []⟩ ?_
 exact En.rb ht (-1) h
 replace h := h.2 hb
 refine En.skip ?_
 refine En.seq ?_
 refine En.sr ?_
 refine WL.rn ht hn 1 ⟨[sl 0 (I x), sl 1 (I y), sl 13 (B false)], []⟩ ?_
 refine En.cd (b := false) (fun hb => ?_) (fun hb => ?_)
 replace h := h.1 hb
 refine En.sr ?_
 refine WL.rn ht hn 1 ⟨[sl 4 (I 1)], []⟩ ?_
 exact En.rb ht 1 h
 replace h := h.2 hb
 refine En.skip ?_
 refine En.seq ?_
 refine En.sr ?_
 refine WL.rn ht hn 3 ⟨[sl 0 (I x), sl 1 (I y), sl 16 (B (decide (x < y)))], []⟩ ?_
 refine En.cd (b := (decide (x < y))) (fun hb => ?_) (fun hb => ?_)
 replace h := h.1 hb
 refine En.sr ?_
 refine WL.rn ht hn 1 ⟨[sl 4 (I (-1))], []⟩ ?_
 exact En.rb ht (-1) h
 replace h := h.2 hb
 refine En.skip ?_
 refine En.seq ?_
 refine En.sr ?_
 refine WL.rn ht hn 3 ⟨[sl 19 (B (decide (x > y)))], []⟩ ?_
 refine En.cd (b := (decide (x > y))) (fun hb => ?_) (fun hb => ?_)
 replace h := h.1 hb
 refine En.sr ?_
 refine WL.rn ht hn 1 ⟨[sl 4 (I 1)], []⟩ ?_
 exact En.rb ht 1 h
 replace h := h.2 hb
 refine En.skip ?_
 refine En.sr ?_
 refine WL.rn ht hn 1 ⟨[sl 4 (I 0)], []⟩ ?_
 exact En.rb ht 0 h
theorem en94 : ∀ args w, (callFunc 94 args).run Try.prog w = .ok (.enter 94 args) w := enters_of Try.func94 (by kernel_rfl) rfl
def cmpI (x y : Int) : Int := if x < y then -1 else if x > y then 1 else 0
theorem cmpC_ct (x : Int) (y : Int)  : Ct 94 [.sv (.one (I x)), .sv (.one (I y))] [] (fun (_ : Unit) => True) (fun _ => .sv (.one (I (cmpI x y)))) := by
 refine (cmpC_walk x y (fun res_ => res_ = (cmpI x y)) ?_).fun
 unfold cmpC_vc cmpI
 refine ⟨fun h => Bool.noConfusion h, fun _ => ⟨fun h => Bool.noConfusion h, fun _ => ⟨fun h => ?_, fun h => ⟨fun h2 => ?_, fun h2 => ?_⟩⟩⟩⟩
 ·have h := of_decide_eq_true h; rw [if_pos h]
 ·have h := of_decide_eq_false h; have h2 := of_decide_eq_true h2; rw [if_neg h, if_pos h2]
 ·have h := of_decide_eq_false h; have h2 := of_decide_eq_false h2; rw [if_neg h, if_neg h2]
def cmpOr_vc (l : (List Int)) (Q : Int → Prop) : Prop :=
 l.length ≤ 9223372036854775807 →
 (∃ (Inv : Int → Prop) (mu : Int → Nat), Inv 0 ∧
 ∀ (x8 : Int) , Inv x8 → (IfP (decide (x8 < (l.length : Int))) (∃ e, idx l x8 = some e ∧
 IfP (e != 0) (Q e) ((Inv (wr (x8 + 1)) ∧ mu (wr (x8 + 1)) < mu x8))) (Q 0)))
theorem cmpOr_walk (l : (List Int)) (Q : Int → Prop) (h : cmpOr_vc l Q) : Ct 93 [.sv (.one (LS intT l))] [] Q (fun (r : Int) => .sv (.one (I r))) := by
 have ht := tab_ok
 refine Ct.body Try.func93 rfl rfl rfl rfl (fun c hn => ?_)
 unfold cmpOr_vc at h
 refine En.lenL 0 (by rfl) (fun hl => ?_)
 replace h := h hl
 clear hl
 refine En.sr ?_
 refine WL.rn ht hn 1 ⟨[sl 0 (LS intT l)], []⟩ ?_
 refine En.sr ?_
 refine WL.rn ht hn 1 ⟨[sl 0 (LS intT l), sl 3 (I 0)], []⟩ ?_
 refine En.seq ?_
 refine En.sr ?_
 refine WL.rn ht hn 3 ⟨[sl 3 (I 0), sl 6 (LS intT l), sl 7 (I (l.length : Int)), sl 8 (I 0)], []⟩ ?_
 refine En.block ?_
 obtain ⟨Inv, mu, h0, hI⟩ := h
 refine En.loop (σ := Int) (fun zz => Inv zz) (fun zz => mu zz) (fun zz => ⟨[sl 3 (I 0), sl 6 (LS intT l), sl 7 (I (l.length : Int)), sl 8 (I zz)], []⟩) 0 h0 (sub_ok (by kernel_rfl)) ?_
 intro x8 h
 replace h := hI _ h
 show En c ⟨[sl 3 (I 0), sl 6 (LS intT l), sl 7 (I (l.length : Int)), sl 8 (I x8)], []⟩ _
 refine En.sr ?_
 refine WL.rn ht hn 1 ⟨[sl 3 (I 0), sl 6 (LS intT l), sl 7 (I (l.length : Int)), sl 8 (I x8), sl 9 (B (decide (x8 < (l.length : Int))))], []⟩ ?_
 refine En.seq ?_
 refine En.cd (b := (decide (x8 < (l.length : Int)))) (fun hb => ?_) (fun hb => ?_)
 replace h := h.1 hb
 refine En.skip ?_
 refine En.seq ?_
 refine En.block ?_
 refine En.sr ?_
 obtain ⟨e, he, h⟩ := h
 refine WL.v hn (val_ix (T := intT) (l := l) (i := x8) ht rfl he) ?_
 refine WL.v hn (val_ld (s := .one (I e)) ht rfl) ?_
 refine WL.rn ht hn 1 ⟨[sl 3 (I 0), sl 5 (I e), sl 6 (LS intT l), sl 7 (I (l.length : Int)), sl 8 (I x8)], []⟩ ?_
 refine En.sr ?_
 refine WL.rn ht hn 3 ⟨[sl 3 (I 0), sl 5 (I e), sl 6 (LS intT l), sl 7 (I (l.length : Int)), sl 8 (I x8), sl 14 (B (e != 0))], []⟩ ?_
 refine En.cd (b := (e != 0)) (fun hb => ?_) (fun hb => ?_)
 replace h := h.1 hb
 refine En.sr ?_
 refine WL.rn ht hn 2 ⟨[sl 2 (I e)], []⟩ ?_
 exact En.rb ht e h
 replace h := h.2 hb
 refine En.skip ?_
 refine En.region ?_
 refine WL.rn ht hn 2 ⟨[sl 3 (I 0), sl 6 (LS intT l), sl 7 (I (l.length : Int)), sl 8 (I (wr (x8 + 1)))], []⟩ ?_
 exact En.at (I := fun zz => Inv zz ∧ mu zz < mu x8) (T := fun zz => ⟨[sl 3 (I 0), sl 6 (LS intT l), sl 7 (I (l.length : Int)), sl 8 (I zz)], []⟩) (wr (x8 + 1)) h (by kernel_rfl)
 replace h := h.2 hb
 refine En.exit rfl ?_
 refine En.sr ?_
 refine WL.rn ht hn 2 ⟨[sl 2 (I 0)], []⟩ ?_
 exact En.rb ht 0 h
theorem en93 : ∀ args w, (callFunc 93 args).run Try.prog w = .ok (.enter 93 args) w := enters_of Try.func93 (by kernel_rfl) rfl
def firstNZ : List Int → Int
 | [] => 0
 | x :: l => if x != 0 then x else firstNZ l
theorem firstNZ_drop {l : List Int} {k : Nat} (h : k < l.length) : firstNZ (l.drop k) = if l[k] != 0 then l[k] else firstNZ (l.drop (k + 1)) := by
 rw [List.drop_eq_getElem_cons h, firstNZ]
theorem cmpOr_ct (l : (List Int))  : Ct 93 [.sv (.one (LS intT l))] [] (fun (_ : Unit) => True) (fun _ => .sv (.one (I (firstNZ l)))) := by
 refine (cmpOr_walk l (fun res_ => res_ = (firstNZ l)) ?_).fun
 unfold cmpOr_vc
 intro _
 refine ⟨fun i => ∃ k : Nat, i = k ∧ k ≤ l.length ∧ firstNZ (l.drop k) = firstNZ l, fun i => l.length - i.toNat, ⟨0, rfl, Nat.zero_le _, rfl⟩, ?_⟩
 rintro i ⟨k, rfl, hk, he⟩
 refine ⟨fun hb => ?_, fun hb => ?_⟩
 ·have hlt := dlt hb
  rw [firstNZ_drop hlt] at he
  refine ⟨_, idx_at hlt, fun h => ?_, fun h => ⟨⟨k + 1, wsucc (by omega), hlt, ?_⟩, mu_up hlt (by omega)⟩⟩
  ·rw [if_pos h] at he
   exact he
  ·rw [if_neg (by rw [h]; decide)] at he
   exact he
 ·rw [List.drop_eq_nil_of_le (dge hb)] at he
  exact he
def samOrd_vc (x : ApiArrow) (y : ApiArrow) (Q : Int → Prop) : Prop :=
 Q (firstNZ ([(cmpI x.fFrom y.fFrom), (cmpI x.fLetter y.fLetter), (cmpI x.fTo y.fTo)] : (List Int)))
noncomputable abbrev qsamOrd0 (x : ApiArrow) (y : ApiArrow) := (firstNZ ([(cmpI x.fFrom y.fFrom), (cmpI x.fLetter y.fLetter), (cmpI x.fTo y.fTo)] : (List Int)))
theorem samOrd_walk (x : ApiArrow) (y : ApiArrow) (Q : Int → Prop) (h : samOrd_vc x y Q) : Ct 45 [.sv (.agg [I x.fFrom, I x.fLetter, I x.fTo]), .sv (.agg [I y.fFrom, I y.fLetter, I y.fTo])] [] Q (fun (r : Int) => .sv (.one (I r))) := by
 have ht := tab_ok
 refine Ct.body Try.func45 rfl rfl rfl rfl (fun c hn => ?_)
 unfold samOrd_vc at h
 refine En.sr ?_
 refine WL.rn ht hn 3 ⟨[sl 2 (.ptr 0 0), sl 3 (.ptr 1 0)], [.box (ApiArrow.cl x) 26 false, .box (ApiArrow.cl y) 26 false]⟩ ?_
 refine En.seq ?_
 refine En.regionA ⟨[sl 2 (.ptr 0 0), sl 3 (.ptr 1 0)], [.sv (.one (.ptr 0 0)), .sv (.one (I x.fFrom)), .sv (.one (.ptr 1 0)), .sv (.one (I y.fFrom)), .sv (.one (I (cmpI x.fFrom y.fFrom))), .sv (.one (.ptr 0 1)), .sv (.one (I x.fLetter)), .sv (.one (.ptr 1 1)), .sv (.one (I y.fLetter)), .sv (.one (I (cmpI x.fLetter y.fLetter))), .sv (.one (.ptr 0 2)), .sv (.one (I x.fTo)), .sv (.one (.ptr 1 2)), .sv (.one (I y.fTo)), .sv (.one (I (cmpI x.fTo y.fTo))), .sv (.one (.own 2)), .sv (.one (I (qsamOrd0 x y))), .sv (.one (I (qsamOrd0 x y)))], [⟨.box (ApiArrow.cl x) 26 false, none, none, none⟩, ⟨.box (ApiArrow.cl y) 26 false, none, none, none⟩, ⟨rowI 3 intT ([(cmpI x.fFrom y.fFrom), (cmpI x.fLetter y.fLetter), (cmpI x.fTo y.fTo)] : (List Int)), some 15, none, none⟩]⟩ ⟨[sl 4 (I (qsamOrd0 x y))], [.gone, .gone, .gone]⟩ (by kernel_rfl) hn (by kernel_rfl) (by rfl) (by kernel_rfl) ?_ (by kernel_rfl) ?_
 ·exact ⟨.ev ⟨[sl 2 (.ptr 0 0)], []⟩ ht,
  .ev ⟨[sl 5 (.ptr 0 0)], [.box (ApiArrow.cl x) 26 false]⟩ ht,
  .ev ⟨[sl 3 (.ptr 1 0)], []⟩ ht,
  .ev ⟨[sl 7 (.ptr 1 0)], [.gone, .box (ApiArrow.cl y) 26 false]⟩ ht,
  .vl ⟨[sl 6 (I x.fFrom), sl 8 (I y.fFrom)], []⟩ (mt_c (cmpC_ct x.fFrom y.fFrom) en94 rfl),
  .ev ⟨[sl 2 (.ptr 0 0)], []⟩ ht,
  .ev ⟨[sl 10 (.ptr 0 1)], [.box (ApiArrow.cl x) 26 false]⟩ ht,
  .ev ⟨[sl 3 (.ptr 1 0)], []⟩ ht,
  .ev ⟨[sl 12 (.ptr 1 1)], [.gone, .box (ApiArrow.cl y) 26 false]⟩ ht,
  .vl ⟨[sl 11 (I x.fLetter), sl 13 (I y.fLetter)], []⟩ (mt_c (cmpC_ct x.fLetter y.fLetter) en94 rfl),
  .ev ⟨[sl 2 (.ptr 0 0)], []⟩ ht,
  .ev ⟨[sl 15 (.ptr 0 2)], [.box (ApiArrow.cl x) 26 false]⟩ ht,
  .ev ⟨[sl 3 (.ptr 1 0)], []⟩ ht,
  .ev ⟨[sl 17 (.ptr 1 2)], [.gone, .box (ApiArrow.cl y) 26 false]⟩ ht,
  .vl ⟨[sl 16 (I x.fTo), sl 18 (I y.fTo)], []⟩ (mt_c (cmpC_ct x.fTo y.fTo) en94 rfl),
  .mt ⟨[sl 9 (I (cmpI x.fFrom y.fFrom)), sl 14 (I (cmpI x.fLetter y.fLetter)), sl 19 (I (cmpI x.fTo y.fTo))], []⟩ [] (some 2) (by kernel_rfl) (by rfl) (mt_lit (T := intT) ([(cmpI x.fFrom y.fFrom), (cmpI x.fLetter y.fLetter), (cmpI x.fTo y.fTo)] : (List Int)) (mt_bsl 2 (r := cellsOf intT ([(cmpI x.fFrom y.fFrom), (cmpI x.fLetter y.fLetter), (cmpI x.fTo y.fTo)] : (List Int))) ht rfl (by rfl) (by rfl) (by rfl) (by kernel_rfl) (by rfl)) (fun _ h => by cases h) (fun _ => rfl) (fun _ => rfl) (by rfl) (Nat.le_of_ble_eq_true rfl)) rfl rfl rfl rfl,
  .mt ⟨[sl 20 (.own 2)], [.gone, .gone, rowI 3 intT ([(cmpI x.fFrom y.fFrom), (cmpI x.fLetter y.fLetter), (cmpI x.fTo y.fTo)] : (List Int))]⟩ [] none (by kernel_rfl) (by rfl) (mt_lend (T := intT) (l := ([(cmpI x.fFrom y.fFrom), (cmpI x.fLetter y.fLetter), (cmpI x.fTo y.fTo)] : (List Int))) 2 (by rfl) (by rfl) (mt_c (cmpOr_ct ([(cmpI x.fFrom y.fFrom), (cmpI x.fLetter y.fLetter), (cmpI x.fTo y.fTo)] : (List Int))) en93 rfl)) rfl rfl rfl rfl,
  .ev ⟨[sl 21 (I (qsamOrd0 x y))], []⟩ ht,
  trivial⟩
 ·refine En.ret ?_
  exact En.back ht (qsamOrd0 x y) h (by kernel_rfl) rfl
theorem en45 : ∀ args w, (callFunc 45 args).run Try.prog w = .ok (.enter 45 args) w := enters_of Try.func45 (by kernel_rfl) rfl
def ordA (x y : ApiArrow) : Int := firstNZ [cmpI x.fFrom y.fFrom, cmpI x.fLetter y.fLetter, cmpI x.fTo y.fTo]
theorem samOrd_ct (x : ApiArrow) (y : ApiArrow)  : Ct 45 [.sv (.agg [I x.fFrom, I x.fLetter, I x.fTo]), .sv (.agg [I y.fFrom, I y.fLetter, I y.fTo])] [] (fun (_ : Unit) => True) (fun _ => .sv (.one (I (ordA x y)))) := by
 refine (samOrd_walk x y (fun res_ => res_ = (ordA x y)) ?_).fun
 unfold samOrd_vc
 rfl
def samC1_vc (p : Int) (g : ApiGraph) (Q : Bool → Prop) : Prop :=
 Q ((decide (p < 0)) || (decide (p ≥ g.fPlaces)))
theorem samC1_walk (p : Int) (g : ApiGraph) (Q : Bool → Prop) (h : samC1_vc p g Q) : Ct 42 [.sv (.one (I p)), .sv (.one (.ptr 0 0))] [.box [I g.fLetters, I g.fPlaces, LS ApiArrow.ty g.fArrows] 24 true] Q (fun (r : Bool) => .sv (.one (B r))) := by
 have ht := tab_ok
 refine Ct.body Try.func42 rfl rfl rfl rfl (fun c hn => ?_)
 unfold samC1_vc at h
 refine En.sr ?_
 refine WL.rn ht hn 1 ⟨[sl 0 (I p), sl 1 (.ptr 0 0)], [.box (ApiGraph.cl g) 24 true]⟩ ?_
 refine En.sr ?_
 refine WL.r ht hn 3 ⟨[sl 0 (I p), sl 1 (.ptr 0 0), sl 6 (B (decide (p < 0)))], [.box (ApiGraph.cl g) 24 true]⟩ ?_
 refine WL.thru ⟨[sl 3 (B ((decide (p < 0)) || (decide (p ≥ g.fPlaces))))], [.gone]⟩ ?_ ?_
 refine splitB (decide (p < 0)) (fun hb0 => ?_) (fun hb0 => ?_)
 refine WL.sB 6 hb0 ?_
 refine WL.r ht hn 6 ⟨[sl 3 (B true)], [.gone]⟩ ?_
 exact WL.nil (sub_ok (by simp only [hb0]; kernel_rfl))
 refine WL.sB 6 hb0 ?_
 refine WL.r ht hn 6 ⟨[sl 3 (B (decide (p ≥ g.fPlaces)))], [.gone]⟩ ?_
 exact WL.nil (sub_ok (by simp only [hb0]; kernel_rfl))
 exact En.rb ht ((decide (p < 0)) || (decide (p ≥ g.fPlaces))) h
theorem en42 : ∀ args w, (callFunc 42 args).run Try.prog w = .ok (.enter 42 args) w := enters_of Try.func42 (by kernel_rfl) rfl
theorem samC1_ct (p : Int) (g : ApiGraph)  : Ct 42 [.sv (.one (I p)), .sv (.one (.ptr 0 0))] [.box [I g.fLetters, I g.fPlaces, LS ApiArrow.ty g.fArrows] 24 true] (fun (_ : Unit) => True) (fun _ => .sv (.one (B ((decide (p < 0)) || (decide (p ≥ g.fPlaces)))))) := by
 refine (samC1_walk p g (fun res_ => res_ = ((decide (p < 0)) || (decide (p ≥ g.fPlaces)))) ?_).fun
 unfold samC1_vc
 rfl
def offG (g : ApiGraph) (p : Int) : Bool := (decide (p < 0)) || (decide (p ≥ g.fPlaces))
def samC2_vc (x : ApiArrow) (domno : (Int → Prop)) (no : (Int → Bool)) (g : ApiGraph) (Q : Bool → Prop) : Prop :=
 ∃ J : Bool → Prop, ((domno x.fFrom) ∧
 IfP (no x.fFrom) (J true) ((domno x.fTo) ∧
 J (((no x.fTo) || (decide (x.fLetter < 0))) || (decide (x.fLetter ≥ g.fLetters))))) ∧
 (∀ (x4 : Bool), J x4 → Q x4)
theorem samC2_walk (x : ApiArrow) (domno : (Int → Prop)) (no : (Int → Bool)) (g : ApiGraph) (Q : Bool → Prop) (h : samC2_vc x domno no g Q) : Ct 44 [.sv (.agg [I x.fFrom, I x.fLetter, I x.fTo]), .sv (.one (.ptr 0 0)), .sv (.one (.ptr 1 0))] [.box [.rd (fvR (fun (x : Int) => [.sv (.one (I x))]) (fun (r : Bool) => .sv (.one (B r))) domno no)] 103 true, .box [I g.fLetters, I g.fPlaces, LS ApiArrow.ty g.fArrows] 24 true] Q (fun (r : Bool) => .sv (.one (B r))) := by
 have ht := tab_ok
 refine Ct.body Try.func44 rfl rfl rfl rfl (fun c hn => ?_)
 unfold samC2_vc at h
 refine En.sr ?_
 refine WL.rn ht hn 2 ⟨[sl 1 (.ptr 0 0), sl 2 (.ptr 1 0), sl 3 (.ptr 2 0)], [.box [.rd (fvR (fun (x : Int) => [.sv (.one (I x))]) (fun (r : Bool) => .sv (.one (B r))) domno no)] 103 true, .box (ApiGraph.cl g) 24 true, .box (ApiArrow.cl x) 26 false]⟩ ?_
 obtain ⟨J, h, hJ⟩ := h
 refine En.seqJ (σ := Bool) (fun zz => J zz) (fun zz => ⟨[sl 4 (B zz)], [.gone, .gone, .gone]⟩) ?_ ?_
 refine En.region ?_
 refine WL.r ht hn 3 ⟨[sl 1 (.ptr 0 0), sl 2 (.ptr 1 0), sl 3 (.ptr 2 0), sl 5 (.rd (fvR (fun (x : Int) => [.sv (.one (I x))]) (fun (r : Bool) => .sv (.one (B r))) domno no)), sl 7 (I x.fFrom)], [.box [.rd (fvR (fun (x : Int) => [.sv (.one (I x))]) (fun (r : Bool) => .sv (.one (B r))) domno no)] 103 true, .box (ApiGraph.cl g) 24 true, .box (ApiArrow.cl x) 26 false]⟩ ?_
 obtain ⟨hp, h⟩ := h
 refine WL.m0 hn (mt_callv x.fFrom hp rfl (by rfl) (by rfl) (by rfl) (by rfl)) ?_
 refine WL.r ht hn 1 ⟨[sl 1 (.ptr 0 0), sl 2 (.ptr 1 0), sl 3 (.ptr 2 0), sl 9 (B (no x.fFrom))], [.box [.rd (fvR (fun (x : Int) => [.sv (.one (I x))]) (fun (r : Bool) => .sv (.one (B r))) domno no)] 103 true, .box (ApiGraph.cl g) 24 true, .box (ApiArrow.cl x) 26 false]⟩ ?_
 refine splitB (no x.fFrom) (fun hb => ?_) (fun hb => ?_)
 replace h := h.1 hb
 refine WL.sB 9 hb ?_
 refine WL.rn ht hn 18 ⟨[sl 4 (B true)], [.gone, .gone, .gone]⟩ ?_
 exact En.at (I := fun zz => J zz) (T := fun zz => ⟨[sl 4 (B zz)], [.gone, .gone, .gone]⟩) true h (by kernel_rfl)
 replace h := h.2 hb
 refine WL.sB 9 hb ?_
 refine WL.r ht hn 3 ⟨[sl 2 (.ptr 1 0), sl 3 (.ptr 2 0), sl 9 (B false), sl 10 (.rd (fvR (fun (x : Int) => [.sv (.one (I x))]) (fun (r : Bool) => .sv (.one (B r))) domno no)), sl 12 (I x.fTo)], [.gone, .box (ApiGraph.cl g) 24 true, .box (ApiArrow.cl x) 26 false]⟩ ?_
 obtain ⟨hp, h⟩ := h
 refine WL.m0 hn (mt_callv x.fTo hp rfl (by rfl) (by rfl) (by rfl) (by rfl)) ?_
 refine WL.r ht hn 2 ⟨[sl 2 (.ptr 1 0), sl 3 (.ptr 2 0), sl 15 (B (no x.fTo))], [.gone, .box (ApiGraph.cl g) 24 true, .box (ApiArrow.cl x) 26 false]⟩ ?_
 refine WL.thru ⟨[sl 4 (B (((no x.fTo) || (decide (x.fLetter < 0))) || (decide (x.fLetter ≥ g.fLetters))))], [.gone, .gone, .gone]⟩ ?_ ?_
 refine splitB (no x.fTo) (fun hb0 => ?_) (fun hb0 => ?_)
 refine WL.sB 15 hb0 ?_
 refine WL.r ht hn 12 ⟨[sl 4 (B true)], [.gone, .gone, .gone]⟩ ?_
 exact WL.nil (sub_ok (by simp only [hb0]; kernel_rfl))
 refine WL.sB 15 hb0 ?_
 refine WL.r ht hn 5 ⟨[sl 2 (.ptr 1 0), sl 3 (.ptr 2 0), sl 20 (B (decide (x.fLetter < 0)))], [.gone, .box (ApiGraph.cl g) 24 true, .box (ApiArrow.cl x) 26 false]⟩ ?_
 refine splitB (decide (x.fLetter < 0)) (fun hb1 => ?_) (fun hb1 => ?_)
 refine WL.sB 20 hb1 ?_
 refine WL.r ht hn 7 ⟨[sl 4 (B true)], [.gone, .gone, .gone]⟩ ?_
 exact WL.nil (sub_ok (by simp only [hb0, hb1]; kernel_rfl))
 refine WL.sB 20 hb1 ?_
 refine WL.r ht hn 7 ⟨[sl 4 (B (decide (x.fLetter ≥ g.fLetters)))], [.gone, .gone, .gone]⟩ ?_
 exact WL.nil (sub_ok (by simp only [hb0, hb1]; kernel_rfl))
 exact En.at (I := fun zz => J zz) (T := fun zz => ⟨[sl 4 (B zz)], [.gone, .gone, .gone]⟩) (((no x.fTo) || (decide (x.fLetter < 0))) || (decide (x.fLetter ≥ g.fLetters))) h (by kernel_rfl)
 intro x4 h
 replace h := hJ _ h
 show En c ⟨[sl 4 (B x4)], [.gone, .gone, .gone]⟩ _
 exact En.rb ht x4 h
theorem en44 : ∀ args w, (callFunc 44 args).run Try.prog w = .ok (.enter 44 args) w := enters_of Try.func44 (by kernel_rfl) rfl
def offA (no : Int → Bool) (g : ApiGraph) (x : ApiArrow) : Bool := no x.fFrom || ((no x.fTo || (decide (x.fLetter < 0))) || (decide (x.fLetter ≥ g.fLetters)))
theorem samC2_ct (x : ApiArrow) (domno : (Int → Prop)) (no : (Int → Bool)) (g : ApiGraph) (hp : domno x.fFrom ∧ domno x.fTo)  : Ct 44 [.sv (.agg [I x.fFrom, I x.fLetter, I x.fTo]), .sv (.one (.ptr 0 0)), .sv (.one (.ptr 1 0))] [.box [.rd (fvR (fun (x : Int) => [.sv (.one (I x))]) (fun (r : Bool) => .sv (.one (B r))) domno no)] 103 true, .box [I g.fLetters, I g.fPlaces, LS ApiArrow.ty g.fArrows] 24 true] (fun (_ : Unit) => True) (fun _ => .sv (.one (B (offA no g x)))) := by
 refine (samC2_walk x domno no g (fun res_ => res_ = (offA no g x)) ?_).fun
 unfold samC2_vc
 refine ⟨fun b => b = offA no g x, ⟨hp.1, fun h => ?_, fun h => ⟨hp.2, ?_⟩⟩, fun _ h => h⟩
 ·show true = _
  unfold offA
  rw [h]
  rfl
 ·show _ = _
  unfold offA
  rw [h]
  rfl
def indexApiArrow_vc (l : (List ApiArrow)) (dom : (ApiArrow → Prop)) (φ : (ApiArrow → Bool)) (Q : Int → Prop) : Prop :=
 l.length ≤ 9223372036854775807 →
 (∃ (Inv : Int → Prop) (mu : Int → Nat), Inv 0 ∧
 ∀ (x8 : Int) , Inv x8 → (IfP (decide (x8 < (l.length : Int))) (∃ e, idx l x8 = some e ∧
 (dom e) ∧
 IfP (φ e) (Q x8) ((Inv (wr (x8 + 1)) ∧ mu (wr (x8 + 1)) < mu x8))) (Q (-1))))
theorem indexApiArrow_walk (l : (List ApiArrow)) (dom : (ApiArrow → Prop)) (φ : (ApiArrow → Bool)) (Q : Int → Prop) (h : indexApiArrow_vc l dom φ Q) : Ct 92 [.sv (.one (LS ApiArrow.ty l)), .sv (.one (.rd (fvR (fun x => [.sv (.agg [I x.fFrom, I x.fLetter, I x.fTo])]) (fun b => .sv (.one (B b))) dom φ)))] [] Q (fun (r : Int) => .sv (.one (I r))) := by
 have ht := tab_ok
 refine Ct.body Try.func92 rfl rfl rfl rfl (fun c hn => ?_)
 unfold indexApiArrow_vc at h
 refine En.lenL 0 (by rfl) (fun hl => ?_)
 replace h := h hl
 clear hl
 refine En.sr ?_
 refine WL.rn ht hn 1 ⟨[sl 0 (LS ApiArrow.ty l), sl 1 (.rd (fvR (fun x => [.sv (.agg (ApiArrow.cl x))]) (fun b => .sv (.one (B b))) dom φ))], []⟩ ?_
 refine En.seq ?_
 refine En.sr ?_
 refine WL.rn ht hn 3 ⟨[sl 0 (LS ApiArrow.ty l), sl 1 (.rd (fvR (fun x => [.sv (.agg (ApiArrow.cl x))]) (fun b => .sv (.one (B b))) dom φ)), sl 7 (I (l.length : Int)), sl 8 (I 0)], []⟩ ?_
 refine En.block ?_
 obtain ⟨Inv, mu, h0, hI⟩ := h
 refine En.loop (σ := Int) (fun zz => Inv zz) (fun zz => mu zz) (fun zz => ⟨[sl 0 (LS ApiArrow.ty l), sl 1 (.rd (fvR (fun x => [.sv (.agg (ApiArrow.cl x))]) (fun b => .sv (.one (B b))) dom φ)), sl 7 (I (l.length : Int)), sl 8 (I zz)], []⟩) 0 h0 (sub_ok (by kernel_rfl)) ?_
 intro x8 h
 replace h := hI _ h
 show En c ⟨[sl 0 (LS ApiArrow.ty l), sl 1 (.rd (fvR (fun x => [.sv (.agg (ApiArrow.cl x))]) (fun b => .sv (.one (B b))) dom φ)), sl 7 (I (l.length : Int)), sl 8 (I x8)], []⟩ _
 refine En.sr ?_
 refine WL.rn ht hn 1 ⟨[sl 0 (LS ApiArrow.ty l), sl 1 (.rd (fvR (fun x => [.sv (.agg (ApiArrow.cl x))]) (fun b => .sv (.one (B b))) dom φ)), sl 7 (I (l.length : Int)), sl 8 (I x8), sl 9 (B (decide (x8 < (l.length : Int))))], []⟩ ?_
 refine En.seq ?_
 refine En.cd (b := (decide (x8 < (l.length : Int)))) (fun hb => ?_) (fun hb => ?_)
 replace h := h.1 hb
 refine En.skip ?_
 refine En.seq ?_
 refine En.block ?_
 refine En.sr ?_
 refine WL.rn ht hn 2 ⟨[sl 0 (LS ApiArrow.ty l), sl 1 (.rd (fvR (fun x => [.sv (.agg (ApiArrow.cl x))]) (fun b => .sv (.one (B b))) dom φ)), sl 5 (I x8), sl 7 (I (l.length : Int)), sl 8 (I x8)], []⟩ ?_
 refine En.sr ?_
 refine WL.r ht hn 3 ⟨[sl 0 (LS ApiArrow.ty l), sl 1 (.rd (fvR (fun x => [.sv (.agg (ApiArrow.cl x))]) (fun b => .sv (.one (B b))) dom φ)), sl 5 (I x8), sl 7 (I (l.length : Int)), sl 8 (I x8), sl 11 (.rd (fvR (fun x => [.sv (.agg (ApiArrow.cl x))]) (fun b => .sv (.one (B b))) dom φ)), sl 12 (LS ApiArrow.ty l), sl 13 (I x8)], []⟩ ?_
 obtain ⟨e, he, h⟩ := h
 refine WL.v hn (val_ix (T := ApiArrow.ty) (l := l) (i := x8) ht rfl he) ?_
 refine WL.v hn (val_ld (s := .agg (ApiArrow.cl e)) ht rfl) ?_
 obtain ⟨hp, h⟩ := h
 refine WL.m0 hn (mt_callv e hp rfl (by rfl) (by rfl) (by rfl) (by rfl)) ?_
 refine WL.nil ?_
 refine En.cd (b := (φ e)) (fun hb => ?_) (fun hb => ?_)
 replace h := h.1 hb
 refine En.sr ?_
 refine WL.rn ht hn 2 ⟨[sl 4 (I x8)], []⟩ ?_
 exact En.rb ht x8 h
 replace h := h.2 hb
 refine En.skip ?_
 refine En.region ?_
 refine WL.rn ht hn 2 ⟨[sl 0 (LS ApiArrow.ty l), sl 1 (.rd (fvR (fun x => [.sv (.agg (ApiArrow.cl x))]) (fun b => .sv (.one (B b))) dom φ)), sl 7 (I (l.length : Int)), sl 8 (I (wr (x8 + 1)))], []⟩ ?_
 exact En.at (I := fun zz => Inv zz ∧ mu zz < mu x8) (T := fun zz => ⟨[sl 0 (LS ApiArrow.ty l), sl 1 (.rd (fvR (fun x => [.sv (.agg (ApiArrow.cl x))]) (fun b => .sv (.one (B b))) dom φ)), sl 7 (I (l.length : Int)), sl 8 (I zz)], []⟩) (wr (x8 + 1)) h (by kernel_rfl)
 replace h := h.2 hb
 refine En.exit rfl ?_
 refine En.sr ?_
 refine WL.rn ht hn 1 ⟨[sl 4 (I (-1))], []⟩ ?_
 exact En.rb ht (-1) h
theorem en92 : ∀ args w, (callFunc 92 args).run Try.prog w = .ok (.enter 92 args) w := enters_of Try.func92 (by kernel_rfl) rfl
theorem indexApiArrow_ct (l : List ApiArrow) (dom : ApiArrow → Prop) (φ : ApiArrow → Bool) (hd : ∀ x ∈ l, dom x) : Ct 92 [.sv (.one (LS ApiArrow.ty l)), .sv (.one (.rd (fvR (fun x => [.sv (.agg [I x.fFrom, I x.fLetter, I x.fTo])]) (fun b => .sv (.one (B b))) dom φ)))] [] (fun (_ : Unit) => True) (fun _ => .sv (.one (I (idxTo φ l)))) := by
 refine (indexApiArrow_walk l dom φ (fun r => r = idxTo φ l) ?_).fun
 unfold indexApiArrow_vc
 exact index_plain l dom φ hd
def anyApiArrow_vc (l : (List ApiArrow)) (dom : (ApiArrow → Prop)) (φ : (ApiArrow → Bool)) (Q : Bool → Prop) : Prop :=
 l.length ≤ 9223372036854775807 →
 ((∀ x_ ∈ l, dom x_) ∧
 Q (decide ((idxTo φ l) ≥ 0)))
theorem anyApiArrow_walk (l : (List ApiArrow)) (dom : (ApiArrow → Prop)) (φ : (ApiArrow → Bool)) (Q : Bool → Prop) (h : anyApiArrow_vc l dom φ Q) : Ct 43 [.sv (.one (LS ApiArrow.ty l)), .sv (.one (.rd (fvR (fun x => [.sv (.agg [I x.fFrom, I x.fLetter, I x.fTo])]) (fun b => .sv (.one (B b))) dom φ)))] [] Q (fun (r : Bool) => .sv (.one (B r))) := by
 have ht := tab_ok
 refine Ct.body Try.func43 rfl rfl rfl rfl (fun c hn => ?_)
 unfold anyApiArrow_vc at h
 refine En.lenL 0 (by rfl) (fun hl => ?_)
 replace h := h hl
 clear hl
 refine En.sr ?_
 refine WL.rn ht hn 1 ⟨[sl 0 (LS ApiArrow.ty l), sl 1 (.rd (fvR (fun x => [.sv (.agg (ApiArrow.cl x))]) (fun b => .sv (.one (B b))) dom φ))], []⟩ ?_
 refine En.sr ?_
 refine WL.r ht hn 2 ⟨[sl 5 (LS ApiArrow.ty l), sl 6 (.rd (fvR (fun x => [.sv (.agg (ApiArrow.cl x))]) (fun b => .sv (.one (B b))) dom φ))], []⟩ ?_
 obtain ⟨hp, h⟩ := h
 refine WL.m0 hn (mt_c (indexApiArrow_ct l dom φ hp) en92 rfl) ?_
 refine WL.rn ht hn 2 ⟨[sl 4 (B (decide ((idxTo φ l) ≥ 0)))], []⟩ ?_
 exact En.rb ht (decide ((idxTo φ l) ≥ 0)) h
theorem en43 : ∀ args w, (callFunc 43 args).run Try.prog w = .ok (.enter 43 args) w := enters_of Try.func43 (by kernel_rfl) rfl
theorem anyApiArrow_ct (l : List ApiArrow) (dom : ApiArrow → Prop) (φ : ApiArrow → Bool) (hd : ∀ x ∈ l, dom x) : Ct 43 [.sv (.one (LS ApiArrow.ty l)), .sv (.one (.rd (fvR (fun x => [.sv (.agg [I x.fFrom, I x.fLetter, I x.fTo])]) (fun b => .sv (.one (B b))) dom φ)))] [] (fun (_ : Unit) => True) (fun _ => .sv (.one (B (l.any φ)))) := by
 refine (anyApiArrow_walk l dom φ (fun r => r = l.any φ) ?_).fun
 unfold anyApiArrow_vc
 exact fun _ => ⟨hd, by rw [← idxTo_nonneg φ l]⟩
def indexInt_vc (l : (List Int)) (dom : (Int → Prop)) (φ : (Int → Bool)) (Q : Int → Prop) : Prop :=
 l.length ≤ 9223372036854775807 →
 (∃ (Inv : Int → Prop) (mu : Int → Nat), Inv 0 ∧
 ∀ (x8 : Int) , Inv x8 → (IfP (decide (x8 < (l.length : Int))) (∃ e, idx l x8 = some e ∧
 (dom e) ∧
 IfP (φ e) (Q x8) ((Inv (wr (x8 + 1)) ∧ mu (wr (x8 + 1)) < mu x8))) (Q (-1))))
theorem indexInt_walk (l : (List Int)) (dom : (Int → Prop)) (φ : (Int → Bool)) (Q : Int → Prop) (h : indexInt_vc l dom φ Q) : Ct 69 [.sv (.one (LS intT l)), .sv (.one (.rd (fvR (fun x => [.sv (.one (I x))]) (fun b => .sv (.one (B b))) dom φ)))] [] Q (fun (r : Int) => .sv (.one (I r))) := by
 have ht := tab_ok
 refine Ct.body Try.func69 rfl rfl rfl rfl (fun c hn => ?_)
 unfold indexInt_vc at h
 refine En.lenL 0 (by rfl) (fun hl => ?_)
 replace h := h hl
 clear hl
 refine En.sr ?_
 refine WL.rn ht hn 1 ⟨[sl 0 (LS intT l), sl 1 (.rd (fvR (fun x => [.sv (.one (I x))]) (fun b => .sv (.one (B b))) dom φ))], []⟩ ?_
 refine En.seq ?_
 refine En.sr ?_
 refine WL.rn ht hn 3 ⟨[sl 0 (LS intT l), sl 1 (.rd (fvR (fun x => [.sv (.one (I x))]) (fun b => .sv (.one (B b))) dom φ)), sl 7 (I (l.length : Int)), sl 8 (I 0)], []⟩ ?_
 refine En.block ?_
 obtain ⟨Inv, mu, h0, hI⟩ := h
 refine En.loop (σ := Int) (fun zz => Inv zz) (fun zz => mu zz) (fun zz => ⟨[sl 0 (LS intT l), sl 1 (.rd (fvR (fun x => [.sv (.one (I x))]) (fun b => .sv (.one (B b))) dom φ)), sl 7 (I (l.length : Int)), sl 8 (I zz)], []⟩) 0 h0 (sub_ok (by kernel_rfl)) ?_
 intro x8 h
 replace h := hI _ h
 show En c ⟨[sl 0 (LS intT l), sl 1 (.rd (fvR (fun x => [.sv (.one (I x))]) (fun b => .sv (.one (B b))) dom φ)), sl 7 (I (l.length : Int)), sl 8 (I x8)], []⟩ _
 refine En.sr ?_
 refine WL.rn ht hn 1 ⟨[sl 0 (LS intT l), sl 1 (.rd (fvR (fun x => [.sv (.one (I x))]) (fun b => .sv (.one (B b))) dom φ)), sl 7 (I (l.length : Int)), sl 8 (I x8), sl 9 (B (decide (x8 < (l.length : Int))))], []⟩ ?_
 refine En.seq ?_
 refine En.cd (b := (decide (x8 < (l.length : Int)))) (fun hb => ?_) (fun hb => ?_)
 replace h := h.1 hb
 refine En.skip ?_
 refine En.seq ?_
 refine En.block ?_
 refine En.sr ?_
 refine WL.rn ht hn 2 ⟨[sl 0 (LS intT l), sl 1 (.rd (fvR (fun x => [.sv (.one (I x))]) (fun b => .sv (.one (B b))) dom φ)), sl 5 (I x8), sl 7 (I (l.length : Int)), sl 8 (I x8)], []⟩ ?_
 refine En.sr ?_
 refine WL.r ht hn 3 ⟨[sl 0 (LS intT l), sl 1 (.rd (fvR (fun x => [.sv (.one (I x))]) (fun b => .sv (.one (B b))) dom φ)), sl 5 (I x8), sl 7 (I (l.length : Int)), sl 8 (I x8), sl 11 (.rd (fvR (fun x => [.sv (.one (I x))]) (fun b => .sv (.one (B b))) dom φ)), sl 12 (LS intT l), sl 13 (I x8)], []⟩ ?_
 obtain ⟨e, he, h⟩ := h
 refine WL.v hn (val_ix (T := intT) (l := l) (i := x8) ht rfl he) ?_
 refine WL.v hn (val_ld (s := .one (I e)) ht rfl) ?_
 obtain ⟨hp, h⟩ := h
 refine WL.m0 hn (mt_callv e hp rfl (by rfl) (by rfl) (by rfl) (by rfl)) ?_
 refine WL.nil ?_
 refine En.cd (b := (φ e)) (fun hb => ?_) (fun hb => ?_)
 replace h := h.1 hb
 refine En.sr ?_
 refine WL.rn ht hn 2 ⟨[sl 4 (I x8)], []⟩ ?_
 exact En.rb ht x8 h
 replace h := h.2 hb
 refine En.skip ?_
 refine En.region ?_
 refine WL.rn ht hn 2 ⟨[sl 0 (LS intT l), sl 1 (.rd (fvR (fun x => [.sv (.one (I x))]) (fun b => .sv (.one (B b))) dom φ)), sl 7 (I (l.length : Int)), sl 8 (I (wr (x8 + 1)))], []⟩ ?_
 exact En.at (I := fun zz => Inv zz ∧ mu zz < mu x8) (T := fun zz => ⟨[sl 0 (LS intT l), sl 1 (.rd (fvR (fun x => [.sv (.one (I x))]) (fun b => .sv (.one (B b))) dom φ)), sl 7 (I (l.length : Int)), sl 8 (I zz)], []⟩) (wr (x8 + 1)) h (by kernel_rfl)
 replace h := h.2 hb
 refine En.exit rfl ?_
 refine En.sr ?_
 refine WL.rn ht hn 1 ⟨[sl 4 (I (-1))], []⟩ ?_
 exact En.rb ht (-1) h
theorem en69 : ∀ args w, (callFunc 69 args).run Try.prog w = .ok (.enter 69 args) w := enters_of Try.func69 (by kernel_rfl) rfl
theorem indexInt_ct (l : List Int) (dom : Int → Prop) (φ : Int → Bool) (hd : ∀ x ∈ l, dom x) : Ct 69 [.sv (.one (LS intT l)), .sv (.one (.rd (fvR (fun x => [.sv (.one (I x))]) (fun b => .sv (.one (B b))) dom φ)))] [] (fun (_ : Unit) => True) (fun _ => .sv (.one (I (idxTo φ l)))) := by
 refine (indexInt_walk l dom φ (fun r => r = idxTo φ l) ?_).fun
 unfold indexInt_vc
 exact index_plain l dom φ hd
def samCheck_vc (g : ApiGraph) (Q : Int → Prop) : Prop :=
 g.fArrows.length ≤ 9223372036854775807 →
 (IfP ((decide (g.fLetters < 1)) || (decide (g.fLetters > 4))) (Q 2) (IfP (((decide (g.fPlaces < 1)) || (decide (g.fPlaces > 12))) || (decide ((g.fArrows.length : Int) > 60))) (Q 1) ((∀ x_ ∈ g.fArrows, (fun x => (fun _ => True) x.fFrom ∧ (fun _ => True) x.fTo) x_) ∧
 IfP (g.fArrows.any (offA (offG g) g)) (Q 2) (∃ (Inv : Int → Prop) (mu : Int → Nat), Inv 0 ∧
 ∀ (x35 : Int) , Inv x35 → (IfP (decide (x35 < (g.fArrows.length : Int))) (∃ J : Bool → Prop, (IfP (decide (x35 > 0)) (∃ e, idx g.fArrows (wr (x35 - 1)) = some e ∧
 ∃ e_2, idx g.fArrows x35 = some e_2 ∧
 J (decide ((ordA e e_2) ≥ 0))) (J false)) ∧
 (∀ (x54 : Bool), J x54 → IfP x54 (Q 3) ((Inv (wr (x35 + 1)) ∧ mu (wr (x35 + 1)) < mu x35)))) (Q 0))))))
noncomputable abbrev qsamCheck0 (g : ApiGraph) := ([.box (ApiGraph.cl g) 24 false, .gone] : List Item)
noncomputable abbrev qsamCheck1 (g : ApiGraph) := sl 34 (I (g.fArrows.length : Int))
noncomputable abbrev qsamCheck2 (g : ApiGraph) := ([.box (ApiGraph.cl g) 24 false] : List Item)
theorem samCheck_walk (g : ApiGraph) (Q : Int → Prop) (h : samCheck_vc g Q) : Ct 20 [.sv (.agg [I g.fLetters, I g.fPlaces, LS ApiArrow.ty g.fArrows])] [] Q (fun (r : Int) => .sv (.one (I r))) := by
 have ht := tab_ok
 refine Ct.body Try.func20 rfl rfl rfl rfl (fun c hn => ?_)
 unfold samCheck_vc at h
 refine En.lenA 0 2 (by rfl) (by rfl) (fun hl => ?_)
 replace h := h hl
 clear hl
 refine En.sr ?_
 refine WL.rn ht hn 2 ⟨[sl 1 (.ptr 0 0)], (qsamCheck2 g)⟩ ?_
 refine En.seq ?_
 refine En.sr ?_
 refine WL.r ht hn 4 ⟨[sl 1 (.ptr 0 0), sl 8 (B (decide (g.fLetters < 1)))], (qsamCheck2 g)⟩ ?_
 refine WL.thru ⟨[sl 1 (.ptr 0 0), sl 12 (B ((decide (g.fLetters < 1)) || (decide (g.fLetters > 4))))], (qsamCheck2 g)⟩ ?_ ?_
 refine splitB (decide (g.fLetters < 1)) (fun hb0 => ?_) (fun hb0 => ?_)
 refine WL.sB 8 hb0 ?_
 refine WL.r ht hn 4 ⟨[sl 1 (.ptr 0 0), sl 12 (B true)], (qsamCheck2 g)⟩ ?_
 exact WL.nil (sub_ok (by simp only [hb0]; kernel_rfl))
 refine WL.sB 8 hb0 ?_
 refine WL.r ht hn 4 ⟨[sl 1 (.ptr 0 0), sl 12 (B (decide (g.fLetters > 4)))], (qsamCheck2 g)⟩ ?_
 exact WL.nil (sub_ok (by simp only [hb0]; kernel_rfl))
 refine En.cd (b := ((decide (g.fLetters < 1)) || (decide (g.fLetters > 4)))) (fun hb => ?_) (fun hb => ?_)
 replace h := h.1 hb
 refine En.sr ?_
 refine WL.rn ht hn 1 ⟨[sl 2 (I 2)], [.gone]⟩ ?_
 exact En.rb ht 2 h
 replace h := h.2 hb
 refine En.skip ?_
 refine En.seq ?_
 refine En.sr ?_
 refine WL.r ht hn 4 ⟨[sl 1 (.ptr 0 0), sl 16 (B (decide (g.fPlaces < 1)))], (qsamCheck2 g)⟩ ?_
 refine WL.thru ⟨[sl 1 (.ptr 0 0), sl 26 (B (((decide (g.fPlaces < 1)) || (decide (g.fPlaces > 12))) || (decide ((g.fArrows.length : Int) > 60))))], (qsamCheck2 g)⟩ ?_ ?_
 refine splitB (decide (g.fPlaces < 1)) (fun hb0 => ?_) (fun hb0 => ?_)
 refine WL.sB 16 hb0 ?_
 refine WL.r ht hn 10 ⟨[sl 1 (.ptr 0 0), sl 26 (B true)], (qsamCheck2 g)⟩ ?_
 exact WL.nil (sub_ok (by simp only [hb0]; kernel_rfl))
 refine WL.sB 16 hb0 ?_
 refine WL.r ht hn 5 ⟨[sl 1 (.ptr 0 0), sl 21 (B (decide (g.fPlaces > 12)))], (qsamCheck2 g)⟩ ?_
 refine splitB (decide (g.fPlaces > 12)) (fun hb1 => ?_) (fun hb1 => ?_)
 refine WL.sB 21 hb1 ?_
 refine WL.r ht hn 5 ⟨[sl 1 (.ptr 0 0), sl 26 (B true)], (qsamCheck2 g)⟩ ?_
 exact WL.nil (sub_ok (by simp only [hb0, hb1]; kernel_rfl))
 refine WL.sB 21 hb1 ?_
 refine WL.r ht hn 5 ⟨[sl 1 (.ptr 0 0), sl 26 (B (decide ((g.fArrows.length : Int) > 60)))], (qsamCheck2 g)⟩ ?_
 exact WL.nil (sub_ok (by simp only [hb0, hb1]; kernel_rfl))
 refine En.cd (b := (((decide (g.fPlaces < 1)) || (decide (g.fPlaces > 12))) || (decide ((g.fArrows.length : Int) > 60)))) (fun hb => ?_) (fun hb => ?_)
 replace h := h.1 hb
 refine En.sr ?_
 refine WL.rn ht hn 1 ⟨[sl 2 (I 1)], [.gone]⟩ ?_
 exact En.rb ht 1 h
 replace h := h.2 hb
 refine En.skip ?_
 refine En.sr ?_
 refine WL.rn ht hn 3 ⟨[sl 1 (.ptr 0 0), sl 3 (.ptr 1 0)], [.box (ApiGraph.cl g) 24 false, .box [.fn 42 [0]] 103 false]⟩ ?_
 refine En.seq ?_
 refine En.sr ?_
 refine WL.r ht hn 3 ⟨[sl 1 (.ptr 0 0), sl 29 (LS ApiArrow.ty g.fArrows), sl 30 (.fn 44 [1, 0])], [.box (ApiGraph.cl g) 24 false, .box [.fn 42 [0]] 103 false]⟩ ?_
 obtain ⟨hp, h⟩ := h
 refine WL.m0 hn (mt_lendF [0] (by rfl) (by rfl) (mt_lendB (.rd (fvR (fun (x_ : Int) => [.sv (.one (I x_))]) (fun (r : Bool) => .sv (.one (B r))) (fun _ => True) (offG g))) 1 0 (by rfl) (by rfl) (fv_at (fv_of (M := [.box (ApiGraph.cl g) 24 true]) (caps := [0]) (fun x_ _ => samC1_ct x_ g) en42 rfl (by kernel_rfl) (by rfl) (fun _ => rfl))) (mt_lendF [1] (by rfl) (by rfl) (mt_ghost 30 (o1 (.rd (fvR (fun (x_ : ApiArrow) => [.sv (.agg (ApiArrow.cl x_))]) (fun (r : Bool) => .sv (.one (B r))) (fun x => (fun _ => True) x.fFrom ∧ (fun _ => True) x.fTo) (offA (offG g) g)))) (by rfl) (fv_of (M := [.box [.rd (fvR (fun (x_ : Int) => [.sv (.one (I x_))]) (fun (r : Bool) => .sv (.one (B r))) (fun _ => True) (offG g))] 103 true, .box (ApiGraph.cl g) 24 true]) (caps := [1, 0]) (fun x_ hx => samC2_ct x_ (fun _ => True) (offG g) g hx) en44 rfl (by kernel_rfl) (by rfl) (fun _ => rfl)) (mt_c (anyApiArrow_ct g.fArrows (fun x => (fun _ => True) x.fFrom ∧ (fun _ => True) x.fTo) (offA (offG g) g) hp) en43 rfl))))) ?_
 refine WL.nil ?_
 refine En.cd (b := (g.fArrows.any (offA (offG g) g))) (fun hb => ?_) (fun hb => ?_)
 replace h := h.1 hb
 refine En.sr ?_
 refine WL.rn ht hn 1 ⟨[sl 2 (I 2)], [.gone, .gone]⟩ ?_
 exact En.rb ht 2 h
 replace h := h.2 hb
 refine En.skip ?_
 refine En.seq ?_
 refine En.sr ?_
 refine WL.rn ht hn 4 ⟨[sl 1 (.ptr 0 0), (qsamCheck1 g), sl 35 (I 0)], (qsamCheck0 g)⟩ ?_
 refine En.block ?_
 obtain ⟨Inv, mu, h0, hI⟩ := h
 refine En.loop (σ := Int) (fun zz => Inv zz) (fun zz => mu zz) (fun zz => ⟨[sl 1 (.ptr 0 0), (qsamCheck1 g), sl 35 (I zz)], (qsamCheck0 g)⟩) 0 h0 (sub_ok (by kernel_rfl)) ?_
 intro x35 h
 replace h := hI _ h
 show En c ⟨[sl 1 (.ptr 0 0), (qsamCheck1 g), sl 35 (I x35)], (qsamCheck0 g)⟩ _
 refine En.sr ?_
 refine WL.rn ht hn 1 ⟨[sl 1 (.ptr 0 0), (qsamCheck1 g), sl 35 (I x35), sl 36 (B (decide (x35 < (g.fArrows.length : Int))))], (qsamCheck0 g)⟩ ?_
 refine En.seq ?_
 refine En.cd (b := (decide (x35 < (g.fArrows.length : Int)))) (fun hb => ?_) (fun hb => ?_)
 replace h := h.1 hb
 refine En.skip ?_
 refine En.seq ?_
 refine En.block ?_
 refine En.sr ?_
 refine WL.rn ht hn 2 ⟨[sl 1 (.ptr 0 0), sl 4 (I x35), (qsamCheck1 g), sl 35 (I x35)], (qsamCheck0 g)⟩ ?_
 obtain ⟨J, h, hJ⟩ := h
 refine En.seqJ (σ := Bool) (fun zz => J zz) (fun zz => ⟨[sl 1 (.ptr 0 0), (qsamCheck1 g), sl 35 (I x35), sl 54 (B zz)], (qsamCheck0 g)⟩) ?_ ?_
 refine splitB (decide (x35 > 0)) (fun hb_2 => ?_) (fun hb_2 => ?_)
 replace h := h.1 hb_2
 obtain ⟨e, he, h⟩ := h
 obtain ⟨e_2, he_2, h⟩ := h
 refine En.regionA ⟨[sl 1 (.ptr 0 0), sl 4 (I x35), (qsamCheck1 g), sl 35 (I x35)], [.sv (.one (I x35)), .sv (.one (B true)), .sv (.one (B true)), .sv (.one (.ptr 0 2)), .sv (.one (LS ApiArrow.ty g.fArrows)), .sv (.one (I x35)), .sv (.one (I (wr (x35 - 1)))), .sv (.one (.pe (svR (.agg (ApiArrow.cl e))) 3)), .sv (.agg (ApiArrow.cl e)), .sv (.one (.ptr 0 2)), .sv (.one (LS ApiArrow.ty g.fArrows)), .sv (.one (I x35)), .sv (.one (.pe (svR (.agg (ApiArrow.cl e_2))) 3)), .sv (.agg (ApiArrow.cl e_2)), .sv (.one (I (ordA e e_2))), .sv (.one (B (decide ((ordA e e_2) ≥ 0)))), .sv (.one (B (decide ((ordA e e_2) ≥ 0))))], [⟨.box (ApiGraph.cl g) 24 false, none, none, none⟩, ⟨.gone, none, none, none⟩]⟩ ⟨[sl 1 (.ptr 0 0), (qsamCheck1 g), sl 35 (I x35), sl 54 (B (decide ((ordA e e_2) ≥ 0)))], (qsamCheck0 g)⟩ (by kernel_rfl) hn (by kernel_rfl) (by rfl) (by kernel_rfl) ?_ (by kernel_rfl) ?_
 exact ⟨.ev ⟨[sl 4 (I x35)], []⟩ ht,
 .mt ⟨[sl 38 (I x35)], []⟩ [] none (by kernel_rfl) (by rfl) (mt_castB hb_2 (mt_ev ht (by kernel_rfl))) rfl rfl rfl rfl,
 .ev ⟨[sl 39 (B true)], []⟩ ht,
 .ev ⟨[sl 1 (.ptr 0 0), sl 40 (B true)], []⟩ ht,
 .ev ⟨[sl 40 (B true), sl 41 (.ptr 0 2)], (qsamCheck2 g)⟩ ht,
 .ev ⟨[sl 4 (I x35), sl 40 (B true)], []⟩ ht,
 .ev ⟨[sl 40 (B true), sl 43 (I x35)], []⟩ ht,
 .vl ⟨[sl 40 (B true), sl 42 (LS ApiArrow.ty g.fArrows), sl 44 (I (wr (x35 - 1)))], []⟩ (mt_val (val_ix (T := ApiArrow.ty) (l := g.fArrows) (i := (wr (x35 - 1))) ht rfl he)),
 .vl ⟨[sl 40 (B true), sl 45 (.pe (svR (.agg (ApiArrow.cl e))) 3)], []⟩ (mt_val (val_ld (s := .agg (ApiArrow.cl e)) ht rfl)),
 .ev ⟨[sl 1 (.ptr 0 0), sl 40 (B true)], []⟩ ht,
 .ev ⟨[sl 40 (B true), sl 47 (.ptr 0 2)], (qsamCheck2 g)⟩ ht,
 .ev ⟨[sl 4 (I x35), sl 40 (B true)], []⟩ ht,
 .vl ⟨[sl 40 (B true), sl 48 (LS ApiArrow.ty g.fArrows), sl 49 (I x35)], []⟩ (mt_val (val_ix (T := ApiArrow.ty) (l := g.fArrows) (i := x35) ht rfl he_2)),
 .vl ⟨[sl 40 (B true), sl 50 (.pe (svR (.agg (ApiArrow.cl e_2))) 3)], []⟩ (mt_val (val_ld (s := .agg (ApiArrow.cl e_2)) ht rfl)),
 .vl ⟨[sl 40 (B true), (46, .sv (.agg (ApiArrow.cl e))), (51, .sv (.agg (ApiArrow.cl e_2)))], []⟩ (mt_c (samOrd_ct e e_2) en45 rfl),
 .ev ⟨[sl 40 (B true), sl 52 (I (ordA e e_2))], []⟩ ht,
 .ev ⟨[sl 40 (B true), sl 53 (B (decide ((ordA e e_2) ≥ 0)))], []⟩ ht,
 trivial⟩
 exact En.at (I := fun zz => J zz) (T := fun zz => ⟨[sl 1 (.ptr 0 0), (qsamCheck1 g), sl 35 (I x35), sl 54 (B zz)], (qsamCheck0 g)⟩) (decide ((ordA e e_2) ≥ 0)) h (by kernel_rfl)
 replace h := h.2 hb_2
 refine En.regionA ⟨[sl 1 (.ptr 0 0), sl 4 (I x35), (qsamCheck1 g), sl 35 (I x35)], [.sv (.one (I x35)), .sv (.one (B false)), .sv (.one (B false)), .tup [], .tup [], .tup [], .tup [], .tup [], .tup [], .tup [], .tup [], .tup [], .tup [], .tup [], .tup [], .tup [], .sv (.one (B false))], [⟨.box (ApiGraph.cl g) 24 false, none, none, none⟩, ⟨.gone, none, none, none⟩]⟩ ⟨[sl 1 (.ptr 0 0), (qsamCheck1 g), sl 35 (I x35), sl 54 (B false)], (qsamCheck0 g)⟩ (by kernel_rfl) hn (by kernel_rfl) (by rfl) (by kernel_rfl) ?_ (by kernel_rfl) ?_
 exact ⟨.ev ⟨[sl 4 (I x35)], []⟩ ht,
 .mt ⟨[sl 38 (I x35)], []⟩ [] none (by kernel_rfl) (by rfl) (mt_castB hb_2 (mt_ev ht (by kernel_rfl))) rfl rfl rfl rfl,
 .ev ⟨[sl 39 (B false)], []⟩ ht,
 .skip ⟨[sl 40 (B false)], []⟩ (by kernel_rfl) (by rfl) rfl rfl rfl rfl,
 .skip ⟨[sl 40 (B false)], []⟩ (by kernel_rfl) (by rfl) rfl rfl rfl rfl,
 .skip ⟨[sl 40 (B false)], []⟩ (by kernel_rfl) (by rfl) rfl rfl rfl rfl,
 .skip ⟨[sl 40 (B false)], []⟩ (by kernel_rfl) (by rfl) rfl rfl rfl rfl,
 .skip ⟨[sl 40 (B false)], []⟩ (by kernel_rfl) (by rfl) rfl rfl rfl rfl,
 .skip ⟨[sl 40 (B false)], []⟩ (by kernel_rfl) (by rfl) rfl rfl rfl rfl,
 .skip ⟨[sl 40 (B false)], []⟩ (by kernel_rfl) (by rfl) rfl rfl rfl rfl,
 .skip ⟨[sl 40 (B false)], []⟩ (by kernel_rfl) (by rfl) rfl rfl rfl rfl,
 .skip ⟨[sl 40 (B false)], []⟩ (by kernel_rfl) (by rfl) rfl rfl rfl rfl,
 .skip ⟨[sl 40 (B false)], []⟩ (by kernel_rfl) (by rfl) rfl rfl rfl rfl,
 .skip ⟨[sl 40 (B false)], []⟩ (by kernel_rfl) (by rfl) rfl rfl rfl rfl,
 .skip ⟨[sl 40 (B false)], []⟩ (by kernel_rfl) (by rfl) rfl rfl rfl rfl,
 .skip ⟨[sl 40 (B false)], []⟩ (by kernel_rfl) (by rfl) rfl rfl rfl rfl,
 .ev ⟨[sl 40 (B false), (53, .tup [])], []⟩ ht,
 trivial⟩
 exact En.at (I := fun zz => J zz) (T := fun zz => ⟨[sl 1 (.ptr 0 0), (qsamCheck1 g), sl 35 (I x35), sl 54 (B zz)], (qsamCheck0 g)⟩) false h (by kernel_rfl)
 intro x54 h
 replace h := hJ _ h
 show En c ⟨[sl 1 (.ptr 0 0), (qsamCheck1 g), sl 35 (I x35), sl 54 (B x54)], (qsamCheck0 g)⟩ _
 refine En.cd (b := x54) (fun hb => ?_) (fun hb => ?_)
 replace h := h.1 hb
 refine En.sr ?_
 refine WL.rn ht hn 1 ⟨[sl 2 (I 3)], [.gone, .gone]⟩ ?_
 exact En.rb ht 3 h
 replace h := h.2 hb
 refine En.skip ?_
 refine En.region ?_
 refine WL.rn ht hn 2 ⟨[sl 1 (.ptr 0 0), (qsamCheck1 g), sl 35 (I (wr (x35 + 1)))], (qsamCheck0 g)⟩ ?_
 exact En.at (I := fun zz => Inv zz ∧ mu zz < mu x35) (T := fun zz => ⟨[sl 1 (.ptr 0 0), (qsamCheck1 g), sl 35 (I zz)], (qsamCheck0 g)⟩) (wr (x35 + 1)) h (by kernel_rfl)
 replace h := h.2 hb
 refine En.exit rfl ?_
 refine En.sr ?_
 refine WL.rn ht hn 1 ⟨[sl 2 (I 0)], [.gone, .gone]⟩ ?_
 exact En.rb ht 0 h
theorem en20 : ∀ args w, (callFunc 20 args).run Try.prog w = .ok (.enter 20 args) w := enters_of Try.func20 (by kernel_rfl) rfl
def samLate (g : ApiGraph) : Bool := (List.range g.fArrows.length).any fun i => decide (0 < i) && decide (ordA (g.fArrows.getD (i - 1) default) (g.fArrows.getD i default) ≥ 0)
def samErr (g : ApiGraph) : Int := if (decide (g.fLetters < 1)) || (decide (g.fLetters > 4)) then 2 else if ((decide (g.fPlaces < 1)) || (decide (g.fPlaces > 12))) || (decide ((g.fArrows.length : Int) > 60)) then 1 else if g.fArrows.any (offA (offG g) g) then 2 else if samLate g then 3 else 0
structure GraphOk (g : ApiGraph) : Prop where
 let_ : 1 ≤ g.fLetters ∧ g.fLetters ≤ 4
 pl : 1 ≤ g.fPlaces ∧ g.fPlaces ≤ 12
 len : g.fArrows.length ≤ 60
 arr : ∀ x ∈ g.fArrows, (0 ≤ x.fFrom ∧ x.fFrom < g.fPlaces) ∧ (0 ≤ x.fTo ∧ x.fTo < g.fPlaces) ∧ 0 ≤ x.fLetter ∧ x.fLetter < g.fLetters
theorem samErr_ok {g : ApiGraph} (h : samErr g = 0) : GraphOk g := by
 unfold samErr at h
 by_cases h1 : ((decide (g.fLetters < 1)) || (decide (g.fLetters > 4))) = true
 ·rw [if_pos h1] at h; cases h
 rw [if_neg h1] at h
 by_cases h2 : (((decide (g.fPlaces < 1)) || (decide (g.fPlaces > 12))) || (decide ((g.fArrows.length : Int) > 60))) = true
 ·rw [if_pos h2] at h; cases h
 rw [if_neg h2] at h
 by_cases h3 : g.fArrows.any (offA (offG g) g) = true
 ·rw [if_pos h3] at h; cases h
 simp only [Bool.not_eq_true, Bool.or_eq_false_iff, decide_eq_false_iff_not] at h1 h2
 rw [Bool.not_eq_true, List.any_eq_false] at h3
 refine ⟨by omega, by omega, by omega, fun x hx => ?_⟩
 have := h3 x hx
 unfold offA offG at this
 simp at this
 omega
theorem idx_getS {α : Type} {l : List α} {s : Nat} (z : α) (h : s < l.length) : idx l (s : Int) = some (l.getD s z) := by
 have := idx_of (l := l) (i := (s : Int)) z (by omega) (by omega)
 rwa [Int.toNat_natCast] at this
theorem samCheck_ct (g : ApiGraph)  : Ct 20 [.sv (.agg [I g.fLetters, I g.fPlaces, LS ApiArrow.ty g.fArrows])] [] (fun (_ : Unit) => True) (fun _ => .sv (.one (I (samErr g)))) := by
 refine (samCheck_walk g (fun res_ => res_ = (samErr g)) ?_).fun
 unfold samCheck_vc
 intro _
 refine ⟨fun h => ?_, fun h1 => ⟨fun h => ?_, fun h2 => ⟨fun _ _ => ⟨trivial, trivial⟩, fun h => ?_, fun h3 => ?_⟩⟩⟩
 ·show 2 = _; unfold samErr; rw [if_pos h]
 ·show 1 = _; unfold samErr; rw [if_neg (by rw [h1]; decide), if_pos h]
 ·show 2 = _; unfold samErr; rw [if_neg (by rw [h1]; decide), if_neg (by rw [h2]; decide), if_pos h]
 have he : samErr g = if samLate g then 3 else 0 := by unfold samErr; rw [if_neg (by rw [h1]; decide), if_neg (by rw [h2]; decide), if_neg (by rw [h3]; decide)]
 rw [he]
 refine ⟨fun i => ∃ k : Nat, i = k ∧ k ≤ g.fArrows.length ∧ ∀ j, j < k → (decide (0 < j) && decide (ordA (g.fArrows.getD (j - 1) default) (g.fArrows.getD j default) ≥ 0)) = false, fun i => g.fArrows.length - i.toNat, ⟨0, rfl, Nat.zero_le _, fun j hj => absurd hj (Nat.not_lt_zero _)⟩, ?_⟩
 rintro i ⟨k, rfl, hk, hf⟩
 simp only [Bool.or_eq_false_iff, decide_eq_false_iff_not] at h2
 refine ⟨fun hb => ?_, fun hb => ?_⟩
 ·have hlt := dlt hb
  refine ⟨fun b => b = (decide (0 < k) && decide (ordA (g.fArrows.getD (k - 1) default) (g.fArrows.getD k default) ≥ 0)), ⟨fun hc => ?_, fun hc => ?_⟩, ?_⟩
  ·have hc : (k : Int) > 0 := of_decide_eq_true hc
   have hw : wr ((k : Int) - 1) = ((k - 1 : Nat) : Int) := by rw [wr_in (by omega) (by omega)]; omega
   refine ⟨_, by rw [hw]; exact idx_getS default (by omega), _, idx_getS default hlt, ?_⟩
   show decide _ = (_ && _)
   rw [decide_eq_true (show 0 < k by omega), Bool.true_and]
  ·have hc := of_decide_eq_false hc
   show false = (_ && _)
   rw [decide_eq_false (show ¬ 0 < k by omega)]
   rfl
  ·rintro b rfl
   refine ⟨fun hc => ?_, fun hc => ⟨⟨k + 1, wsucc (by omega), hlt, fun j hj => ?_⟩, mu_up hlt (by omega)⟩⟩
   ·have : samLate g = true := by
     unfold samLate
     exact List.any_eq_true.2 ⟨k, List.mem_range.2 hlt, hc⟩
    rw [if_pos this]
   ·by_cases e : j = k
    ·rw [e]; exact hc
    ·exact hf j (by omega)
 ·have : samLate g = false := by
   unfold samLate
   rw [List.any_eq_false]
   intro j hj
   rw [hf j (by have := List.mem_range.1 hj; have := dge hb; omega)]
   decide
  rw [this]
  rfl
def ansOne (q : Int) (x : ApiArrow) (ok : Int × Int → Bool) (y : ApiArrow) : Bool := (y.fFrom == q) && ((y.fLetter == x.fLetter) && ok (x.fTo, y.fTo))
def ansB (g : ApiGraph) (p q : Int) (ok : Int × Int → Bool) : Bool := g.fArrows.all fun x => !(x.fFrom == p && !(g.fArrows.any (ansOne q x ok)))
def alikeC (c : List Int) (y : Int × Int) : Bool := c.getD y.1.toNat 0 == c.getD y.2.toNat 0
def r2B (cl : List Int) (p : Int) (g : ApiGraph) (al : Int × Int → Bool) (q : Int) : Bool := (cl.getD p.toNat 0 == cl.getD q.toNat 0) && (ansB g p q al && ansB g q p al)
def StepS (g : ApiGraph) (cl : List Int) (p q : Nat) : Prop := r2B cl (p : Int) g (alikeC cl) (q : Int) = true
def BisR (g : ApiGraph) (R : Nat → Nat → Prop) : Prop := ∀ p q, R p q → R q p ∧ ∀ x ∈ g.fArrows, x.fFrom = (p : Int) → ∃ y ∈ g.fArrows, y.fFrom = (q : Int) ∧ y.fLetter = x.fLetter ∧ R x.fTo.toNat y.fTo.toNat
def CoarseC (g : ApiGraph) (cl : List Int) : Prop := ∀ R, BisR g R → ∀ p q, p < g.fPlaces.toNat → q < g.fPlaces.toNat → R p q → cl.getD p 0 = cl.getD q 0
structure StableC (g : ApiGraph) (cl : List Int) : Prop where
 coarse : CoarseC g cl
 len : cl.length = g.fPlaces.toNat
 same : ∀ p q, p < g.fPlaces.toNat → q < g.fPlaces.toNat → cl.getD p 0 = cl.getD q 0 → StepS g cl p q
def mul64_vc (x : Int) (y : Int) (Q : (Int × Int) → Prop) : Prop :=
 Q ((IntKind.wrap .u64 ((IntKind.wrap .u64 ((IntKind.wrap .u64 ((Int.fdiv x (2 ^ (min 32 64))) * (Int.fdiv y (2 ^ (min 32 64))))) + (Int.fdiv (IntKind.wrap .u64 ((IntKind.wrap .u64 ((Int.fdiv x (2 ^ (min 32 64))) * (bitsI .and .u64 y 4294967295))) + (Int.fdiv (IntKind.wrap .u64 ((bitsI .and .u64 x 4294967295) * (bitsI .and .u64 y 4294967295))) (2 ^ (min 32 64))))) (2 ^ (min 32 64))))) + (Int.fdiv (IntKind.wrap .u64 ((bitsI .and .u64 (IntKind.wrap .u64 ((IntKind.wrap .u64 ((Int.fdiv x (2 ^ (min 32 64))) * (bitsI .and .u64 y 4294967295))) + (Int.fdiv (IntKind.wrap .u64 ((bitsI .and .u64 x 4294967295) * (bitsI .and .u64 y 4294967295))) (2 ^ (min 32 64))))) 4294967295) + (IntKind.wrap .u64 ((bitsI .and .u64 x 4294967295) * (Int.fdiv y (2 ^ (min 32 64))))))) (2 ^ (min 32 64))))), (IntKind.wrap .u64 (x * y)))
noncomputable abbrev qmul640 (x : Int) (y : Int) := (IntKind.wrap .u64 ((IntKind.wrap .u64 ((Int.fdiv x (2 ^ (min 32 64))) * (bitsI .and .u64 y 4294967295))) + (Int.fdiv (IntKind.wrap .u64 ((bitsI .and .u64 x 4294967295) * (bitsI .and .u64 y 4294967295))) (2 ^ (min 32 64)))))
noncomputable abbrev qmul641 (x : Int) (y : Int) := (IntKind.wrap .u64 ((IntKind.wrap .u64 ((IntKind.wrap .u64 ((Int.fdiv x (2 ^ (min 32 64))) * (Int.fdiv y (2 ^ (min 32 64))))) + (Int.fdiv (qmul640 x y) (2 ^ (min 32 64))))) + (Int.fdiv (IntKind.wrap .u64 ((bitsI .and .u64 (qmul640 x y) 4294967295) + (IntKind.wrap .u64 ((bitsI .and .u64 x 4294967295) * (Int.fdiv y (2 ^ (min 32 64))))))) (2 ^ (min 32 64)))))
noncomputable abbrev qmul642 (x : Int) := sl 6 (.v (.int .u64 (bitsI .and .u64 x 4294967295)))
noncomputable abbrev qmul643 (x : Int) := sl 7 (.v (.int .u64 (Int.fdiv x (2 ^ (min 32 64)))))
noncomputable abbrev qmul644 (y : Int) := sl 9 (.v (.int .u64 (Int.fdiv y (2 ^ (min 32 64)))))
theorem mul64_walk (x : Int) (y : Int) (Q : (Int × Int) → Prop) (h : mul64_vc x y Q) : Ct 138 [.sv (.one (.v (.int .u64 x))), .sv (.one (.v (.int .u64 y)))] [] Q (fun (r : (Int × Int)) => .tup [.one (.v (.int .u64 r.1)), .one (.v (.int .u64 r.2))]) := by
 have ht := tab_ok
 refine Ct.body Try.func138 rfl rfl rfl rfl (fun c hn => ?_)
 unfold mul64_vc at h
 refine En.sr ?_
 refine WL.rn ht hn 2 ⟨[sl 0 (.v (.int .u64 x)), sl 1 (.v (.int .u64 y))], []⟩ ?_
 refine En.sr ?_
 refine WL.rn ht hn 3 ⟨[sl 0 (.v (.int .u64 x)), sl 1 (.v (.int .u64 y)), (qmul642 x)], []⟩ ?_
 refine En.sr ?_
 refine WL.rn ht hn 3 ⟨[sl 0 (.v (.int .u64 x)), sl 1 (.v (.int .u64 y)), (qmul642 x), (qmul643 x)], []⟩ ?_
 refine En.sr ?_
 refine WL.rn ht hn 3 ⟨[sl 0 (.v (.int .u64 x)), sl 1 (.v (.int .u64 y)), (qmul642 x), (qmul643 x), sl 8 (.v (.int .u64 (bitsI .and .u64 y 4294967295)))], []⟩ ?_
 refine En.sr ?_
 refine WL.rn ht hn 3 ⟨[sl 0 (.v (.int .u64 x)), sl 1 (.v (.int .u64 y)), (qmul642 x), (qmul643 x), sl 8 (.v (.int .u64 (bitsI .and .u64 y 4294967295))), (qmul644 y)], []⟩ ?_
 refine En.sr ?_
 refine WL.rn ht hn 4 ⟨[sl 0 (.v (.int .u64 x)), sl 1 (.v (.int .u64 y)), (qmul642 x), (qmul643 x), sl 8 (.v (.int .u64 (bitsI .and .u64 y 4294967295))), (qmul644 y), sl 10 (.v (.int .u64 (IntKind.wrap .u64 ((bitsI .and .u64 x 4294967295) * (bitsI .and .u64 y 4294967295)))))], []⟩ ?_
 refine En.sr ?_
 refine WL.rn ht hn 7 ⟨[sl 0 (.v (.int .u64 x)), sl 1 (.v (.int .u64 y)), (qmul642 x), (qmul643 x), (qmul644 y), sl 11 (.v (.int .u64 (qmul640 x y)))], []⟩ ?_
 refine En.sr ?_
 refine WL.rn ht hn 3 ⟨[sl 0 (.v (.int .u64 x)), sl 1 (.v (.int .u64 y)), (qmul642 x), (qmul643 x), (qmul644 y), sl 11 (.v (.int .u64 (qmul640 x y))), sl 12 (.v (.int .u64 (bitsI .and .u64 (qmul640 x y) 4294967295)))], []⟩ ?_
 refine En.sr ?_
 refine WL.rn ht hn 3 ⟨[sl 0 (.v (.int .u64 x)), sl 1 (.v (.int .u64 y)), (qmul642 x), (qmul643 x), (qmul644 y), sl 12 (.v (.int .u64 (bitsI .and .u64 (qmul640 x y) 4294967295))), sl 13 (.v (.int .u64 (Int.fdiv (qmul640 x y) (2 ^ (min 32 64)))))], []⟩ ?_
 refine En.sr ?_
 refine WL.rn ht hn 6 ⟨[sl 0 (.v (.int .u64 x)), sl 1 (.v (.int .u64 y)), (qmul643 x), (qmul644 y), sl 12 (.v (.int .u64 (IntKind.wrap .u64 ((bitsI .and .u64 (qmul640 x y) 4294967295) + (IntKind.wrap .u64 ((bitsI .and .u64 x 4294967295) * (Int.fdiv y (2 ^ (min 32 64))))))))), sl 13 (.v (.int .u64 (Int.fdiv (qmul640 x y) (2 ^ (min 32 64)))))], []⟩ ?_
 refine En.sr ?_
 refine WL.rn ht hn 9 ⟨[sl 0 (.v (.int .u64 x)), sl 1 (.v (.int .u64 y)), sl 4 (.v (.int .u64 (qmul641 x y)))], []⟩ ?_
 refine En.sr ?_
 refine WL.rn ht hn 4 ⟨[sl 4 (.v (.int .u64 (qmul641 x y))), sl 5 (.v (.int .u64 (IntKind.wrap .u64 (x * y))))], []⟩ ?_
 exact En.rb ht ((qmul641 x y), (IntKind.wrap .u64 (x * y))) h
theorem en138 : ∀ args w, (callFunc 138 args).run Try.prog w = .ok (.enter 138 args) w := enters_of Try.func138 (by kernel_rfl) rfl
theorem wr_u64 {a : Int} (h1 : 0 ≤ a) (h2 : a < 18446744073709551616) : IntKind.wrap .u64 a = a := by
 show a % 18446744073709551616 = a
 exact Int.emod_eq_of_lt h1 h2
theorem and_mask {x : Int} (h1 : 0 ≤ x) (h2 : x < 4294967296) : bitsI .and .u64 x 4294967295 = x := by
 obtain ⟨m, rfl⟩ : ∃ m : Nat, x = m := ⟨x.toNat, by omega⟩
 have h := (bits_nat .u64 63 (by decide) (fun a h0 ha => wr_u64 h0 (by omega)) m 4294967295 (by omega) (by decide)).1
 have h3 : m &&& 4294967295 = m % 2 ^ 32 := Nat.and_two_pow_sub_one_eq_mod m 32
 rw [h3, Nat.mod_eq_of_lt (by omega)] at h
 exact h
theorem shr_small {x : Int} (h1 : 0 ≤ x) (h2 : x < 4294967296) : Int.fdiv x (2 ^ (min 32 64)) = 0 := by
 rw [show ((2 : Int) ^ (min 32 64)) = 4294967296 from rfl, Int.fdiv_eq_ediv_of_nonneg _ (by omega)]
 exact Int.ediv_eq_zero_of_lt h1 h2
theorem mul64_ct (x : Int) (y : Int) (hp : (0 ≤ x ∧ x < 4294967296) ∧ 0 ≤ y ∧ y < 4294967296) (hq : x * y < 4294967296) : Ct 138 [.sv (.one (.v (.int .u64 x))), .sv (.one (.v (.int .u64 y)))] [] (fun (_ : Unit) => True) (fun _ => .tup [.one (.v (.int .u64 ((0, IntKind.wrap .u64 (x * y))).1)), .one (.v (.int .u64 ((0, IntKind.wrap .u64 (x * y))).2))]) := by
 refine (mul64_walk x y (fun res_ => res_ = ((0, IntKind.wrap .u64 (x * y)))) ?_).fun
 unfold mul64_vc
 obtain ⟨⟨h1, h2⟩, h3, h4⟩ := hp
 have hxy : 0 ≤ x * y := Int.mul_nonneg h1 h3
 have hle : x * y < 4294967296 := hq
 rw [and_mask h1 h2, and_mask h3 (by omega), shr_small h1 h2, shr_small h3 (by omega)]
 simp only [Int.zero_mul, Int.mul_zero, Int.zero_add, Int.add_zero]
 rw [show IntKind.wrap .u64 0 = 0 from rfl]
 simp only [Int.zero_add, Int.add_zero]
 rw [wr_u64 hxy (by omega), shr_small hxy hle]
 rfl
theorem mul64_ct2 (x y : Int) (hp : ((0 ≤ x ∧ x < 4294967296) ∧ 0 ≤ y ∧ y < 4294967296) ∧ x * y < 4294967296) : Ct 138 [.sv (.one (.v (.int .u64 x))), .sv (.one (.v (.int .u64 y)))] [] (fun (_ : Unit) => True) (fun _ => .tup [.one (.v (.int .u64 0)), .one (.v (.int .u64 (IntKind.wrap .u64 (x * y))))]) := mul64_ct x y hp.1 hp.2
def mulU_vc (x : Int) (y : Int) (Q : (Int × Int) → Prop) : Prop :=
 (((0 ≤ x ∧ x < 4294967296) ∧ 0 ≤ y ∧ y < 4294967296) ∧ x * y < 4294967296) ∧
 Q ((((0 : Int), IntKind.wrap .u64 (x * y))).1, (((0 : Int), IntKind.wrap .u64 (x * y))).2)
theorem mulU_walk (x : Int) (y : Int) (Q : (Int × Int) → Prop) (h : mulU_vc x y Q) : Ct 112 [.sv (.one (.v (.int .u64 x))), .sv (.one (.v (.int .u64 y)))] [] Q (fun (r : (Int × Int)) => .tup [.one (.v (.int .u64 r.1)), .one (.v (.int .u64 r.2))]) := by
 have ht := tab_ok
 refine Ct.body Try.func112 rfl rfl rfl rfl (fun c hn => ?_)
 unfold mulU_vc at h
 refine En.sr ?_
 refine WL.rn ht hn 2 ⟨[sl 0 (.v (.int .u64 x)), sl 1 (.v (.int .u64 y))], []⟩ ?_
 refine En.seq ?_
 refine En.cd (b := false) (fun hb => ?_) (fun hb => ?_)
 cases hb
 refine En.skip ?_
 refine En.sr ?_
 refine WL.r ht hn 2 ⟨[sl 23 (.v (.int .u64 x)), sl 24 (.v (.int .u64 y))], []⟩ ?_
 obtain ⟨hp, h⟩ := h
 refine WL.m0 hn (mt_c (mul64_ct2 x y hp) en138 rfl) ?_
 refine WL.rn ht hn 5 ⟨[sl 8 (.v (.int .u64 ((0 : Int), IntKind.wrap .u64 (x * y)).1)), sl 9 (.v (.int .u64 ((0 : Int), IntKind.wrap .u64 (x * y)).2))], []⟩ ?_
 refine En.sr ?_
 refine WL.rn ht hn 4 ⟨[sl 4 (.v (.int .u64 ((0 : Int), IntKind.wrap .u64 (x * y)).1)), sl 5 (.v (.int .u64 ((0 : Int), IntKind.wrap .u64 (x * y)).2))], []⟩ ?_
 exact En.rb ht (((0 : Int), IntKind.wrap .u64 (x * y)).1, ((0 : Int), IntKind.wrap .u64 (x * y)).2) h
theorem en112 : ∀ args w, (callFunc 112 args).run Try.prog w = .ok (.enter 112 args) w := enters_of Try.func112 (by kernel_rfl) rfl
theorem mulU_ct (x : Int) (y : Int) (hp : ((0 ≤ x ∧ x < 4294967296) ∧ 0 ≤ y ∧ y < 4294967296) ∧ x * y < 4294967296) : Ct 112 [.sv (.one (.v (.int .u64 x))), .sv (.one (.v (.int .u64 y)))] [] (fun (_ : Unit) => True) (fun _ => .tup [.one (.v (.int .u64 ((0, IntKind.wrap .u64 (x * y))).1)), .one (.v (.int .u64 ((0, IntKind.wrap .u64 (x * y))).2))]) := by
 refine (mulU_walk x y (fun res_ => res_ = ((0, IntKind.wrap .u64 (x * y)))) ?_).fun
 unfold mulU_vc
 exact ⟨hp, rfl⟩
def repB_vc (l : (List Bool)) (n : Int) (Q : (List Bool) → Prop) : Prop :=
 l.length ≤ 9223372036854775807 →
 (IfP (decide (n < 0)) (False) ((((0 ≤ (IntKind.wrap .u64 (l.length : Int)) ∧ (IntKind.wrap .u64 (l.length : Int)) < 4294967296) ∧ 0 ≤ (IntKind.wrap .u64 n) ∧ (IntKind.wrap .u64 n) < 4294967296) ∧ (IntKind.wrap .u64 (l.length : Int)) * (IntKind.wrap .u64 n) < 4294967296) ∧
 IfP ((decide ((((0 : Int), IntKind.wrap .u64 ((IntKind.wrap .u64 (l.length : Int)) * (IntKind.wrap .u64 n)))).1 > 0)) || (decide ((((0 : Int), IntKind.wrap .u64 ((IntKind.wrap .u64 (l.length : Int)) * (IntKind.wrap .u64 n)))).2 > 9223372036854775807))) (False) (makeOk (wr (((0 : Int), IntKind.wrap .u64 ((IntKind.wrap .u64 (l.length : Int)) * (IntKind.wrap .u64 n)))).2) (wr (((0 : Int), IntKind.wrap .u64 ((IntKind.wrap .u64 (l.length : Int)) * (IntKind.wrap .u64 n)))).2) 1 ∧
 ∃ (Inv : Int → (List Bool) → Prop) (mu : Int → (List Bool) → Nat), Inv (((min l.length (List.replicate ((wr (((0 : Int), IntKind.wrap .u64 ((IntKind.wrap .u64 (l.length : Int)) * (IntKind.wrap .u64 n)))).2)).toNat false).length) : Nat) : Int) ((List.replicate ((wr (((0 : Int), IntKind.wrap .u64 ((IntKind.wrap .u64 (l.length : Int)) * (IntKind.wrap .u64 n)))).2)).toNat false).take 0 ++ l.take (min l.length (List.replicate ((wr (((0 : Int), IntKind.wrap .u64 ((IntKind.wrap .u64 (l.length : Int)) * (IntKind.wrap .u64 n)))).2)).toNat false).length) ++ (List.replicate ((wr (((0 : Int), IntKind.wrap .u64 ((IntKind.wrap .u64 (l.length : Int)) * (IntKind.wrap .u64 n)))).2)).toNat false).drop (0 + (min l.length (List.replicate ((wr (((0 : Int), IntKind.wrap .u64 ((IntKind.wrap .u64 (l.length : Int)) * (IntKind.wrap .u64 n)))).2)).toNat false).length))) ∧
 ∀ (x8 : Int) (l0 : (List Bool)) , Inv x8 l0 → (IfP (decide (x8 < (l0.length : Int))) (partOk x8 (l0.length : Int) l0.length ∧
 partOk 0 x8 l0.length ∧
 (Inv (wr (x8 + (((min ((l0.drop ((0 : Int).toNat)).take ((x8 : Int).toNat - (0 : Int).toNat)).length (((l0.length : Int) : Int).toNat - (x8 : Int).toNat)) : Nat) : Int))) (l0.take ((x8 : Int).toNat) ++ ((l0.drop ((0 : Int).toNat)).take ((x8 : Int).toNat - (0 : Int).toNat)).take (min ((l0.drop ((0 : Int).toNat)).take ((x8 : Int).toNat - (0 : Int).toNat)).length (((l0.length : Int) : Int).toNat - (x8 : Int).toNat)) ++ l0.drop (((x8 : Int).toNat) + (min ((l0.drop ((0 : Int).toNat)).take ((x8 : Int).toNat - (0 : Int).toNat)).length (((l0.length : Int) : Int).toNat - (x8 : Int).toNat)))) ∧ mu (wr (x8 + (((min ((l0.drop ((0 : Int).toNat)).take ((x8 : Int).toNat - (0 : Int).toNat)).length (((l0.length : Int) : Int).toNat - (x8 : Int).toNat)) : Nat) : Int))) (l0.take ((x8 : Int).toNat) ++ ((l0.drop ((0 : Int).toNat)).take ((x8 : Int).toNat - (0 : Int).toNat)).take (min ((l0.drop ((0 : Int).toNat)).take ((x8 : Int).toNat - (0 : Int).toNat)).length (((l0.length : Int) : Int).toNat - (x8 : Int).toNat)) ++ l0.drop (((x8 : Int).toNat) + (min ((l0.drop ((0 : Int).toNat)).take ((x8 : Int).toNat - (0 : Int).toNat)).length (((l0.length : Int) : Int).toNat - (x8 : Int).toNat)))) < mu x8 l0)) (Q l0)))))
noncomputable abbrev qrepB0 (l : (List Bool)) (n : Int) := (List.replicate (wr ((0 : Int), IntKind.wrap .u64 ((IntKind.wrap .u64 (l.length : Int)) * (IntKind.wrap .u64 n))).2).toNat false)
noncomputable abbrev qrepB1 (l : (List Bool)) := (IntKind.wrap .u64 (l.length : Int))
noncomputable abbrev qrepB2 (l : (List Bool)) (n : Int) := sl 6 (.v (.int .u64 ((0 : Int), IntKind.wrap .u64 ((qrepB1 l) * (IntKind.wrap .u64 n))).2))
noncomputable abbrev qrepB3 (l : (List Bool)) (n : Int) := (decide (((0 : Int), IntKind.wrap .u64 ((qrepB1 l) * (IntKind.wrap .u64 n))).1 > 0))
noncomputable abbrev qrepB4 (l : (List Bool)) (n : Int) := (decide (((0 : Int), IntKind.wrap .u64 ((qrepB1 l) * (IntKind.wrap .u64 n))).2 > 9223372036854775807))
noncomputable abbrev qrepB5 (l : (List Bool)) (n : Int) := (min l.length (qrepB0 l n).length)
theorem repB_walk (l : (List Bool)) (n : Int) (Q : (List Bool) → Prop) (h : repB_vc l n Q) : CtJ 77 [.sv (.one (LS boolT l)), .sv (.one (I n))] [] Q (fun (r : (List Bool)) => rowI 4 boolT r) := by
 have ht := tab_ok
 refine CtJ.body Try.func77 rfl rfl rfl rfl (fun c hn hmay => ?_)
 unfold repB_vc at h
 refine En.lenL 0 (by rfl) (fun hl => ?_)
 replace h := h hl
 clear hl
 refine En.sr ?_
 refine WL.rn ht hn 1 ⟨[sl 0 (LS boolT l), sl 1 (I n)], []⟩ ?_
 refine En.seq ?_
 refine En.sr ?_
 refine WL.rn ht hn 2 ⟨[sl 0 (LS boolT l), sl 1 (I n), sl 10 (B (decide (n < 0)))], []⟩ ?_
 refine En.cd (b := (decide (n < 0))) (fun hb => ?_) (fun hb => ?_)
 replace h := h.1 hb
 exact h.elim
 replace h := h.2 hb
 refine En.skip ?_
 refine En.sr ?_
 refine WL.r ht hn 5 ⟨[sl 0 (LS boolT l), sl 15 (.v (.int .u64 (qrepB1 l))), sl 17 (.v (.int .u64 (IntKind.wrap .u64 n)))], []⟩ ?_
 obtain ⟨hp, h⟩ := h
 refine WL.m0 hn (mt_c (mulU_ct (qrepB1 l) (IntKind.wrap .u64 n) hp) en112 rfl) ?_
 refine WL.rn ht hn 5 ⟨[sl 0 (LS boolT l), sl 5 (.v (.int .u64 ((0 : Int), IntKind.wrap .u64 ((qrepB1 l) * (IntKind.wrap .u64 n))).1)), (qrepB2 l n)], []⟩ ?_
 refine En.seq ?_
 refine En.sr ?_
 refine WL.r ht hn 3 ⟨[sl 0 (LS boolT l), (qrepB2 l n), sl 23 (B (qrepB3 l n))], []⟩ ?_
 refine WL.thru ⟨[sl 0 (LS boolT l), (qrepB2 l n), sl 26 (B ((qrepB3 l n) || (qrepB4 l n)))], []⟩ ?_ ?_
 refine splitB (qrepB3 l n) (fun hb0 => ?_) (fun hb0 => ?_)
 refine WL.sB 23 hb0 ?_
 refine WL.r ht hn 3 ⟨[sl 0 (LS boolT l), (qrepB2 l n), sl 26 (B true)], []⟩ ?_
 exact WL.nil (sub_ok (by simp only [hb0]; kernel_rfl))
 refine WL.sB 23 hb0 ?_
 refine WL.r ht hn 3 ⟨[sl 0 (LS boolT l), (qrepB2 l n), sl 26 (B (qrepB4 l n))], []⟩ ?_
 exact WL.nil (sub_ok (by simp only [hb0]; kernel_rfl))
 refine En.cd (b := ((qrepB3 l n) || (qrepB4 l n))) (fun hb => ?_) (fun hb => ?_)
 replace h := h.1 hb
 exact h.elim
 replace h := h.2 hb
 refine En.skip ?_
 refine En.sr ?_
 refine WL.r ht hn 2 ⟨[sl 0 (LS boolT l), sl 29 (I (wr ((0 : Int), IntKind.wrap .u64 ((qrepB1 l) * (IntKind.wrap .u64 n))).2))], []⟩ ?_
 obtain ⟨hp, h⟩ := h
 refine WL.mt0 (K := []) (p := some (0, rowI 4 boolT (qrepB0 l n))) hn (by rfl) (mt_make (T := boolT) false (zv := (.bool false)) 0 (l := (wr ((0 : Int), IntKind.wrap .u64 ((qrepB1 l) * (IntKind.wrap .u64 n))).2)) (cp := (wr ((0 : Int), IntKind.wrap .u64 ((qrepB1 l) * (IntKind.wrap .u64 n))).2)) ht rfl (by rfl) (by rfl) (by rfl) (by rfl) (by decide) (by rfl) (by rfl) hp.1 hp.2.1 hp.2.2 (hp.le (by decide)) rfl (fun _ => ⟨rfl, trivial⟩)) (by rfl) (by rfl) (by rfl) ?_
 refine WL.rn ht hn 1 ⟨[sl 0 (LS boolT l), sl 7 (.own 0)], [rowI 4 boolT (qrepB0 l n)]⟩ ?_
 refine En.sr ?_
 refine WL.r ht hn 2 ⟨[sl 7 (.own 0), sl 31 (.own 0), sl 32 (LS boolT l)], [rowI 4 boolT (qrepB0 l n)]⟩ ?_
 refine WL.me hn (by rfl) (me_copy (T := boolT) (L := (qrepB0 l n)) (es := l) (i := 0) (lo := 0) (m := (qrepB0 l n).length) rfl (fun _ h => by cases h) ht rfl (by rfl) (by rfl) (by rfl) (by rfl) (by rfl) (dstOwn (T := boolT) (l := (qrepB0 l n)) (by rfl) (by rfl)) (srcLS (T := boolT) (es := l) (fun _ h => by cases h) (by decide) (by rfl)) (Nat.le_of_eq (Nat.zero_add _))) (by rfl) rfl rfl (by rfl) ?_
 refine WL.sub ⟨[sl 7 (.own 0), sl 31 (.own 0), sl 32 (LS boolT l), sl 33 (I (((qrepB5 l n) : Nat) : Int))], [rowI 4 boolT ((qrepB0 l n).take 0 ++ l.take (qrepB5 l n) ++ (qrepB0 l n).drop (0 + (qrepB5 l n)))]⟩ (by kernel_rfl) ?_
 refine WL.rn ht hn 1 ⟨[sl 7 (.own 0), sl 8 (I (((qrepB5 l n) : Nat) : Int))], [rowI 4 boolT ((qrepB0 l n).take 0 ++ l.take (qrepB5 l n) ++ (qrepB0 l n).drop (0 + (qrepB5 l n)))]⟩ ?_
 refine En.seq ?_
 refine En.block ?_
 obtain ⟨Inv, mu, h0, hI⟩ := h
 refine En.loop (σ := Int × (List Bool)) (fun zz => Inv zz.1 zz.2) (fun zz => mu zz.1 zz.2) (fun zz => ⟨[sl 7 (.own 0), sl 8 (I zz.1)], [rowI 4 boolT zz.2]⟩) ((((qrepB5 l n) : Nat) : Int), ((qrepB0 l n).take 0 ++ l.take (qrepB5 l n) ++ (qrepB0 l n).drop (0 + (qrepB5 l n)))) h0 (sub_ok (by kernel_rfl)) ?_
 rintro ⟨x8, l0⟩ h
 replace h := hI _ _ h
 show En c ⟨[sl 7 (.own 0), sl 8 (I x8)], [rowI 4 boolT l0]⟩ _
 refine En.seq ?_
 refine En.sr ?_
 refine WL.rn ht hn 4 ⟨[sl 7 (.own 0), sl 8 (I x8), sl 37 (B (decide (x8 < (l0.length : Int))))], [rowI 4 boolT l0]⟩ ?_
 refine En.cd (b := (decide (x8 < (l0.length : Int)))) (fun hb => ?_) (fun hb => ?_)
 replace h := h.1 hb
 refine En.skip ?_
 refine En.block ?_
 obtain ⟨hp_2, h⟩ := h
 obtain ⟨hp_3, h⟩ := h
 refine En.regionA ⟨[sl 7 (.own 0), sl 8 (I x8)], [.sv (.one (I x8)), .sv (.one (.own 0)), .sv (.one (I x8)), .sv (.one (.vw 0 ((x8 : Int).toNat) (((l0.length : Int) : Int).toNat - (x8 : Int).toNat) 1)), .sv (.one (.own 0)), .sv (.one (I x8)), .sv (.one (.vw 0 ((0 : Int).toNat) ((x8 : Int).toNat - (0 : Int).toNat) 1)), .sv (.one (I (((min ((l0.drop ((0 : Int).toNat)).take ((x8 : Int).toNat - (0 : Int).toNat)).length (((l0.length : Int) : Int).toNat - (x8 : Int).toNat)) : Nat) : Int))), .sv (.one (I (wr (x8 + (((min ((l0.drop ((0 : Int).toNat)).take ((x8 : Int).toNat - (0 : Int).toNat)).length (((l0.length : Int) : Int).toNat - (x8 : Int).toNat)) : Nat) : Int))))), .sv (.one (I (wr (x8 + (((min ((l0.drop ((0 : Int).toNat)).take ((x8 : Int).toNat - (0 : Int).toNat)).length (((l0.length : Int) : Int).toNat - (x8 : Int).toNat)) : Nat) : Int)))))], [⟨rowI 4 boolT l0, none, none, some (7, rowI 4 boolT (l0.take ((x8 : Int).toNat) ++ ((l0.drop ((0 : Int).toNat)).take ((x8 : Int).toNat - (0 : Int).toNat)).take (min ((l0.drop ((0 : Int).toNat)).take ((x8 : Int).toNat - (0 : Int).toNat)).length (((l0.length : Int) : Int).toNat - (x8 : Int).toNat)) ++ l0.drop (((x8 : Int).toNat) + (min ((l0.drop ((0 : Int).toNat)).take ((x8 : Int).toNat - (0 : Int).toNat)).length (((l0.length : Int) : Int).toNat - (x8 : Int).toNat)))))⟩]⟩ ⟨[sl 7 (.own 0), sl 8 (I (wr (x8 + (((min ((l0.drop ((0 : Int).toNat)).take ((x8 : Int).toNat - (0 : Int).toNat)).length (((l0.length : Int) : Int).toNat - (x8 : Int).toNat)) : Nat) : Int))))], [rowI 4 boolT (l0.take ((x8 : Int).toNat) ++ ((l0.drop ((0 : Int).toNat)).take ((x8 : Int).toNat - (0 : Int).toNat)).take (min ((l0.drop ((0 : Int).toNat)).take ((x8 : Int).toNat - (0 : Int).toNat)).length (((l0.length : Int) : Int).toNat - (x8 : Int).toNat)) ++ l0.drop (((x8 : Int).toNat) + (min ((l0.drop ((0 : Int).toNat)).take ((x8 : Int).toNat - (0 : Int).toNat)).length (((l0.length : Int) : Int).toNat - (x8 : Int).toNat))))]⟩ (by kernel_rfl) hn (by kernel_rfl) (by rfl) (by kernel_rfl) ?_ (by kernel_rfl) ?_
 exact ⟨.ev ⟨[sl 8 (I x8)], []⟩ ht,
 .ev ⟨[sl 7 (.own 0)], []⟩ ht,
 .ev ⟨[sl 8 (I x8)], []⟩ ht,
 .vl ⟨[sl 39 (.own 0), sl 40 (I x8)], [rowI 4 boolT l0]⟩ (mt_val (val_view (T := boolT) (l := l0) (lv := x8) (hv := (l0.length : Int)) ht rfl (by rfl) (by rfl) (by rfl) (by rfl) (by rfl) (by rfl) (by rfl) (by rfl) hp_2)),
 .ev ⟨[sl 7 (.own 0)], []⟩ ht,
 .ev ⟨[sl 8 (I x8)], []⟩ ht,
 .vl ⟨[sl 42 (.own 0), sl 43 (I x8)], [rowI 4 boolT l0]⟩ (mt_val (val_view (T := boolT) (l := l0) (lv := 0) (hv := x8) ht rfl (by rfl) (by rfl) (by rfl) (by rfl) (by rfl) (by rfl) (by rfl) (by rfl) hp_3)),
 .me ⟨[sl 41 (.vw 0 ((x8 : Int).toNat) (((l0.length : Int) : Int).toNat - (x8 : Int).toNat) 1), sl 44 (.vw 0 ((0 : Int).toNat) ((x8 : Int).toNat - (0 : Int).toNat) 1)], [rowI 4 boolT l0]⟩ [(0, rowI 4 boolT (l0.take ((x8 : Int).toNat) ++ ((l0.drop ((0 : Int).toNat)).take ((x8 : Int).toNat - (0 : Int).toNat)).take (min ((l0.drop ((0 : Int).toNat)).take ((x8 : Int).toNat - (0 : Int).toNat)).length (((l0.length : Int) : Int).toNat - (x8 : Int).toNat)) ++ l0.drop (((x8 : Int).toNat) + (min ((l0.drop ((0 : Int).toNat)).take ((x8 : Int).toNat - (0 : Int).toNat)).length (((l0.length : Int) : Int).toNat - (x8 : Int).toNat)))))] (by kernel_rfl) (by rfl) (me_copy (T := boolT) (L := l0) (es := ((l0.drop ((0 : Int).toNat)).take ((x8 : Int).toNat - (0 : Int).toNat))) (i := 0) (lo := ((x8 : Int).toNat)) (m := (((l0.length : Int) : Int).toNat - (x8 : Int).toNat)) rfl (fun _ h => by cases h) ht rfl (by rfl) (by rfl) (by rfl) (by rfl) (by rfl) (dstVw (by rfl)) (srcVw (T := boolT) (l := l0) rfl (fun _ h => by cases h) (by rfl) (by rfl) (view_le hp_3)) (view_le hp_2)) rfl rfl rfl ⟨⟨_, rfl, rfl, rfl, rfl, rfl⟩, trivial⟩,
 .ev ⟨[sl 38 (I x8), sl 45 (I (((min ((l0.drop ((0 : Int).toNat)).take ((x8 : Int).toNat - (0 : Int).toNat)).length (((l0.length : Int) : Int).toNat - (x8 : Int).toNat)) : Nat) : Int))], []⟩ ht,
 .ev ⟨[sl 46 (I (wr (x8 + (((min ((l0.drop ((0 : Int).toNat)).take ((x8 : Int).toNat - (0 : Int).toNat)).length (((l0.length : Int) : Int).toNat - (x8 : Int).toNat)) : Nat) : Int))))], []⟩ ht,
 trivial⟩
 exact En.at (I := fun zz => Inv zz.1 zz.2 ∧ mu zz.1 zz.2 < mu x8 l0) (T := fun zz => ⟨[sl 7 (.own 0), sl 8 (I zz.1)], [rowI 4 boolT zz.2]⟩) ((wr (x8 + (((min ((l0.drop ((0 : Int).toNat)).take ((x8 : Int).toNat - (0 : Int).toNat)).length (((l0.length : Int) : Int).toNat - (x8 : Int).toNat)) : Nat) : Int))), (l0.take ((x8 : Int).toNat) ++ ((l0.drop ((0 : Int).toNat)).take ((x8 : Int).toNat - (0 : Int).toNat)).take (min ((l0.drop ((0 : Int).toNat)).take ((x8 : Int).toNat - (0 : Int).toNat)).length (((l0.length : Int) : Int).toNat - (x8 : Int).toNat)) ++ l0.drop (((x8 : Int).toNat) + (min ((l0.drop ((0 : Int).toNat)).take ((x8 : Int).toNat - (0 : Int).toNat)).length (((l0.length : Int) : Int).toNat - (x8 : Int).toNat))))) h (by kernel_rfl)
 replace h := h.2 hb
 refine En.exit rfl ?_
 refine En.sr ?_
 refine WL.rn ht hn 2 ⟨[sl 4 (.own 0)], [rowI 4 boolT l0]⟩ ?_
 refine En.ret ?_
 exact En.backJ (itf := fun l => rowI 4 boolT l) hmay (by rfl) (by rfl) rfl rfl h
theorem en77 : ∀ args w, (callFunc 77 args).run Try.prog w = .ok (.enter 77 args) w := enters_of Try.func77 (by kernel_rfl) rfl
theorem rep_step {k m : Nat} (b : Bool) (hk : k < m) : (List.replicate k b ++ List.replicate (m - k) false).take k ++ (List.replicate k b).take (min k (m - k)) ++ (List.replicate k b ++ List.replicate (m - k) false).drop (k + min k (m - k)) = List.replicate (k + min k (m - k)) b ++ List.replicate (m - (k + min k (m - k))) false := by
 rw [List.take_left' (by simp), List.take_replicate, List.drop_append, List.drop_eq_nil_of_le (by simp), List.nil_append, List.drop_replicate, List.length_replicate, Nat.min_eq_left (Nat.min_le_left _ _), List.replicate_append_replicate]
 congr 2
 omega
theorem repB_ct (l : List Bool) (n : Int) (hp : l.length = 1 ∧ 0 ≤ n ∧ n < 2147483648) : CtI 77 [.sv (.one (LS boolT l)), .sv (.one (I n))] [] (rowI 4 boolT (List.replicate n.toNat (l.headD false))) := by
 refine (repB_walk l n (fun r => r = List.replicate n.toNat (l.headD false)) ?_).fun
 obtain ⟨h1, h0, h2⟩ := hp
 obtain ⟨b, rfl⟩ : ∃ b, l = [b] := by
  match l, h1 with
  | [b], _ => exact ⟨b, rfl⟩
 unfold repB_vc
 intro _
 obtain ⟨m, rfl⟩ : ∃ m : Nat, n = m := ⟨n.toNat, by omega⟩
 have hw : IntKind.wrap .u64 (((1 : Nat) : Int)) = 1 := rfl
 have hu : IntKind.wrap .u64 (m : Int) = m := wr_u64 h0 (by omega)
 simp only [List.length_cons, List.length_nil, Nat.zero_add, hw, hu, Int.one_mul, wr_in (show -9223372036854775808 ≤ (m : Int) by omega) (show (m : Int) ≤ 9223372036854775807 by omega), List.headD_cons, List.length_replicate, Int.toNat_natCast]
 refine ⟨fun h => absurd (of_decide_eq_true h) (by omega), fun _ => ⟨⟨⟨⟨by omega, by omega⟩, by omega, by omega⟩, by omega⟩, fun h => ?_, fun _ => ⟨⟨by omega, by omega, by omega⟩, ?_⟩⟩⟩
 ·simp at h
  omega
 refine ⟨fun x l0 => ∃ k : Nat, x = k ∧ k ≤ m ∧ (0 < k ∨ m = 0) ∧ l0 = List.replicate k b ++ List.replicate (m - k) false, fun x _ => m - x.toNat, ⟨min 1 m, rfl, by omega, by omega, ?_⟩, ?_⟩
 ·by_cases hm : m = 0
  ·subst hm; rfl
  ·rw [Nat.min_eq_left (show 1 ≤ m by omega), List.take_zero, List.nil_append]
   simp
 ·rintro x l0 ⟨k, rfl, hk, hk0, rfl⟩
  have hlen : (List.replicate k b ++ List.replicate (m - k) false).length = m := by simp; omega
  refine ⟨fun hb => ?_, fun hb => ?_⟩
  ·have hlt : k < m := by have := of_decide_eq_true hb; rw [hlen] at this; omega
   simp only [hlen, Int.toNat_natCast, Int.toNat_zero, Nat.sub_zero, List.drop_zero]
   refine ⟨⟨by omega, by omega, by omega⟩, ⟨by omega, by omega, by omega⟩, ?_⟩
   have ht : (List.replicate k b ++ List.replicate (m - k) false).take k = List.replicate k b := List.take_left' (by simp)
   rw [ht, List.length_replicate]
   have hs := rep_step b hlt
   rw [ht] at hs
   rw [hs]
   refine ⟨⟨k + min k (m - k), ?_, by omega, by omega, rfl⟩, ?_⟩
   ·rw [wr_in (by omega) (by omega)]
    omega
   ·rw [wr_in (by omega) (by omega)]
    omega
  ·have : k = m := by have := of_decide_eq_false hb; rw [hlen] at this; omega
   subst this
   simp
def PreW (k : Nat) (nd : FTr) (gr : ApiGraph) (ss : List (List Bool)) : Prop := GraphOk gr ∧ ∃ fl, WfF k fl nd ∧ SOk gr fl ss
def WhF (k : Nat) : Prop := ∀ (nd : FTr) (gr : ApiGraph) (ss : List (List Bool)), PreW k nd gr ss → Ct 34 [.sv (.one (.rd (trR fLab nd))), .sv (.agg [I gr.fLetters, I gr.fPlaces, LS ApiArrow.ty gr.fArrows]), .sv (.one (LS (lsT boolT) ss))] [] (fun (_ : Unit) => True) (fun _ => .sv (.one (LS boolT (semF gr k nd ss))))
theorem whF (k : Nat) (ih : WhF k) (nd : FTr) (gr : ApiGraph) (ss : List (List Bool)) (hp : PreW k nd gr ss) : Ct 34 [.sv (.one (.rd (trR fLab nd))), .sv (.agg [I gr.fLetters, I gr.fPlaces, LS ApiArrow.ty gr.fArrows]), .sv (.one (LS (lsT boolT) ss))] [] (fun (_ : Unit) => True) (fun _ => .sv (.one (LS boolT (semF gr k nd ss)))) := ih nd gr ss hp
theorem en34 : ∀ args w, (callFunc 34 args).run Try.prog w = .ok (.enter 34 args) w := enters_of Try.func34 (by kernel_rfl) rfl
def fKid_vc (k : Nat) (q : Int) (nd : (Tr FLab)) (gr : ApiGraph) (ss : (List (List Bool))) (Q : (List Bool) → Prop) : Prop :=
 ∃ e, idx nd.kids q = some e ∧
 (PreW k e gr ss) ∧
 Q (semF gr k e ss)
theorem fKid_walk (k : Nat) (q : Int) (nd : (Tr FLab)) (gr : ApiGraph) (ss : (List (List Bool))) (ih : WhF k) (Q : (List Bool) → Prop) (h : fKid_vc k q nd gr ss Q) : Ct 76 [.sv (.one (I q)), .sv (.one (.ptr 0 0)), .sv (.one (.ptr 1 0)), .sv (.one (.ptr 2 0))] [.box [.rd (trR fLab nd)] 83 true, .box [I gr.fLetters, I gr.fPlaces, LS ApiArrow.ty gr.fArrows] 24 true, .box [LS (lsT boolT) ss] 146 true] Q (fun (r : (List Bool)) => .sv (.one (LS boolT r))) := by
 have ht := tab_ok
 refine Ct.body Try.func76 rfl rfl rfl rfl (fun c hn => ?_)
 unfold fKid_vc at h
 refine En.sr ?_
 refine WL.rn ht hn 1 ⟨[sl 0 (I q), sl 1 (.ptr 0 0), sl 2 (.ptr 1 0), sl 3 (.ptr 2 0)], [.box [.rd (trR fLab nd)] 83 true, .box (ApiGraph.cl gr) 24 true, .box [LS (lsT boolT) ss] 146 true]⟩ ?_
 refine En.seq ?_
 obtain ⟨e, he, h⟩ := h
 obtain ⟨hp_2, h⟩ := h
 refine En.regionA ⟨[sl 0 (I q), sl 1 (.ptr 0 0), sl 2 (.ptr 1 0), sl 3 (.ptr 2 0)], [.sv (.one (.rd (trR fLab nd))), .sv (.one (.pe (svR (.agg [.v (.int .u8 nd.lab.fSign), I nd.lab.fN, LS (TT fLab) nd.kids])) 3)), .sv (.one (.pe (svR (.one (LS (TT fLab) nd.kids))) 1)), .sv (.one (LS (TT fLab) nd.kids)), .sv (.one (I q)), .sv (.one (.pe (svR (.one (.rd (trR fLab e)))) 1)), .sv (.one (.rd (trR fLab e))), .sv (.agg (ApiGraph.cl gr)), .sv (.one (LS (lsT boolT) ss)), .sv (.one (LS boolT (semF gr k e ss))), .sv (.one (LS boolT (semF gr k e ss)))], [⟨.box [.rd (trR fLab nd)] 83 true, none, none, none⟩, ⟨.box (ApiGraph.cl gr) 24 true, none, none, none⟩, ⟨.box [LS (lsT boolT) ss] 146 true, none, none, none⟩]⟩ ⟨[sl 5 (LS boolT (semF gr k e ss))], [.gone, .gone, .gone]⟩ (by kernel_rfl) hn (by kernel_rfl) (by rfl) (by kernel_rfl) ?_ (by kernel_rfl) ?_
 exact ⟨.ev ⟨[sl 1 (.ptr 0 0)], [.box [.rd (trR fLab nd)] 83 true]⟩ ht,
 .vl ⟨[sl 6 (.rd (trR fLab nd))], []⟩ (mt_val (val_node (s := .agg [.v (.int .u8 nd.lab.fSign), I nd.lab.fN, LS (TT fLab) nd.kids]) (t := nd) (lab := fLab) fLabH rfl (by rfl) rfl rfl)),
 .vl ⟨[sl 7 (.pe (svR (.agg [.v (.int .u8 nd.lab.fSign), I nd.lab.fN, LS (TT fLab) nd.kids])) 3)], []⟩ (mt_val (val_fd (l := [.v (.int .u8 nd.lab.fSign), I nd.lab.fN, LS (TT fLab) nd.kids]) (r := .one (LS (TT fLab) nd.kids)) ht rfl)),
 .vl ⟨[sl 8 (.pe (svR (.one (LS (TT fLab) nd.kids))) 1)], []⟩ (mt_val (val_ld (s := .one (LS (TT fLab) nd.kids)) ht rfl)),
 .ev ⟨[sl 0 (I q)], []⟩ ht,
 .vl ⟨[sl 9 (LS (TT fLab) nd.kids), sl 10 (I q)], []⟩ (mt_val (val_ix (T := (TT fLab)) (l := nd.kids) (i := q) ht rfl he)),
 .vl ⟨[sl 11 (.pe (svR (.one (.rd (trR fLab e)))) 1)], []⟩ (mt_val (val_ld (s := .one (.rd (trR fLab e))) ht rfl)),
 .ev ⟨[sl 2 (.ptr 1 0)], [.gone, .box (ApiGraph.cl gr) 24 true]⟩ ht,
 .ev ⟨[sl 3 (.ptr 2 0)], [.gone, .gone, .box [LS (lsT boolT) ss] 146 true]⟩ ht,
 .vl ⟨[sl 12 (.rd (trR fLab e)), (13, .sv (.agg (ApiGraph.cl gr))), sl 14 (LS (lsT boolT) ss)], []⟩ (mt_c (whF k ih e gr ss hp_2) en34 rfl),
 .ev ⟨[sl 15 (LS boolT (semF gr k e ss))], []⟩ ht,
 trivial⟩
 exact En.rb ht (semF gr k e ss) h
theorem en76 : ∀ args w, (callFunc 76 args).run Try.prog w = .ok (.enter 76 args) w := enters_of Try.func76 (by kernel_rfl) rfl
theorem idx_getF {α : Type} {l : List α} {q : Int} (d : α) (h0 : 0 ≤ q) (h1 : q < l.length) : idx l q = some (l.getD q.toNat d) := by
 unfold idx
 rw [if_pos h0, List.getD_eq_getElem?_getD, List.getElem?_eq_getElem (by omega)]
 rfl
theorem fKid_ct (k : Nat) (ih : WhF k) (q : Int) (nd : FTr) (gr : ApiGraph) (ss : List (List Bool)) (hp : 0 ≤ q ∧ q < (nd.kids.length : Int) ∧ PreW k (nd.kids.getD q.toNat (fn 48 0 [])) gr ss) : Ct 76 [.sv (.one (I q)), .sv (.one (.ptr 0 0)), .sv (.one (.ptr 1 0)), .sv (.one (.ptr 2 0))] [.box [.rd (trR fLab nd)] 83 true, .box [I gr.fLetters, I gr.fPlaces, LS ApiArrow.ty gr.fArrows] 24 true, .box [LS (lsT boolT) ss] 146 true] (fun (_ : Unit) => True) (fun _ => .sv (.one (LS boolT (semF gr k (nd.kids.getD q.toNat (fn 48 0 [])) ss)))) :=
 (fKid_walk k q nd gr ss ih (fun r => r = semF gr k (nd.kids.getD q.toNat (fn 48 0 [])) ss) ⟨_, idx_getF (fn 48 0 []) hp.1 hp.2.1, hp.2.2, rfl⟩).fun
def fWhr_vc (k : Nat) (nd : FTr) (gr : ApiGraph) (ss : (List (List Bool))) (Q : (List Bool) → Prop) : Prop :=
 gr.fArrows.length ≤ 9223372036854775807 →
 ss.length ≤ 9223372036854775807 →
 (makeOk gr.fPlaces gr.fPlaces 1 ∧
 ∃ J : (List Bool) → Prop, (IfP (nd.lab.fSign == 49) ((([true] : (List Bool)).length = 1 ∧ 0 ≤ gr.fPlaces ∧ gr.fPlaces < 2147483648) ∧
 Q ((List.replicate (gr.fPlaces).toNat ((([true] : (List Bool))).headD false)))) (IfP (nd.lab.fSign == 88) (∃ e, idx ss nd.lab.fN = some e ∧
 Q e) (IfP (nd.lab.fSign == 33) (((fun q_ => 0 ≤ q_ ∧ q_ < (nd.kids.length : Int) ∧ PreW k (nd.kids.getD (q_ : Int).toNat (fn 48 0 [])) gr ss) 0) ∧
 ∃ (Inv : Int → (List Bool) → Prop) (mu : Int → (List Bool) → Nat), Inv 0 (List.replicate (gr.fPlaces).toNat false) ∧
 ∀ (x48 : Int) (l3_2 : (List Bool)) , Inv x48 l3_2 → (IfP (decide (x48 < (((fun q_ => semF gr k (nd.kids.getD (q_ : Int).toNat (fn 48 0 [])) ss) 0).length : Int))) (∃ e_2, idx ((fun q_ => semF gr k (nd.kids.getD (q_ : Int).toNat (fn 48 0 [])) ss) 0) x48 = some e_2 ∧
 ∃ e_3, idx l3_2 x48 = some e_3 ∧
 (Inv (wr (x48 + 1)) (l3_2.set (x48).toNat (!e_2)) ∧ mu (wr (x48 + 1)) (l3_2.set (x48).toNat (!e_2)) < mu x48 l3_2)) (J l3_2))) (∃ J_2 : Bool → Prop, (IfP (nd.lab.fSign == 38) (J_2 (nd.lab.fSign == 38)) (J_2 (nd.lab.fSign == 124))) ∧
 (∀ (x59 : Bool), J_2 x59 → IfP x59 (((fun q_ => 0 ≤ q_ ∧ q_ < (nd.kids.length : Int) ∧ PreW k (nd.kids.getD (q_ : Int).toNat (fn 48 0 [])) gr ss) 0) ∧
 ((fun q_ => 0 ≤ q_ ∧ q_ < (nd.kids.length : Int) ∧ PreW k (nd.kids.getD (q_ : Int).toNat (fn 48 0 [])) gr ss) 1) ∧
 ∃ (Inv_2 : Int → (List Bool) → Prop) (mu_2 : Int → (List Bool) → Nat), Inv_2 0 (List.replicate (gr.fPlaces).toNat false) ∧
 ∀ (x68 : Int) (l3_3 : (List Bool)) , Inv_2 x68 l3_3 → (IfP (decide (x68 < ((List.replicate (gr.fPlaces).toNat false).length : Int))) (∃ J_3 : (List Bool) → Prop, (∃ e_4, idx ((fun q_ => semF gr k (nd.kids.getD (q_ : Int).toNat (fn 48 0 [])) ss) 0) x68 = some e_4 ∧
 IfP e_4 (∃ e_5, idx ((fun q_ => semF gr k (nd.kids.getD (q_ : Int).toNat (fn 48 0 [])) ss) 1) x68 = some e_5 ∧
 IfP e_5 (∃ e_6, idx l3_3 x68 = some e_6 ∧
 J_3 (l3_3.set (x68).toNat true)) (IfP (nd.lab.fSign == 124) (∃ e_7, idx ((fun q_ => semF gr k (nd.kids.getD (q_ : Int).toNat (fn 48 0 [])) ss) 0) x68 = some e_7 ∧
 IfP e_7 (∃ e_8, idx l3_3 x68 = some e_8 ∧
 J_3 (l3_3.set (x68).toNat true)) (∃ e_9, idx ((fun q_ => semF gr k (nd.kids.getD (q_ : Int).toNat (fn 48 0 [])) ss) 1) x68 = some e_9 ∧
 ∃ e_10, idx l3_3 x68 = some e_10 ∧
 J_3 (l3_3.set (x68).toNat e_9))) (∃ e_11, idx l3_3 x68 = some e_11 ∧
 J_3 (l3_3.set (x68).toNat false)))) (IfP (nd.lab.fSign == 124) (∃ e_12, idx ((fun q_ => semF gr k (nd.kids.getD (q_ : Int).toNat (fn 48 0 [])) ss) 0) x68 = some e_12 ∧
 IfP e_12 (∃ e_13, idx l3_3 x68 = some e_13 ∧
 J_3 (l3_3.set (x68).toNat true)) (∃ e_14, idx ((fun q_ => semF gr k (nd.kids.getD (q_ : Int).toNat (fn 48 0 [])) ss) 1) x68 = some e_14 ∧
 ∃ e_15, idx l3_3 x68 = some e_15 ∧
 J_3 (l3_3.set (x68).toNat e_14))) (∃ e_16, idx l3_3 x68 = some e_16 ∧
 J_3 (l3_3.set (x68).toNat false)))) ∧
 (∀ (l3_4 : (List Bool)), J_3 l3_4 → (Inv_2 (wr (x68 + 1)) l3_4 ∧ mu_2 (wr (x68 + 1)) l3_4 < mu_2 x68 l3_3))) (J l3_3))) (∃ J_4 : Bool → Prop, (IfP (nd.lab.fSign == 60) (J_4 (nd.lab.fSign == 60)) (J_4 (nd.lab.fSign == 91))) ∧
 (∀ (x104 : Bool), J_4 x104 → IfP x104 (((fun q_ => 0 ≤ q_ ∧ q_ < (nd.kids.length : Int) ∧ PreW k (nd.kids.getD (q_ : Int).toNat (fn 48 0 [])) gr ss) 0) ∧
 ∃ (Inv_3 : Int → (List Bool) → Prop) (mu_3 : Int → (List Bool) → Nat), Inv_3 0 (List.replicate (gr.fPlaces).toNat false) ∧
 ∀ (x111 : Int) (l3_5 : (List Bool)) , Inv_3 x111 l3_5 → (IfP (decide (x111 < ((List.replicate (gr.fPlaces).toNat false).length : Int))) (∃ e_17, idx l3_5 x111 = some e_17 ∧
 (Inv_3 (wr (x111 + 1)) (l3_5.set (x111).toNat (nd.lab.fSign == 91)) ∧ mu_3 (wr (x111 + 1)) (l3_5.set (x111).toNat (nd.lab.fSign == 91)) < mu_3 x111 l3_5)) (∃ (Inv_4 : Int → (List Bool) → Prop) (mu_4 : Int → (List Bool) → Nat), Inv_4 0 l3_5 ∧
 ∀ (x126 : Int) (l3_6 : (List Bool)) , Inv_4 x126 l3_6 → (IfP (decide (x126 < (gr.fArrows.length : Int))) (∃ J_5 : (List Bool) → Prop, (∃ e_18, idx gr.fArrows x126 = some e_18 ∧
 ∃ J_6 : Bool → Prop, (IfP (e_18.fLetter == nd.lab.fN) (∃ e_19, idx ((fun q_ => semF gr k (nd.kids.getD (q_ : Int).toNat (fn 48 0 [])) ss) 0) e_18.fTo = some e_19 ∧
 J_6 (e_19 == (nd.lab.fSign == 60))) (J_6 false)) ∧
 (∀ (x149 : Bool), J_6 x149 → IfP x149 (∃ e_20, idx l3_6 e_18.fFrom = some e_20 ∧
 J_5 (l3_6.set (e_18.fFrom).toNat (nd.lab.fSign == 60))) (J_5 l3_6))) ∧
 (∀ (l3_7 : (List Bool)), J_5 l3_7 → (Inv_4 (wr (x126 + 1)) l3_7 ∧ mu_4 (wr (x126 + 1)) l3_7 < mu_4 x126 l3_6))) (J l3_6))))) (∃ J_7 : Bool → Prop, (IfP (nd.lab.fSign == 109) (J_7 (nd.lab.fSign == 109)) (J_7 (nd.lab.fSign == 110))) ∧
 (∀ (x160 : Bool), J_7 x160 → IfP x160 (∃ (Inv_5 : Int → (List Bool) → Prop) (mu_5 : Int → (List Bool) → Nat), Inv_5 0 (List.replicate (gr.fPlaces).toNat false) ∧
 ∀ (x165 : Int) (l3_8 : (List Bool)) , Inv_5 x165 l3_8 → (IfP (decide (x165 < ((List.replicate (gr.fPlaces).toNat false).length : Int))) (∃ e_21, idx l3_8 x165 = some e_21 ∧
 (Inv_5 (wr (x165 + 1)) (l3_8.set (x165).toNat (nd.lab.fSign == 110)) ∧ mu_5 (wr (x165 + 1)) (l3_8.set (x165).toNat (nd.lab.fSign == 110)) < mu_5 x165 l3_8)) (∃ (Inv_6 : (List Bool) → Prop) (mu_6 : (List Bool) → Nat), Inv_6 l3_8 ∧
 ∀ (x7 : (List Bool)) , Inv_6 x7 → (∃ e_22, idx nd.kids 0 = some e_22 ∧
 capOk ss.length (([x7] : (List (List Bool))) : (List (List Bool))).length 24 ∧
 (PreW k e_22 gr (ss ++ ([x7] : (List (List Bool))))) ∧
 IfP (decide ((semF gr k e_22 (ss ++ ([x7] : (List (List Bool))))) = x7)) (Q x7) ((Inv_6 (semF gr k e_22 (ss ++ ([x7] : (List (List Bool))))) ∧ mu_6 (semF gr k e_22 (ss ++ ([x7] : (List (List Bool))))) < mu_6 x7)))))) (J (List.replicate (gr.fPlaces).toNat false))))))))))) ∧
 (∀ (l3 : (List Bool)), J l3 → Q l3))
noncomputable abbrev qfWhr0 (gr : ApiGraph) (k : Nat) (nd : FTr) (ss : (List (List Bool))) := (fun q_ => semF gr k (nd.kids.getD (q_ : Int).toNat (fn 48 0 [])) ss)
noncomputable abbrev qfWhr1 (nd : FTr) (gr : ApiGraph) (ss : (List (List Bool))) := ([.box [.rd (trR fLab nd)] 83 false, .box (ApiGraph.cl gr) 24 false, .box [LS (lsT boolT) ss] 146 false, rowI 4 boolT (List.replicate (gr.fPlaces).toNat false)] : List Item)
noncomputable abbrev qfWhr2 (gr : ApiGraph) := (I ((List.replicate (gr.fPlaces).toNat false).length : Int))
noncomputable abbrev qfWhr3 (nd : FTr) := (.box [.rd (trR fLab nd)] 83 true : Item)
noncomputable abbrev qfWhr4 (gr : ApiGraph) (k : Nat) (nd : FTr) (ss : (List (List Bool))) := (LS boolT ((qfWhr0 gr k nd ss) 0))
noncomputable abbrev qfWhr5 (gr : ApiGraph) (k : Nat) (nd : FTr) (ss : (List (List Bool))) (y0 : Int) := ([sl 3 (.ptr 0 0), sl 7 (.own 3), sl 11 (qfWhr4 gr k nd ss), sl 12 (LS boolT ((qfWhr0 gr k nd ss) 1)), sl 67 (qfWhr2 gr), sl 68 (I y0)] : List (Nat × SC))
noncomputable abbrev qfWhr6 := sl 3 (.ptr 0 0)
noncomputable abbrev qfWhr7 (nd : FTr) := (svR (.agg [.v (.int .u8 nd.lab.fSign), I nd.lab.fN, LS (TT fLab) nd.kids]))
noncomputable abbrev qfWhr8 (gr : ApiGraph) (k : Nat) (nd : FTr) (ss : (List (List Bool))) := sl 12 (LS boolT ((qfWhr0 gr k nd ss) 1))
noncomputable abbrev qfWhr9 (gr : ApiGraph) := sl 125 (I (gr.fArrows.length : Int))
noncomputable abbrev qfWhr10 (gr : ApiGraph) := sl 124 (LS ApiArrow.ty gr.fArrows)
noncomputable abbrev qfWhr11 (nd : FTr) (gr : ApiGraph) (ss : (List (List Bool))) := ([.box [.rd (trR fLab nd)] 83 false, .box (ApiGraph.cl gr) 24 false, .box [LS (lsT boolT) ss] 146 false, .gone] : List Item)
noncomputable abbrev qfWhr12 (nd : FTr) (gr : ApiGraph) (ss : (List (List Bool))) (y0) := ([.box [.rd (trR fLab nd)] 83 false, .box (ApiGraph.cl gr) 24 false, .box [LS (lsT boolT) ss] 146 false, rowI 4 boolT y0] : List Item)
noncomputable abbrev qfWhr13 := sl 4 (.ptr 1 0)
noncomputable abbrev qfWhr14 (nd : FTr) := sl 27 (.v (.int .u8 nd.lab.fSign))
noncomputable abbrev qfWhr15 := sl 5 (.ptr 2 0)
noncomputable abbrev qfWhr16 := sl 8 (.fn 76 [0, 1, 2])
noncomputable abbrev qfWhr17 (nd : FTr) (k : Nat) (gr : ApiGraph) (ss : (List (List Bool))) := (fun q_ => 0 ≤ q_ ∧ q_ < (nd.kids.length : Int) ∧ PreW k (nd.kids.getD (q_ : Int).toNat (fn 48 0 [])) gr ss)
noncomputable abbrev qfWhr18 (gr : ApiGraph) (k : Nat) (nd : FTr) (ss : (List (List Bool))) := sl 47 (I (((qfWhr0 gr k nd ss) 0).length : Int))
noncomputable abbrev qfWhr19 (ss : (List (List Bool))) := (.box [LS (lsT boolT) ss] 146 false : Item)
noncomputable abbrev qfWhr20 (y0) := ([.gone, .gone, .gone, .gone, .box (ApiArrow.cl y0) 26 false] : List Item)
noncomputable abbrev qfWhr21 (nd : FTr) := (.box [.rd (trR fLab nd)] 83 false : Item)
noncomputable abbrev qfWhr22 (gr : ApiGraph) := sl 67 (qfWhr2 gr)
set_option maxHeartbeats 2000000 in
theorem fWhr_walk (k : Nat) (nd : FTr) (gr : ApiGraph) (ss : (List (List Bool))) (ih : WhF k) (Q : (List Bool) → Prop) (h : fWhr_vc k nd gr ss Q) : Ct 34 [.sv (.one (.rd (trR fLab nd))), .sv (.agg [I gr.fLetters, I gr.fPlaces, LS ApiArrow.ty gr.fArrows]), .sv (.one (LS (lsT boolT) ss))] [] Q (fun (r : (List Bool)) => .sv (.one (LS boolT r))) := by
 have ht := tab_ok
 refine Ct.body Try.func34 rfl rfl rfl rfl (fun c hn => ?_)
 unfold fWhr_vc at h
 refine En.lenA 1 2 (by rfl) (by rfl) (fun hl => ?_)
 replace h := h hl
 clear hl
 refine En.lenL 2 (by rfl) (fun hl => ?_)
 replace h := h hl
 clear hl
 refine En.sr ?_
 refine WL.rn ht hn 4 ⟨[(qfWhr6), (qfWhr13), (qfWhr15)], [(qfWhr21 nd), .box (ApiGraph.cl gr) 24 false, (qfWhr19 ss)]⟩ ?_
 refine En.sr ?_
 refine WL.r ht hn 2 ⟨[(qfWhr6), (qfWhr13), (qfWhr15), sl 21 (I gr.fPlaces)], [(qfWhr21 nd), .box (ApiGraph.cl gr) 24 false, (qfWhr19 ss)]⟩ ?_
 obtain ⟨hp, h⟩ := h
 refine WL.mt0 (K := []) (p := some (3, rowI 4 boolT (List.replicate (gr.fPlaces).toNat false))) hn (by rfl) (mt_make (T := boolT) false (zv := (.bool false)) 3 (l := gr.fPlaces) (cp := gr.fPlaces) ht rfl (by rfl) (by rfl) (by rfl) (by rfl) (by decide) (by rfl) (by rfl) hp.1 hp.2.1 hp.2.2 (hp.le (by decide)) rfl (fun _ => ⟨rfl, trivial⟩)) (by rfl) (by rfl) (by rfl) ?_
 refine WL.rn ht hn 1 ⟨[(qfWhr6), (qfWhr13), (qfWhr15), sl 7 (.own 3)], (qfWhr1 nd gr ss)⟩ ?_
 refine En.sr ?_
 refine WL.rn ht hn 2 ⟨[(qfWhr6), (qfWhr13), (qfWhr15), sl 7 (.own 3), (qfWhr16)], (qfWhr1 nd gr ss)⟩ ?_
 obtain ⟨J, h, hJ⟩ := h
 refine En.seqJ (σ := (List Bool)) (fun zz => J zz) (fun zz => ⟨[sl 7 (.own 3)], [.gone, .gone, .gone, rowI 4 boolT zz]⟩) ?_ ?_
 refine En.sr ?_
 refine WL.r ht hn 1 ⟨[(qfWhr6), (qfWhr13), (qfWhr15), sl 7 (.own 3), (qfWhr16), sl 24 (.rd (trR fLab nd))], (qfWhr1 nd gr ss)⟩ ?_
 refine WL.v hn (val_node (s := .agg [.v (.int .u8 nd.lab.fSign), I nd.lab.fN, LS (TT fLab) nd.kids]) (t := nd) (lab := fLab) fLabH rfl (by rfl) rfl rfl) ?_
 refine WL.v hn (val_fd (l := [.v (.int .u8 nd.lab.fSign), I nd.lab.fN, LS (TT fLab) nd.kids]) (r := .one (.v (.int .u8 nd.lab.fSign))) ht rfl) ?_
 refine WL.v hn (val_ld (s := .one (.v (.int .u8 nd.lab.fSign))) ht rfl) ?_
 refine WL.nil ?_
 refine En.block ?_
 refine En.sr ?_
 refine WL.rn ht hn 2 ⟨[(qfWhr6), (qfWhr13), (qfWhr15), sl 7 (.own 3), (qfWhr16), (qfWhr14 nd), sl 28 (B (nd.lab.fSign == 49))], (qfWhr1 nd gr ss)⟩ ?_
 refine En.cd (b := (nd.lab.fSign == 49)) (fun hb => ?_) (fun hb => ?_)
 replace h := h.1 hb
 refine En.sr ?_
 refine WL.mt0 (K := []) (p := some (4, rowI 4 boolT ([true] : (List Bool)))) hn (by rfl) (mt_lit (T := boolT) ([true] : (List Bool)) (mt_bsl 4 (r := cellsOf boolT ([true] : (List Bool))) ht rfl (by rfl) (by rfl) (by rfl) (by kernel_rfl) (by rfl)) (fun _ h => by cases h) (fun _ => rfl) (fun _ => rfl) (by rfl) (Nat.le_of_ble_eq_true rfl)) (by rfl) (by rfl) (by rfl) ?_
 refine WL.r ht hn 2 ⟨[sl 30 (.own 4), sl 32 (I gr.fPlaces)], [.gone, .gone, .gone, .gone, rowI 4 boolT ([true] : (List Bool))]⟩ ?_
 obtain ⟨hp, h⟩ := h
 refine WL.mt0 (K := []) (p := some (5, rowI 4 boolT (List.replicate (gr.fPlaces).toNat (([true] : (List Bool)).headD false)))) hn (by rfl) (mt_lendI (T := boolT) (l := ([true] : (List Bool))) 4 (by rfl) (plain_row fun _ => rfl) (mt_callI 5 (repB_ct ([true] : (List Bool)) gr.fPlaces hp) en77 (caps := []) [] rfl rfl (by rfl) (by kernel_rfl) (by kernel_rfl) (by rfl) (by rfl))) (by rfl) (by rfl) (by rfl) ?_
 refine WL.rn ht hn 1 ⟨[sl 6 (.own 5)], [.gone, .gone, .gone, .gone, .gone, rowI 4 boolT (List.replicate (gr.fPlaces).toNat (([true] : (List Bool)).headD false))]⟩ ?_
 refine En.ret ?_
 refine En.seal (T := boolT) (l := (List.replicate (gr.fPlaces).toNat (([true] : (List Bool)).headD false))) (e := 4) 5 rfl ?_
 exact En.back ht (List.replicate (gr.fPlaces).toNat (([true] : (List Bool)).headD false)) h (by kernel_rfl) rfl
 replace h := h.2 hb
 refine En.sr ?_
 refine WL.rn ht hn 2 ⟨[(qfWhr6), (qfWhr13), (qfWhr15), sl 7 (.own 3), (qfWhr16), (qfWhr14 nd), sl 34 (B (nd.lab.fSign == 88))], (qfWhr1 nd gr ss)⟩ ?_
 refine En.cd (b := (nd.lab.fSign == 88)) (fun hb => ?_) (fun hb => ?_)
 replace h := h.1 hb
 refine En.seq ?_
 obtain ⟨e, he, h⟩ := h
 refine En.regionA ⟨[(qfWhr6), (qfWhr15)], [.sv (.one (LS (lsT boolT) ss)), .sv (.one (.rd (trR fLab nd))), .sv (.one (.pe (qfWhr7 nd) 3)), .sv (.one (.pe (svR (.one (I nd.lab.fN))) 1)), .sv (.one (I nd.lab.fN)), .sv (.one (.pe (svR (.one (LS boolT e))) 1)), .sv (.one (LS boolT e)), .sv (.one (LS boolT e))], [⟨(qfWhr21 nd), none, none, none⟩, ⟨.gone, none, none, none⟩, ⟨(qfWhr19 ss), none, none, none⟩, ⟨.gone, none, none, none⟩]⟩ ⟨[sl 6 (LS boolT e)], [.gone, .gone, .gone, .gone]⟩ (by kernel_rfl) hn (by kernel_rfl) (by rfl) (by kernel_rfl) ?_ (by kernel_rfl) ?_
 exact ⟨.ev ⟨[(qfWhr15)], [.gone, .gone, (qfWhr19 ss)]⟩ ht,
 .ev ⟨[(qfWhr6)], [(qfWhr21 nd)]⟩ ht,
 .vl ⟨[sl 37 (.rd (trR fLab nd))], []⟩ (mt_val (val_node (s := .agg [.v (.int .u8 nd.lab.fSign), I nd.lab.fN, LS (TT fLab) nd.kids]) (t := nd) (lab := fLab) fLabH rfl (by rfl) rfl rfl)),
 .vl ⟨[sl 38 (.pe (qfWhr7 nd) 3)], []⟩ (mt_val (val_fd (l := [.v (.int .u8 nd.lab.fSign), I nd.lab.fN, LS (TT fLab) nd.kids]) (r := .one (I nd.lab.fN)) ht rfl)),
 .vl ⟨[sl 39 (.pe (svR (.one (I nd.lab.fN))) 1)], []⟩ (mt_val (val_ld (s := .one (I nd.lab.fN)) ht rfl)),
 .vl ⟨[sl 36 (LS (lsT boolT) ss), sl 40 (I nd.lab.fN)], []⟩ (mt_val (val_ix (T := (lsT boolT)) (l := ss) (i := nd.lab.fN) ht rfl he)),
 .vl ⟨[sl 41 (.pe (svR (.one (LS boolT e))) 1)], []⟩ (mt_val (val_ld (s := .one (LS boolT e)) ht rfl)),
 .ev ⟨[sl 42 (LS boolT e)], []⟩ ht,
 trivial⟩
 exact En.rb ht e h
 replace h := h.2 hb
 refine En.sr ?_
 refine WL.rn ht hn 2 ⟨[(qfWhr6), (qfWhr13), (qfWhr15), sl 7 (.own 3), (qfWhr16), (qfWhr14 nd), sl 43 (B (nd.lab.fSign == 33))], (qfWhr1 nd gr ss)⟩ ?_
 refine En.cd (b := (nd.lab.fSign == 33)) (fun hb => ?_) (fun hb => ?_)
 replace h := h.1 hb
 refine En.sr ?_
 refine WL.r ht hn 1 ⟨[sl 7 (.own 3), sl 45 (.fn 76 [0, 1, 2])], (qfWhr1 nd gr ss)⟩ ?_
 refine WL.freeze [0, 1, 2] (by rfl) ?_
 refine WL.ghost 45 (o1 (.rd (fvR (fun (x_ : Int) => [.sv (.one (I x_))]) (fun (r : (List Bool)) => .sv (.one (LS boolT r))) (qfWhr17 nd k gr ss) (qfWhr0 gr k nd ss)))) (by rfl) (fv_of (M := [(qfWhr3 nd), .box (ApiGraph.cl gr) 24 true, .box [LS (lsT boolT) ss] 146 true]) (caps := [0, 1, 2]) (fun x_ hx => fKid_ct k ih x_ nd gr ss hx) en76 rfl (by kernel_rfl) (by rfl) (fun _ => rfl)) ?_
 obtain ⟨hp, h⟩ := h
 refine WL.m0 hn (mt_callv (0 : Int) hp rfl (by rfl) (by rfl) (by rfl) (by rfl)) ?_
 refine WL.rn ht hn 2 ⟨[sl 7 (.own 3), sl 46 (qfWhr4 gr k nd ss), (qfWhr18 gr k nd ss), sl 48 (I 0)], [.gone, .gone, .gone, rowI 4 boolT (List.replicate (gr.fPlaces).toNat false)]⟩ ?_
 refine En.block ?_
 obtain ⟨Inv, mu, h0, hI⟩ := h
 refine En.loop (σ := Int × (List Bool)) (fun zz => Inv zz.1 zz.2) (fun zz => mu zz.1 zz.2) (fun zz => ⟨[sl 7 (.own 3), sl 46 (qfWhr4 gr k nd ss), (qfWhr18 gr k nd ss), sl 48 (I zz.1)], [.gone, .gone, .gone, rowI 4 boolT zz.2]⟩) (0, (List.replicate (gr.fPlaces).toNat false)) h0 (sub_ok (by kernel_rfl)) ?_
 rintro ⟨x48, l3_2⟩ h
 replace h := hI _ _ h
 show En c ⟨[sl 7 (.own 3), sl 46 (qfWhr4 gr k nd ss), (qfWhr18 gr k nd ss), sl 48 (I x48)], [.gone, .gone, .gone, rowI 4 boolT l3_2]⟩ _
 refine En.sr ?_
 refine WL.rn ht hn 1 ⟨[sl 7 (.own 3), sl 46 (qfWhr4 gr k nd ss), (qfWhr18 gr k nd ss), sl 48 (I x48), sl 49 (B (decide (x48 < (((qfWhr0 gr k nd ss) 0).length : Int))))], [.gone, .gone, .gone, rowI 4 boolT l3_2]⟩ ?_
 refine En.seq ?_
 refine En.cd (b := (decide (x48 < (((qfWhr0 gr k nd ss) 0).length : Int)))) (fun hb => ?_) (fun hb => ?_)
 replace h := h.1 hb
 refine En.skip ?_
 refine En.seq ?_
 refine En.block ?_
 refine En.sr ?_
 refine WL.r ht hn 1 ⟨[sl 7 (.own 3), sl 46 (qfWhr4 gr k nd ss), (qfWhr18 gr k nd ss), sl 48 (I x48), sl 50 (I x48)], [.gone, .gone, .gone, rowI 4 boolT l3_2]⟩ ?_
 obtain ⟨e_2, he_2, h⟩ := h
 refine WL.v hn (val_ix (T := boolT) (l := ((qfWhr0 gr k nd ss) 0)) (i := x48) ht rfl he_2) ?_
 refine WL.v hn (val_ld (s := .one (B e_2)) ht rfl) ?_
 refine WL.rn ht hn 2 ⟨[sl 7 (.own 3), sl 9 (I x48), sl 10 (B e_2), sl 46 (qfWhr4 gr k nd ss), (qfWhr18 gr k nd ss), sl 48 (I x48)], [.gone, .gone, .gone, rowI 4 boolT l3_2]⟩ ?_
 refine En.region ?_
 refine WL.r ht hn 4 ⟨[sl 7 (.own 3), sl 46 (qfWhr4 gr k nd ss), (qfWhr18 gr k nd ss), sl 48 (I x48), sl 53 (.own 3), sl 54 (I x48), sl 56 (B (!e_2))], [.gone, .gone, .gone, rowI 4 boolT l3_2]⟩ ?_
 obtain ⟨e_3, he_3, h⟩ := h
 refine WL.v hn (val_indexO (T := boolT) (l := l3_2) (k := x48) ht rfl (by rfl) (by rfl) (by rfl) (by rfl) (by decide) (by rfl) (by rfl) (by rfl) he_3) ?_
 refine WL.storeO (T := boolT) (l := l3_2) (y := (!e_2)) ht hn (by rfl) rfl (by rfl) (by rfl) (fun _ h => by cases h) (by rfl) (by rfl) (idx_lt he_3) (by rfl) (by rfl) (by rfl) (by rfl) ?_
 refine WL.nil ?_
 refine En.region ?_
 refine WL.rn ht hn 2 ⟨[sl 7 (.own 3), sl 46 (qfWhr4 gr k nd ss), (qfWhr18 gr k nd ss), sl 48 (I (wr (x48 + 1)))], [.gone, .gone, .gone, rowI 4 boolT (l3_2.set (x48).toNat (!e_2))]⟩ ?_
 exact En.at (I := fun zz => Inv zz.1 zz.2 ∧ mu zz.1 zz.2 < mu x48 l3_2) (T := fun zz => ⟨[sl 7 (.own 3), sl 46 (qfWhr4 gr k nd ss), (qfWhr18 gr k nd ss), sl 48 (I zz.1)], [.gone, .gone, .gone, rowI 4 boolT zz.2]⟩) ((wr (x48 + 1)), (l3_2.set (x48).toNat (!e_2))) h (by kernel_rfl)
 replace h := h.2 hb
 refine En.exit rfl ?_
 exact En.at (I := fun zz => J zz) (T := fun zz => ⟨[sl 7 (.own 3)], [.gone, .gone, .gone, rowI 4 boolT zz]⟩) l3_2 h (by kernel_rfl)
 replace h := h.2 hb
 obtain ⟨J_2, h, hJ_2⟩ := h
 refine En.seqJ (σ := Bool) (fun zz => J_2 zz) (fun zz => ⟨[(qfWhr6), (qfWhr13), (qfWhr15), sl 7 (.own 3), (qfWhr16), (qfWhr14 nd), sl 59 (B zz)], (qfWhr1 nd gr ss)⟩) ?_ ?_
 refine En.sr ?_
 refine WL.rn ht hn 2 ⟨[(qfWhr6), (qfWhr13), (qfWhr15), sl 7 (.own 3), (qfWhr16), (qfWhr14 nd), sl 59 (B (nd.lab.fSign == 38))], (qfWhr1 nd gr ss)⟩ ?_
 refine En.cd (b := (nd.lab.fSign == 38)) (fun hb => ?_) (fun hb => ?_)
 replace h := h.1 hb
 refine En.skip ?_
 exact En.at (I := fun zz => J_2 zz) (T := fun zz => ⟨[(qfWhr6), (qfWhr13), (qfWhr15), sl 7 (.own 3), (qfWhr16), (qfWhr14 nd), sl 59 (B zz)], (qfWhr1 nd gr ss)⟩) (nd.lab.fSign == 38) h (by kernel_rfl)
 replace h := h.2 hb
 refine En.region ?_
 refine WL.rn ht hn 2 ⟨[(qfWhr6), (qfWhr13), (qfWhr15), sl 7 (.own 3), (qfWhr16), (qfWhr14 nd), sl 59 (B (nd.lab.fSign == 124))], (qfWhr1 nd gr ss)⟩ ?_
 exact En.at (I := fun zz => J_2 zz) (T := fun zz => ⟨[(qfWhr6), (qfWhr13), (qfWhr15), sl 7 (.own 3), (qfWhr16), (qfWhr14 nd), sl 59 (B zz)], (qfWhr1 nd gr ss)⟩) (nd.lab.fSign == 124) h (by kernel_rfl)
 intro x59 h
 replace h := hJ_2 _ h
 show En c ⟨[(qfWhr6), (qfWhr13), (qfWhr15), sl 7 (.own 3), (qfWhr16), (qfWhr14 nd), sl 59 (B x59)], (qfWhr1 nd gr ss)⟩ _
 refine En.cd (b := x59) (fun hb => ?_) (fun hb => ?_)
 replace h := h.1 hb
 refine En.sr ?_
 refine WL.r ht hn 1 ⟨[(qfWhr6), sl 7 (.own 3), (qfWhr16), sl 62 (.fn 76 [0, 1, 2])], (qfWhr1 nd gr ss)⟩ ?_
 refine WL.freeze [0, 1, 2] (by rfl) ?_
 refine WL.ghost 62 (o1 (.rd (fvR (fun (x_ : Int) => [.sv (.one (I x_))]) (fun (r : (List Bool)) => .sv (.one (LS boolT r))) (qfWhr17 nd k gr ss) (qfWhr0 gr k nd ss)))) (by rfl) (fv_of (M := [(qfWhr3 nd), .box (ApiGraph.cl gr) 24 true, .box [LS (lsT boolT) ss] 146 true]) (caps := [0, 1, 2]) (fun x_ hx => fKid_ct k ih x_ nd gr ss hx) en76 rfl (by kernel_rfl) (by rfl) (fun _ => rfl)) ?_
 obtain ⟨hp, h⟩ := h
 refine WL.m0 hn (mt_callv (0 : Int) hp rfl (by rfl) (by rfl) (by rfl) (by rfl)) ?_
 refine WL.r ht hn 1 ⟨[(qfWhr6), sl 7 (.own 3), sl 63 (qfWhr4 gr k nd ss), sl 64 (.fn 76 [0, 1, 2])], [(qfWhr3 nd), .box (ApiGraph.cl gr) 24 true, .box [LS (lsT boolT) ss] 146 true, rowI 4 boolT (List.replicate (gr.fPlaces).toNat false)]⟩ ?_
 refine WL.ghost 64 (o1 (.rd (fvR (fun (x_ : Int) => [.sv (.one (I x_))]) (fun (r : (List Bool)) => .sv (.one (LS boolT r))) (qfWhr17 nd k gr ss) (qfWhr0 gr k nd ss)))) (by rfl) (fv_of (M := [(qfWhr3 nd), .box (ApiGraph.cl gr) 24 true, .box [LS (lsT boolT) ss] 146 true]) (caps := [0, 1, 2]) (fun x_ hx => fKid_ct k ih x_ nd gr ss hx) en76 rfl (by kernel_rfl) (by rfl) (fun _ => rfl)) ?_
 obtain ⟨hp, h⟩ := h
 refine WL.m0 hn (mt_callv (1 : Int) hp rfl (by rfl) (by rfl) (by rfl) (by rfl)) ?_
 refine WL.rn ht hn 2 ⟨[(qfWhr6), sl 7 (.own 3), sl 11 (qfWhr4 gr k nd ss), (qfWhr8 gr k nd ss)], [(qfWhr3 nd), .gone, .gone, rowI 4 boolT (List.replicate (gr.fPlaces).toNat false)]⟩ ?_
 refine En.sr ?_
 refine WL.rn ht hn 3 ⟨[(qfWhr6), sl 7 (.own 3), sl 11 (qfWhr4 gr k nd ss), (qfWhr8 gr k nd ss), (qfWhr22 gr), sl 68 (I 0)], [(qfWhr3 nd), .gone, .gone, rowI 4 boolT (List.replicate (gr.fPlaces).toNat false)]⟩ ?_
 refine En.block ?_
 obtain ⟨Inv_2, mu_2, h0_2, hI_2⟩ := h
 refine En.loop (σ := Int × (List Bool)) (fun zz => Inv_2 zz.1 zz.2) (fun zz => mu_2 zz.1 zz.2) (fun zz => ⟨[(qfWhr6), sl 7 (.own 3), sl 11 (qfWhr4 gr k nd ss), (qfWhr8 gr k nd ss), (qfWhr22 gr), sl 68 (I zz.1)], [(qfWhr3 nd), .gone, .gone, rowI 4 boolT zz.2]⟩) (0, (List.replicate (gr.fPlaces).toNat false)) h0_2 (sub_ok (by kernel_rfl)) ?_
 rintro ⟨x68, l3_3⟩ h
 replace h := hI_2 _ _ h
 show En c ⟨(qfWhr5 gr k nd ss x68), [(qfWhr3 nd), .gone, .gone, rowI 4 boolT l3_3]⟩ _
 refine En.sr ?_
 refine WL.rn ht hn 1 ⟨[(qfWhr6), sl 7 (.own 3), sl 11 (qfWhr4 gr k nd ss), (qfWhr8 gr k nd ss), (qfWhr22 gr), sl 68 (I x68), sl 69 (B (decide (x68 < ((List.replicate (gr.fPlaces).toNat false).length : Int))))], [(qfWhr3 nd), .gone, .gone, rowI 4 boolT l3_3]⟩ ?_
 refine En.seq ?_
 refine En.cd (b := (decide (x68 < ((List.replicate (gr.fPlaces).toNat false).length : Int)))) (fun hb => ?_) (fun hb => ?_)
 replace h := h.1 hb
 refine En.skip ?_
 obtain ⟨J_3, h, hJ_3⟩ := h
 refine En.seqJ (σ := (List Bool)) (fun zz => J_3 zz) (fun zz => ⟨(qfWhr5 gr k nd ss x68), [(qfWhr3 nd), .gone, .gone, rowI 4 boolT zz]⟩) ?_ ?_
 refine En.block ?_
 refine En.sr ?_
 refine WL.rn ht hn 2 ⟨[(qfWhr6), sl 7 (.own 3), sl 11 (qfWhr4 gr k nd ss), (qfWhr8 gr k nd ss), sl 13 (I x68), (qfWhr22 gr), sl 68 (I x68)], [(qfWhr3 nd), .gone, .gone, rowI 4 boolT l3_3]⟩ ?_
 refine En.region ?_
 refine WL.r ht hn 4 ⟨[(qfWhr6), sl 7 (.own 3), sl 11 (qfWhr4 gr k nd ss), (qfWhr8 gr k nd ss), sl 13 (I x68), (qfWhr22 gr), sl 68 (I x68), sl 71 (.own 3), sl 72 (I x68), sl 73 (qfWhr4 gr k nd ss), sl 74 (I x68)], [(qfWhr3 nd), .gone, .gone, rowI 4 boolT l3_3]⟩ ?_
 obtain ⟨e_4, he_4, h⟩ := h
 refine WL.v hn (val_ix (T := boolT) (l := ((qfWhr0 gr k nd ss) 0)) (i := x68) ht rfl he_4) ?_
 refine WL.v hn (val_ld (s := .one (B e_4)) ht rfl) ?_
 refine WL.r ht hn 1 ⟨[(qfWhr6), sl 7 (.own 3), sl 11 (qfWhr4 gr k nd ss), (qfWhr8 gr k nd ss), sl 13 (I x68), (qfWhr22 gr), sl 68 (I x68), sl 71 (.own 3), sl 72 (I x68), sl 77 (B e_4)], [(qfWhr3 nd), .gone, .gone, rowI 4 boolT l3_3]⟩ ?_
 refine splitB e_4 (fun hb => ?_) (fun hb => ?_)
 replace h := h.1 hb
 refine WL.sB 77 hb ?_
 refine WL.r ht hn 2 ⟨[(qfWhr6), sl 7 (.own 3), sl 11 (qfWhr4 gr k nd ss), (qfWhr8 gr k nd ss), sl 13 (I x68), (qfWhr22 gr), sl 68 (I x68), sl 71 (.own 3), sl 72 (I x68), sl 77 (B true), sl 78 (LS boolT ((qfWhr0 gr k nd ss) 1)), sl 79 (I x68)], [(qfWhr3 nd), .gone, .gone, rowI 4 boolT l3_3]⟩ ?_
 obtain ⟨e_5, he_5, h⟩ := h
 refine WL.v hn (val_ix (T := boolT) (l := ((qfWhr0 gr k nd ss) 1)) (i := x68) ht rfl he_5) ?_
 refine WL.v hn (val_ld (s := .one (B e_5)) ht rfl) ?_
 refine WL.r ht hn 2 ⟨[(qfWhr6), sl 7 (.own 3), sl 11 (qfWhr4 gr k nd ss), (qfWhr8 gr k nd ss), sl 13 (I x68), (qfWhr22 gr), sl 68 (I x68), sl 71 (.own 3), sl 72 (I x68), sl 83 (B e_5)], [(qfWhr3 nd), .gone, .gone, rowI 4 boolT l3_3]⟩ ?_
 refine splitB e_5 (fun hb => ?_) (fun hb => ?_)
 replace h := h.1 hb
 refine WL.sB 83 hb ?_
 refine WL.r ht hn 18 ⟨[(qfWhr6), sl 7 (.own 3), sl 11 (qfWhr4 gr k nd ss), (qfWhr8 gr k nd ss), (qfWhr22 gr), sl 68 (I x68), sl 71 (.own 3), sl 72 (I x68), sl 101 (B true)], [(qfWhr3 nd), .gone, .gone, rowI 4 boolT l3_3]⟩ ?_
 obtain ⟨e_6, he_6, h⟩ := h
 refine WL.v hn (val_indexO (T := boolT) (l := l3_3) (k := x68) ht rfl (by rfl) (by rfl) (by rfl) (by rfl) (by decide) (by rfl) (by rfl) (by rfl) he_6) ?_
 refine WL.storeO (T := boolT) (l := l3_3) (y := true) ht hn (by rfl) rfl (by rfl) (by rfl) (fun _ h => by cases h) (by rfl) (by rfl) (idx_lt he_6) (by rfl) (by rfl) (by rfl) (by rfl) ?_
 refine WL.nil ?_
 exact En.at (I := fun zz => J_3 zz) (T := fun zz => ⟨(qfWhr5 gr k nd ss x68), [(qfWhr3 nd), .gone, .gone, rowI 4 boolT zz]⟩) (l3_3.set (x68).toNat true) h (by kernel_rfl)
 replace h := h.2 hb
 refine WL.sB 83 hb ?_
 refine WL.r ht hn 1 ⟨[(qfWhr6), sl 7 (.own 3), sl 11 (qfWhr4 gr k nd ss), (qfWhr8 gr k nd ss), sl 13 (I x68), (qfWhr22 gr), sl 68 (I x68), sl 71 (.own 3), sl 72 (I x68), sl 83 (B false), sl 84 (.rd (trR fLab nd))], [(qfWhr3 nd), .gone, .gone, rowI 4 boolT l3_3]⟩ ?_
 refine WL.v hn (val_node (s := .agg [.v (.int .u8 nd.lab.fSign), I nd.lab.fN, LS (TT fLab) nd.kids]) (t := nd) (lab := fLab) fLabH rfl (by rfl) rfl rfl) ?_
 refine WL.v hn (val_fd (l := [.v (.int .u8 nd.lab.fSign), I nd.lab.fN, LS (TT fLab) nd.kids]) (r := .one (.v (.int .u8 nd.lab.fSign))) ht rfl) ?_
 refine WL.v hn (val_ld (s := .one (.v (.int .u8 nd.lab.fSign))) ht rfl) ?_
 refine WL.r ht hn 2 ⟨[(qfWhr6), sl 7 (.own 3), sl 11 (qfWhr4 gr k nd ss), (qfWhr8 gr k nd ss), sl 13 (I x68), (qfWhr22 gr), sl 68 (I x68), sl 71 (.own 3), sl 72 (I x68), sl 83 (B false), sl 89 (B (nd.lab.fSign == 124))], [(qfWhr3 nd), .gone, .gone, rowI 4 boolT l3_3]⟩ ?_
 refine splitB (nd.lab.fSign == 124) (fun hb => ?_) (fun hb => ?_)
 replace h := h.1 hb
 refine WL.sB 89 hb ?_
 refine WL.r ht hn 2 ⟨[(qfWhr6), sl 7 (.own 3), sl 11 (qfWhr4 gr k nd ss), (qfWhr8 gr k nd ss), sl 13 (I x68), (qfWhr22 gr), sl 68 (I x68), sl 71 (.own 3), sl 72 (I x68), sl 83 (B false), sl 89 (B true), sl 90 (qfWhr4 gr k nd ss), sl 91 (I x68)], [(qfWhr3 nd), .gone, .gone, rowI 4 boolT l3_3]⟩ ?_
 obtain ⟨e_7, he_7, h⟩ := h
 refine WL.v hn (val_ix (T := boolT) (l := ((qfWhr0 gr k nd ss) 0)) (i := x68) ht rfl he_7) ?_
 refine WL.v hn (val_ld (s := .one (B e_7)) ht rfl) ?_
 refine WL.r ht hn 1 ⟨[(qfWhr6), sl 7 (.own 3), sl 11 (qfWhr4 gr k nd ss), (qfWhr8 gr k nd ss), sl 13 (I x68), (qfWhr22 gr), sl 68 (I x68), sl 71 (.own 3), sl 72 (I x68), sl 83 (B false), sl 89 (B true), sl 94 (B e_7)], [(qfWhr3 nd), .gone, .gone, rowI 4 boolT l3_3]⟩ ?_
 refine splitB e_7 (fun hb => ?_) (fun hb => ?_)
 replace h := h.1 hb
 refine WL.sB 94 hb ?_
 refine WL.r ht hn 7 ⟨[(qfWhr6), sl 7 (.own 3), sl 11 (qfWhr4 gr k nd ss), (qfWhr8 gr k nd ss), (qfWhr22 gr), sl 68 (I x68), sl 71 (.own 3), sl 72 (I x68), sl 101 (B true)], [(qfWhr3 nd), .gone, .gone, rowI 4 boolT l3_3]⟩ ?_
 obtain ⟨e_8, he_8, h⟩ := h
 refine WL.v hn (val_indexO (T := boolT) (l := l3_3) (k := x68) ht rfl (by rfl) (by rfl) (by rfl) (by rfl) (by decide) (by rfl) (by rfl) (by rfl) he_8) ?_
 refine WL.storeO (T := boolT) (l := l3_3) (y := true) ht hn (by rfl) rfl (by rfl) (by rfl) (fun _ h => by cases h) (by rfl) (by rfl) (idx_lt he_8) (by rfl) (by rfl) (by rfl) (by rfl) ?_
 refine WL.nil ?_
 exact En.at (I := fun zz => J_3 zz) (T := fun zz => ⟨(qfWhr5 gr k nd ss x68), [(qfWhr3 nd), .gone, .gone, rowI 4 boolT zz]⟩) (l3_3.set (x68).toNat true) h (by kernel_rfl)
 replace h := h.2 hb
 refine WL.sB 94 hb ?_
 refine WL.r ht hn 2 ⟨[(qfWhr6), sl 7 (.own 3), sl 11 (qfWhr4 gr k nd ss), (qfWhr8 gr k nd ss), (qfWhr22 gr), sl 68 (I x68), sl 71 (.own 3), sl 72 (I x68), sl 83 (B false), sl 89 (B true), sl 94 (B false), sl 95 (LS boolT ((qfWhr0 gr k nd ss) 1)), sl 96 (I x68)], [(qfWhr3 nd), .gone, .gone, rowI 4 boolT l3_3]⟩ ?_
 obtain ⟨e_9, he_9, h⟩ := h
 refine WL.v hn (val_ix (T := boolT) (l := ((qfWhr0 gr k nd ss) 1)) (i := x68) ht rfl he_9) ?_
 refine WL.v hn (val_ld (s := .one (B e_9)) ht rfl) ?_
 refine WL.r ht hn 3 ⟨[(qfWhr6), sl 7 (.own 3), sl 11 (qfWhr4 gr k nd ss), (qfWhr8 gr k nd ss), (qfWhr22 gr), sl 68 (I x68), sl 71 (.own 3), sl 72 (I x68), sl 101 (B e_9)], [(qfWhr3 nd), .gone, .gone, rowI 4 boolT l3_3]⟩ ?_
 obtain ⟨e_10, he_10, h⟩ := h
 refine WL.v hn (val_indexO (T := boolT) (l := l3_3) (k := x68) ht rfl (by rfl) (by rfl) (by rfl) (by rfl) (by decide) (by rfl) (by rfl) (by rfl) he_10) ?_
 refine WL.storeO (T := boolT) (l := l3_3) (y := e_9) ht hn (by rfl) rfl (by rfl) (by rfl) (fun _ h => by cases h) (by rfl) (by rfl) (idx_lt he_10) (by rfl) (by rfl) (by rfl) (by rfl) ?_
 refine WL.nil ?_
 exact En.at (I := fun zz => J_3 zz) (T := fun zz => ⟨(qfWhr5 gr k nd ss x68), [(qfWhr3 nd), .gone, .gone, rowI 4 boolT zz]⟩) (l3_3.set (x68).toNat e_9) h (by kernel_rfl)
 replace h := h.2 hb
 refine WL.sB 89 hb ?_
 refine WL.r ht hn 12 ⟨[(qfWhr6), sl 7 (.own 3), sl 11 (qfWhr4 gr k nd ss), (qfWhr8 gr k nd ss), (qfWhr22 gr), sl 68 (I x68), sl 71 (.own 3), sl 72 (I x68), sl 101 (B false)], [(qfWhr3 nd), .gone, .gone, rowI 4 boolT l3_3]⟩ ?_
 obtain ⟨e_11, he_11, h⟩ := h
 refine WL.v hn (val_indexO (T := boolT) (l := l3_3) (k := x68) ht rfl (by rfl) (by rfl) (by rfl) (by rfl) (by decide) (by rfl) (by rfl) (by rfl) he_11) ?_
 refine WL.storeO (T := boolT) (l := l3_3) (y := false) ht hn (by rfl) rfl (by rfl) (by rfl) (fun _ h => by cases h) (by rfl) (by rfl) (idx_lt he_11) (by rfl) (by rfl) (by rfl) (by rfl) ?_
 refine WL.nil ?_
 exact En.at (I := fun zz => J_3 zz) (T := fun zz => ⟨(qfWhr5 gr k nd ss x68), [(qfWhr3 nd), .gone, .gone, rowI 4 boolT zz]⟩) (l3_3.set (x68).toNat false) h (by kernel_rfl)
 replace h := h.2 hb
 refine WL.sB 77 hb ?_
 refine WL.r ht hn 7 ⟨[(qfWhr6), sl 7 (.own 3), sl 11 (qfWhr4 gr k nd ss), (qfWhr8 gr k nd ss), sl 13 (I x68), (qfWhr22 gr), sl 68 (I x68), sl 71 (.own 3), sl 72 (I x68), sl 83 (B false), sl 84 (.rd (trR fLab nd))], [(qfWhr3 nd), .gone, .gone, rowI 4 boolT l3_3]⟩ ?_
 refine WL.v hn (val_node (s := .agg [.v (.int .u8 nd.lab.fSign), I nd.lab.fN, LS (TT fLab) nd.kids]) (t := nd) (lab := fLab) fLabH rfl (by rfl) rfl rfl) ?_
 refine WL.v hn (val_fd (l := [.v (.int .u8 nd.lab.fSign), I nd.lab.fN, LS (TT fLab) nd.kids]) (r := .one (.v (.int .u8 nd.lab.fSign))) ht rfl) ?_
 refine WL.v hn (val_ld (s := .one (.v (.int .u8 nd.lab.fSign))) ht rfl) ?_
 refine WL.r ht hn 2 ⟨[(qfWhr6), sl 7 (.own 3), sl 11 (qfWhr4 gr k nd ss), (qfWhr8 gr k nd ss), sl 13 (I x68), (qfWhr22 gr), sl 68 (I x68), sl 71 (.own 3), sl 72 (I x68), sl 83 (B false), sl 89 (B (nd.lab.fSign == 124))], [(qfWhr3 nd), .gone, .gone, rowI 4 boolT l3_3]⟩ ?_
 refine splitB (nd.lab.fSign == 124) (fun hb => ?_) (fun hb => ?_)
 replace h := h.1 hb
 refine WL.sB 89 hb ?_
 refine WL.r ht hn 2 ⟨[(qfWhr6), sl 7 (.own 3), sl 11 (qfWhr4 gr k nd ss), (qfWhr8 gr k nd ss), sl 13 (I x68), (qfWhr22 gr), sl 68 (I x68), sl 71 (.own 3), sl 72 (I x68), sl 83 (B false), sl 89 (B true), sl 90 (qfWhr4 gr k nd ss), sl 91 (I x68)], [(qfWhr3 nd), .gone, .gone, rowI 4 boolT l3_3]⟩ ?_
 obtain ⟨e_12, he_12, h⟩ := h
 refine WL.v hn (val_ix (T := boolT) (l := ((qfWhr0 gr k nd ss) 0)) (i := x68) ht rfl he_12) ?_
 refine WL.v hn (val_ld (s := .one (B e_12)) ht rfl) ?_
 refine WL.r ht hn 1 ⟨[(qfWhr6), sl 7 (.own 3), sl 11 (qfWhr4 gr k nd ss), (qfWhr8 gr k nd ss), sl 13 (I x68), (qfWhr22 gr), sl 68 (I x68), sl 71 (.own 3), sl 72 (I x68), sl 83 (B false), sl 89 (B true), sl 94 (B e_12)], [(qfWhr3 nd), .gone, .gone, rowI 4 boolT l3_3]⟩ ?_
 refine splitB e_12 (fun hb => ?_) (fun hb => ?_)
 replace h := h.1 hb
 refine WL.sB 94 hb ?_
 refine WL.r ht hn 7 ⟨[(qfWhr6), sl 7 (.own 3), sl 11 (qfWhr4 gr k nd ss), (qfWhr8 gr k nd ss), (qfWhr22 gr), sl 68 (I x68), sl 71 (.own 3), sl 72 (I x68), sl 101 (B true)], [(qfWhr3 nd), .gone, .gone, rowI 4 boolT l3_3]⟩ ?_
 obtain ⟨e_13, he_13, h⟩ := h
 refine WL.v hn (val_indexO (T := boolT) (l := l3_3) (k := x68) ht rfl (by rfl) (by rfl) (by rfl) (by rfl) (by decide) (by rfl) (by rfl) (by rfl) he_13) ?_
 refine WL.storeO (T := boolT) (l := l3_3) (y := true) ht hn (by rfl) rfl (by rfl) (by rfl) (fun _ h => by cases h) (by rfl) (by rfl) (idx_lt he_13) (by rfl) (by rfl) (by rfl) (by rfl) ?_
 refine WL.nil ?_
 exact En.at (I := fun zz => J_3 zz) (T := fun zz => ⟨(qfWhr5 gr k nd ss x68), [(qfWhr3 nd), .gone, .gone, rowI 4 boolT zz]⟩) (l3_3.set (x68).toNat true) h (by kernel_rfl)
 replace h := h.2 hb
 refine WL.sB 94 hb ?_
 refine WL.r ht hn 2 ⟨[(qfWhr6), sl 7 (.own 3), sl 11 (qfWhr4 gr k nd ss), (qfWhr8 gr k nd ss), (qfWhr22 gr), sl 68 (I x68), sl 71 (.own 3), sl 72 (I x68), sl 83 (B false), sl 89 (B true), sl 94 (B false), sl 95 (LS boolT ((qfWhr0 gr k nd ss) 1)), sl 96 (I x68)], [(qfWhr3 nd), .gone, .gone, rowI 4 boolT l3_3]⟩ ?_
 obtain ⟨e_14, he_14, h⟩ := h
 refine WL.v hn (val_ix (T := boolT) (l := ((qfWhr0 gr k nd ss) 1)) (i := x68) ht rfl he_14) ?_
 refine WL.v hn (val_ld (s := .one (B e_14)) ht rfl) ?_
 refine WL.r ht hn 3 ⟨[(qfWhr6), sl 7 (.own 3), sl 11 (qfWhr4 gr k nd ss), (qfWhr8 gr k nd ss), (qfWhr22 gr), sl 68 (I x68), sl 71 (.own 3), sl 72 (I x68), sl 101 (B e_14)], [(qfWhr3 nd), .gone, .gone, rowI 4 boolT l3_3]⟩ ?_
 obtain ⟨e_15, he_15, h⟩ := h
 refine WL.v hn (val_indexO (T := boolT) (l := l3_3) (k := x68) ht rfl (by rfl) (by rfl) (by rfl) (by rfl) (by decide) (by rfl) (by rfl) (by rfl) he_15) ?_
 refine WL.storeO (T := boolT) (l := l3_3) (y := e_14) ht hn (by rfl) rfl (by rfl) (by rfl) (fun _ h => by cases h) (by rfl) (by rfl) (idx_lt he_15) (by rfl) (by rfl) (by rfl) (by rfl) ?_
 refine WL.nil ?_
 exact En.at (I := fun zz => J_3 zz) (T := fun zz => ⟨(qfWhr5 gr k nd ss x68), [(qfWhr3 nd), .gone, .gone, rowI 4 boolT zz]⟩) (l3_3.set (x68).toNat e_14) h (by kernel_rfl)
 replace h := h.2 hb
 refine WL.sB 89 hb ?_
 refine WL.r ht hn 12 ⟨[(qfWhr6), sl 7 (.own 3), sl 11 (qfWhr4 gr k nd ss), (qfWhr8 gr k nd ss), (qfWhr22 gr), sl 68 (I x68), sl 71 (.own 3), sl 72 (I x68), sl 101 (B false)], [(qfWhr3 nd), .gone, .gone, rowI 4 boolT l3_3]⟩ ?_
 obtain ⟨e_16, he_16, h⟩ := h
 refine WL.v hn (val_indexO (T := boolT) (l := l3_3) (k := x68) ht rfl (by rfl) (by rfl) (by rfl) (by rfl) (by decide) (by rfl) (by rfl) (by rfl) he_16) ?_
 refine WL.storeO (T := boolT) (l := l3_3) (y := false) ht hn (by rfl) rfl (by rfl) (by rfl) (fun _ h => by cases h) (by rfl) (by rfl) (idx_lt he_16) (by rfl) (by rfl) (by rfl) (by rfl) ?_
 refine WL.nil ?_
 exact En.at (I := fun zz => J_3 zz) (T := fun zz => ⟨(qfWhr5 gr k nd ss x68), [(qfWhr3 nd), .gone, .gone, rowI 4 boolT zz]⟩) (l3_3.set (x68).toNat false) h (by kernel_rfl)
 intro l3_4 h
 replace h := hJ_3 _ h
 show En c ⟨(qfWhr5 gr k nd ss x68), [(qfWhr3 nd), .gone, .gone, rowI 4 boolT l3_4]⟩ _
 refine En.region ?_
 refine WL.rn ht hn 2 ⟨[(qfWhr6), sl 7 (.own 3), sl 11 (qfWhr4 gr k nd ss), (qfWhr8 gr k nd ss), (qfWhr22 gr), sl 68 (I (wr (x68 + 1)))], [(qfWhr3 nd), .gone, .gone, rowI 4 boolT l3_4]⟩ ?_
 exact En.at (I := fun zz => Inv_2 zz.1 zz.2 ∧ mu_2 zz.1 zz.2 < mu_2 x68 l3_3) (T := fun zz => ⟨[(qfWhr6), sl 7 (.own 3), sl 11 (qfWhr4 gr k nd ss), (qfWhr8 gr k nd ss), (qfWhr22 gr), sl 68 (I zz.1)], [(qfWhr3 nd), .gone, .gone, rowI 4 boolT zz.2]⟩) ((wr (x68 + 1)), l3_4) h (by kernel_rfl)
 replace h := h.2 hb
 refine En.exit rfl ?_
 exact En.at (I := fun zz => J zz) (T := fun zz => ⟨[sl 7 (.own 3)], [.gone, .gone, .gone, rowI 4 boolT zz]⟩) l3_3 h (by kernel_rfl)
 replace h := h.2 hb
 obtain ⟨J_4, h, hJ_4⟩ := h
 refine En.seqJ (σ := Bool) (fun zz => J_4 zz) (fun zz => ⟨[(qfWhr6), (qfWhr13), (qfWhr15), sl 7 (.own 3), (qfWhr16), (qfWhr14 nd), sl 104 (B zz)], (qfWhr1 nd gr ss)⟩) ?_ ?_
 refine En.sr ?_
 refine WL.rn ht hn 2 ⟨[(qfWhr6), (qfWhr13), (qfWhr15), sl 7 (.own 3), (qfWhr16), (qfWhr14 nd), sl 104 (B (nd.lab.fSign == 60))], (qfWhr1 nd gr ss)⟩ ?_
 refine En.cd (b := (nd.lab.fSign == 60)) (fun hb => ?_) (fun hb => ?_)
 replace h := h.1 hb
 refine En.skip ?_
 exact En.at (I := fun zz => J_4 zz) (T := fun zz => ⟨[(qfWhr6), (qfWhr13), (qfWhr15), sl 7 (.own 3), (qfWhr16), (qfWhr14 nd), sl 104 (B zz)], (qfWhr1 nd gr ss)⟩) (nd.lab.fSign == 60) h (by kernel_rfl)
 replace h := h.2 hb
 refine En.region ?_
 refine WL.rn ht hn 2 ⟨[(qfWhr6), (qfWhr13), (qfWhr15), sl 7 (.own 3), (qfWhr16), (qfWhr14 nd), sl 104 (B (nd.lab.fSign == 91))], (qfWhr1 nd gr ss)⟩ ?_
 exact En.at (I := fun zz => J_4 zz) (T := fun zz => ⟨[(qfWhr6), (qfWhr13), (qfWhr15), sl 7 (.own 3), (qfWhr16), (qfWhr14 nd), sl 104 (B zz)], (qfWhr1 nd gr ss)⟩) (nd.lab.fSign == 91) h (by kernel_rfl)
 intro x104 h
 replace h := hJ_4 _ h
 show En c ⟨[(qfWhr6), (qfWhr13), (qfWhr15), sl 7 (.own 3), (qfWhr16), (qfWhr14 nd), sl 104 (B x104)], (qfWhr1 nd gr ss)⟩ _
 refine En.cd (b := x104) (fun hb => ?_) (fun hb => ?_)
 replace h := h.1 hb
 refine En.sr ?_
 refine WL.r ht hn 1 ⟨[(qfWhr6), (qfWhr13), sl 7 (.own 3), sl 107 (.fn 76 [0, 1, 2])], (qfWhr1 nd gr ss)⟩ ?_
 refine WL.freeze [0, 1, 2] (by rfl) ?_
 refine WL.ghost 107 (o1 (.rd (fvR (fun (x_ : Int) => [.sv (.one (I x_))]) (fun (r : (List Bool)) => .sv (.one (LS boolT r))) (qfWhr17 nd k gr ss) (qfWhr0 gr k nd ss)))) (by rfl) (fv_of (M := [(qfWhr3 nd), .box (ApiGraph.cl gr) 24 true, .box [LS (lsT boolT) ss] 146 true]) (caps := [0, 1, 2]) (fun x_ hx => fKid_ct k ih x_ nd gr ss hx) en76 rfl (by kernel_rfl) (by rfl) (fun _ => rfl)) ?_
 obtain ⟨hp, h⟩ := h
 refine WL.m0 hn (mt_callv (0 : Int) hp rfl (by rfl) (by rfl) (by rfl) (by rfl)) ?_
 refine WL.rn ht hn 1 ⟨[(qfWhr6), (qfWhr13), sl 7 (.own 3), sl 14 (qfWhr4 gr k nd ss)], [(qfWhr3 nd), .box (ApiGraph.cl gr) 24 true, .gone, rowI 4 boolT (List.replicate (gr.fPlaces).toNat false)]⟩ ?_
 refine En.seq ?_
 refine En.sr ?_
 refine WL.rn ht hn 3 ⟨[(qfWhr6), (qfWhr13), sl 7 (.own 3), sl 14 (qfWhr4 gr k nd ss), sl 110 (qfWhr2 gr), sl 111 (I 0)], [(qfWhr3 nd), .box (ApiGraph.cl gr) 24 true, .gone, rowI 4 boolT (List.replicate (gr.fPlaces).toNat false)]⟩ ?_
 refine En.block ?_
 obtain ⟨Inv_3, mu_3, h0_4, hI_4⟩ := h
 refine En.loop (σ := Int × (List Bool)) (fun zz => Inv_3 zz.1 zz.2) (fun zz => mu_3 zz.1 zz.2) (fun zz => ⟨[(qfWhr6), (qfWhr13), sl 7 (.own 3), sl 14 (qfWhr4 gr k nd ss), sl 110 (qfWhr2 gr), sl 111 (I zz.1)], [(qfWhr3 nd), .box (ApiGraph.cl gr) 24 true, .gone, rowI 4 boolT zz.2]⟩) (0, (List.replicate (gr.fPlaces).toNat false)) h0_4 (sub_ok (by kernel_rfl)) ?_
 rintro ⟨x111, l3_5⟩ h
 replace h := hI_4 _ _ h
 show En c ⟨[(qfWhr6), (qfWhr13), sl 7 (.own 3), sl 14 (qfWhr4 gr k nd ss), sl 110 (qfWhr2 gr), sl 111 (I x111)], [(qfWhr3 nd), .box (ApiGraph.cl gr) 24 true, .gone, rowI 4 boolT l3_5]⟩ _
 refine En.sr ?_
 refine WL.rn ht hn 1 ⟨[(qfWhr6), (qfWhr13), sl 7 (.own 3), sl 14 (qfWhr4 gr k nd ss), sl 110 (qfWhr2 gr), sl 111 (I x111), sl 112 (B (decide (x111 < ((List.replicate (gr.fPlaces).toNat false).length : Int))))], [(qfWhr3 nd), .box (ApiGraph.cl gr) 24 true, .gone, rowI 4 boolT l3_5]⟩ ?_
 refine En.seq ?_
 refine En.cd (b := (decide (x111 < ((List.replicate (gr.fPlaces).toNat false).length : Int)))) (fun hb => ?_) (fun hb => ?_)
 replace h := h.1 hb
 refine En.skip ?_
 refine En.seq ?_
 refine En.block ?_
 refine En.sr ?_
 refine WL.rn ht hn 2 ⟨[(qfWhr6), (qfWhr13), sl 7 (.own 3), sl 14 (qfWhr4 gr k nd ss), sl 15 (I x111), sl 110 (qfWhr2 gr), sl 111 (I x111)], [(qfWhr3 nd), .box (ApiGraph.cl gr) 24 true, .gone, rowI 4 boolT l3_5]⟩ ?_
 refine En.region ?_
 refine WL.r ht hn 3 ⟨[(qfWhr6), (qfWhr13), sl 7 (.own 3), sl 14 (qfWhr4 gr k nd ss), sl 110 (qfWhr2 gr), sl 111 (I x111), sl 114 (.own 3), sl 115 (I x111), sl 116 (.rd (trR fLab nd))], [(qfWhr3 nd), .box (ApiGraph.cl gr) 24 true, .gone, rowI 4 boolT l3_5]⟩ ?_
 refine WL.v hn (val_node (s := .agg [.v (.int .u8 nd.lab.fSign), I nd.lab.fN, LS (TT fLab) nd.kids]) (t := nd) (lab := fLab) fLabH rfl (by rfl) rfl rfl) ?_
 refine WL.v hn (val_fd (l := [.v (.int .u8 nd.lab.fSign), I nd.lab.fN, LS (TT fLab) nd.kids]) (r := .one (.v (.int .u8 nd.lab.fSign))) ht rfl) ?_
 refine WL.v hn (val_ld (s := .one (.v (.int .u8 nd.lab.fSign))) ht rfl) ?_
 refine WL.r ht hn 1 ⟨[(qfWhr6), (qfWhr13), sl 7 (.own 3), sl 14 (qfWhr4 gr k nd ss), sl 110 (qfWhr2 gr), sl 111 (I x111), sl 114 (.own 3), sl 115 (I x111), sl 120 (B (nd.lab.fSign == 91))], [(qfWhr3 nd), .box (ApiGraph.cl gr) 24 true, .gone, rowI 4 boolT l3_5]⟩ ?_
 obtain ⟨e_17, he_17, h⟩ := h
 refine WL.v hn (val_indexO (T := boolT) (l := l3_5) (k := x111) ht rfl (by rfl) (by rfl) (by rfl) (by rfl) (by decide) (by rfl) (by rfl) (by rfl) he_17) ?_
 refine WL.storeO (T := boolT) (l := l3_5) (y := (nd.lab.fSign == 91)) ht hn (by rfl) rfl (by rfl) (by rfl) (fun _ h => by cases h) (by rfl) (by rfl) (idx_lt he_17) (by rfl) (by rfl) (by rfl) (by rfl) ?_
 refine WL.nil ?_
 refine En.region ?_
 refine WL.rn ht hn 2 ⟨[(qfWhr6), (qfWhr13), sl 7 (.own 3), sl 14 (qfWhr4 gr k nd ss), sl 110 (qfWhr2 gr), sl 111 (I (wr (x111 + 1)))], [(qfWhr3 nd), .box (ApiGraph.cl gr) 24 true, .gone, rowI 4 boolT (l3_5.set (x111).toNat (nd.lab.fSign == 91))]⟩ ?_
 exact En.at (I := fun zz => Inv_3 zz.1 zz.2 ∧ mu_3 zz.1 zz.2 < mu_3 x111 l3_5) (T := fun zz => ⟨[(qfWhr6), (qfWhr13), sl 7 (.own 3), sl 14 (qfWhr4 gr k nd ss), sl 110 (qfWhr2 gr), sl 111 (I zz.1)], [(qfWhr3 nd), .box (ApiGraph.cl gr) 24 true, .gone, rowI 4 boolT zz.2]⟩) ((wr (x111 + 1)), (l3_5.set (x111).toNat (nd.lab.fSign == 91))) h (by kernel_rfl)
 replace h := h.2 hb
 refine En.exit rfl ?_
 refine En.sr ?_
 refine WL.rn ht hn 4 ⟨[(qfWhr6), sl 7 (.own 3), sl 14 (qfWhr4 gr k nd ss), (qfWhr10 gr), (qfWhr9 gr), sl 126 (I 0)], [(qfWhr3 nd), .gone, .gone, rowI 4 boolT l3_5]⟩ ?_
 refine En.block ?_
 obtain ⟨Inv_4, mu_4, h0_3, hI_3⟩ := h
 refine En.loop (σ := Int × (List Bool)) (fun zz => Inv_4 zz.1 zz.2) (fun zz => mu_4 zz.1 zz.2) (fun zz => ⟨[(qfWhr6), sl 7 (.own 3), sl 14 (qfWhr4 gr k nd ss), (qfWhr10 gr), (qfWhr9 gr), sl 126 (I zz.1)], [(qfWhr3 nd), .gone, .gone, rowI 4 boolT zz.2]⟩) (0, l3_5) h0_3 (sub_ok (by kernel_rfl)) ?_
 rintro ⟨x126, l3_6⟩ h
 replace h := hI_3 _ _ h
 show En c ⟨[(qfWhr6), sl 7 (.own 3), sl 14 (qfWhr4 gr k nd ss), (qfWhr10 gr), (qfWhr9 gr), sl 126 (I x126)], [(qfWhr3 nd), .gone, .gone, rowI 4 boolT l3_6]⟩ _
 refine En.sr ?_
 refine WL.rn ht hn 1 ⟨[(qfWhr6), sl 7 (.own 3), sl 14 (qfWhr4 gr k nd ss), (qfWhr10 gr), (qfWhr9 gr), sl 126 (I x126), sl 127 (B (decide (x126 < (gr.fArrows.length : Int))))], [(qfWhr3 nd), .gone, .gone, rowI 4 boolT l3_6]⟩ ?_
 refine En.seq ?_
 refine En.cd (b := (decide (x126 < (gr.fArrows.length : Int)))) (fun hb => ?_) (fun hb => ?_)
 replace h := h.1 hb
 refine En.skip ?_
 obtain ⟨J_5, h, hJ_5⟩ := h
 refine En.seqJ (σ := (List Bool)) (fun zz => J_5 zz) (fun zz => ⟨[(qfWhr6), sl 7 (.own 3), sl 14 (qfWhr4 gr k nd ss), (qfWhr10 gr), (qfWhr9 gr), sl 126 (I x126)], [(qfWhr3 nd), .gone, .gone, rowI 4 boolT zz, .gone]⟩) ?_ ?_
 refine En.block ?_
 refine En.sr ?_
 obtain ⟨e_18, he_18, h⟩ := h
 refine WL.v hn (val_ix (T := ApiArrow.ty) (l := gr.fArrows) (i := x126) ht rfl he_18) ?_
 refine WL.v hn (val_ld (s := .agg (ApiArrow.cl e_18)) ht rfl) ?_
 refine WL.rn ht hn 2 ⟨[(qfWhr6), sl 7 (.own 3), sl 14 (qfWhr4 gr k nd ss), sl 17 (.ptr 4 0), (qfWhr10 gr), (qfWhr9 gr), sl 126 (I x126)], [(qfWhr3 nd), .gone, .gone, rowI 4 boolT l3_6, .box (ApiArrow.cl e_18) 26 false]⟩ ?_
 obtain ⟨J_6, h, hJ_6⟩ := h
 refine En.seqJ (σ := Bool) (fun zz => J_6 zz) (fun zz => ⟨[(qfWhr6), sl 7 (.own 3), sl 14 (qfWhr4 gr k nd ss), sl 17 (.ptr 4 0), (qfWhr10 gr), (qfWhr9 gr), sl 126 (I x126), sl 149 (B zz)], [(qfWhr3 nd), .gone, .gone, rowI 4 boolT l3_6, .box (ApiArrow.cl e_18) 26 false]⟩) ?_ ?_
 refine splitB (e_18.fLetter == nd.lab.fN) (fun hb_2 => ?_) (fun hb_2 => ?_)
 replace h := h.1 hb_2
 obtain ⟨e_19, he_19, h⟩ := h
 refine En.regionA ⟨[(qfWhr6), sl 7 (.own 3), sl 14 (qfWhr4 gr k nd ss), sl 17 (.ptr 4 0), (qfWhr10 gr), (qfWhr9 gr), sl 126 (I x126)], [.sv (.one (.ptr 4 1)), .sv (.one (I e_18.fLetter)), .sv (.one (.rd (trR fLab nd))), .sv (.one (.pe (qfWhr7 nd) 3)), .sv (.one (.pe (svR (.one (I nd.lab.fN))) 1)), .sv (.one (I nd.lab.fN)), .sv (.one (B true)), .sv (.one (B true)), .sv (.one (qfWhr4 gr k nd ss)), .sv (.one (.ptr 4 2)), .sv (.one (I e_18.fTo)), .sv (.one (.pe (svR (.one (B e_19))) 1)), .sv (.one (B e_19)), .sv (.one (.rd (trR fLab nd))), .sv (.one (.pe (qfWhr7 nd) 3)), .sv (.one (.pe (svR (.one (.v (.int .u8 nd.lab.fSign)))) 1)), .sv (.one (.v (.int .u8 nd.lab.fSign))), .sv (.one (B (nd.lab.fSign == 60))), .sv (.one (B (e_19 == (nd.lab.fSign == 60)))), .sv (.one (B (e_19 == (nd.lab.fSign == 60))))], [⟨(qfWhr3 nd), none, none, none⟩, ⟨.gone, none, none, none⟩, ⟨.gone, none, none, none⟩, ⟨rowI 4 boolT l3_6, none, none, none⟩, ⟨.box (ApiArrow.cl e_18) 26 false, none, none, none⟩]⟩ ⟨[(qfWhr6), sl 7 (.own 3), sl 14 (qfWhr4 gr k nd ss), sl 17 (.ptr 4 0), (qfWhr10 gr), (qfWhr9 gr), sl 126 (I x126), sl 149 (B (e_19 == (nd.lab.fSign == 60)))], [(qfWhr3 nd), .gone, .gone, rowI 4 boolT l3_6, .box (ApiArrow.cl e_18) 26 false]⟩ (by kernel_rfl) hn (by kernel_rfl) (by rfl) (by kernel_rfl) ?_ (by kernel_rfl) ?_
 exact ⟨.ev ⟨[sl 17 (.ptr 4 0)], []⟩ ht,
 .ev ⟨[sl 130 (.ptr 4 1)], (qfWhr20 e_18)⟩ ht,
 .ev ⟨[(qfWhr6)], [(qfWhr3 nd)]⟩ ht,
 .vl ⟨[sl 132 (.rd (trR fLab nd))], []⟩ (mt_val (val_node (s := .agg [.v (.int .u8 nd.lab.fSign), I nd.lab.fN, LS (TT fLab) nd.kids]) (t := nd) (lab := fLab) fLabH rfl (by rfl) rfl rfl)),
 .vl ⟨[sl 133 (.pe (qfWhr7 nd) 3)], []⟩ (mt_val (val_fd (l := [.v (.int .u8 nd.lab.fSign), I nd.lab.fN, LS (TT fLab) nd.kids]) (r := .one (I nd.lab.fN)) ht rfl)),
 .vl ⟨[sl 134 (.pe (svR (.one (I nd.lab.fN))) 1)], []⟩ (mt_val (val_ld (s := .one (I nd.lab.fN)) ht rfl)),
 .mt ⟨[sl 131 (I e_18.fLetter), sl 135 (I nd.lab.fN)], []⟩ [] none (by kernel_rfl) (by rfl) (mt_castB hb_2 (mt_ev ht (by kernel_rfl))) rfl rfl rfl rfl,
 .ev ⟨[sl 136 (B true)], []⟩ ht,
 .ev ⟨[sl 14 (qfWhr4 gr k nd ss), sl 137 (B true)], []⟩ ht,
 .ev ⟨[sl 17 (.ptr 4 0), sl 137 (B true)], []⟩ ht,
 .ev ⟨[sl 137 (B true), sl 139 (.ptr 4 2)], (qfWhr20 e_18)⟩ ht,
 .vl ⟨[sl 137 (B true), sl 138 (qfWhr4 gr k nd ss), sl 140 (I e_18.fTo)], []⟩ (mt_val (val_ix (T := boolT) (l := ((qfWhr0 gr k nd ss) 0)) (i := e_18.fTo) ht rfl he_19)),
 .vl ⟨[sl 137 (B true), sl 141 (.pe (svR (.one (B e_19))) 1)], []⟩ (mt_val (val_ld (s := .one (B e_19)) ht rfl)),
 .ev ⟨[(qfWhr6), sl 137 (B true)], [(qfWhr3 nd)]⟩ ht,
 .vl ⟨[sl 137 (B true), sl 143 (.rd (trR fLab nd))], []⟩ (mt_val (val_node (s := .agg [.v (.int .u8 nd.lab.fSign), I nd.lab.fN, LS (TT fLab) nd.kids]) (t := nd) (lab := fLab) fLabH rfl (by rfl) rfl rfl)),
 .vl ⟨[sl 137 (B true), sl 144 (.pe (qfWhr7 nd) 3)], []⟩ (mt_val (val_fd (l := [.v (.int .u8 nd.lab.fSign), I nd.lab.fN, LS (TT fLab) nd.kids]) (r := .one (.v (.int .u8 nd.lab.fSign))) ht rfl)),
 .vl ⟨[sl 137 (B true), sl 145 (.pe (svR (.one (.v (.int .u8 nd.lab.fSign)))) 1)], []⟩ (mt_val (val_ld (s := .one (.v (.int .u8 nd.lab.fSign))) ht rfl)),
 .ev ⟨[sl 137 (B true), sl 146 (.v (.int .u8 nd.lab.fSign))], []⟩ ht,
 .vl ⟨[sl 137 (B true), sl 142 (B e_19), sl 147 (B (nd.lab.fSign == 60))], []⟩ (mt_val (val_eqB (u := e_19) (v := (nd.lab.fSign == 60)) rfl Try.underlying4 (by rfl) (by rfl) (.inl ⟨rfl, rfl⟩))),
 .ev ⟨[sl 137 (B true), sl 148 (B (e_19 == (nd.lab.fSign == 60)))], []⟩ ht,
 trivial⟩
 exact En.at (I := fun zz => J_6 zz) (T := fun zz => ⟨[(qfWhr6), sl 7 (.own 3), sl 14 (qfWhr4 gr k nd ss), sl 17 (.ptr 4 0), (qfWhr10 gr), (qfWhr9 gr), sl 126 (I x126), sl 149 (B zz)], [(qfWhr3 nd), .gone, .gone, rowI 4 boolT l3_6, .box (ApiArrow.cl e_18) 26 false]⟩) (e_19 == (nd.lab.fSign == 60)) h (by kernel_rfl)
 replace h := h.2 hb_2
 refine En.regionA ⟨[(qfWhr6), sl 7 (.own 3), sl 14 (qfWhr4 gr k nd ss), sl 17 (.ptr 4 0), (qfWhr10 gr), (qfWhr9 gr), sl 126 (I x126)], [.sv (.one (.ptr 4 1)), .sv (.one (I e_18.fLetter)), .sv (.one (.rd (trR fLab nd))), .sv (.one (.pe (qfWhr7 nd) 3)), .sv (.one (.pe (svR (.one (I nd.lab.fN))) 1)), .sv (.one (I nd.lab.fN)), .sv (.one (B false)), .sv (.one (B false)), .tup [], .tup [], .tup [], .tup [], .tup [], .tup [], .tup [], .tup [], .tup [], .tup [], .tup [], .sv (.one (B false))], [⟨(qfWhr3 nd), none, none, none⟩, ⟨.gone, none, none, none⟩, ⟨.gone, none, none, none⟩, ⟨rowI 4 boolT l3_6, none, none, none⟩, ⟨.box (ApiArrow.cl e_18) 26 false, none, none, none⟩]⟩ ⟨[(qfWhr6), sl 7 (.own 3), sl 14 (qfWhr4 gr k nd ss), sl 17 (.ptr 4 0), (qfWhr10 gr), (qfWhr9 gr), sl 126 (I x126), sl 149 (B false)], [(qfWhr3 nd), .gone, .gone, rowI 4 boolT l3_6, .box (ApiArrow.cl e_18) 26 false]⟩ (by kernel_rfl) hn (by kernel_rfl) (by rfl) (by kernel_rfl) ?_ (by kernel_rfl) ?_
 exact ⟨.ev ⟨[sl 17 (.ptr 4 0)], []⟩ ht,
 .ev ⟨[sl 130 (.ptr 4 1)], (qfWhr20 e_18)⟩ ht,
 .ev ⟨[(qfWhr6)], [(qfWhr3 nd)]⟩ ht,
 .vl ⟨[sl 132 (.rd (trR fLab nd))], []⟩ (mt_val (val_node (s := .agg [.v (.int .u8 nd.lab.fSign), I nd.lab.fN, LS (TT fLab) nd.kids]) (t := nd) (lab := fLab) fLabH rfl (by rfl) rfl rfl)),
 .vl ⟨[sl 133 (.pe (qfWhr7 nd) 3)], []⟩ (mt_val (val_fd (l := [.v (.int .u8 nd.lab.fSign), I nd.lab.fN, LS (TT fLab) nd.kids]) (r := .one (I nd.lab.fN)) ht rfl)),
 .vl ⟨[sl 134 (.pe (svR (.one (I nd.lab.fN))) 1)], []⟩ (mt_val (val_ld (s := .one (I nd.lab.fN)) ht rfl)),
 .mt ⟨[sl 131 (I e_18.fLetter), sl 135 (I nd.lab.fN)], []⟩ [] none (by kernel_rfl) (by rfl) (mt_castB hb_2 (mt_ev ht (by kernel_rfl))) rfl rfl rfl rfl,
 .ev ⟨[sl 136 (B false)], []⟩ ht,
 .skip ⟨[sl 137 (B false)], []⟩ (by kernel_rfl) (by rfl) rfl rfl rfl rfl,
 .skip ⟨[sl 137 (B false)], []⟩ (by kernel_rfl) (by rfl) rfl rfl rfl rfl,
 .skip ⟨[sl 137 (B false)], []⟩ (by kernel_rfl) (by rfl) rfl rfl rfl rfl,
 .skip ⟨[sl 137 (B false)], []⟩ (by kernel_rfl) (by rfl) rfl rfl rfl rfl,
 .skip ⟨[sl 137 (B false)], []⟩ (by kernel_rfl) (by rfl) rfl rfl rfl rfl,
 .skip ⟨[sl 137 (B false)], []⟩ (by kernel_rfl) (by rfl) rfl rfl rfl rfl,
 .skip ⟨[sl 137 (B false)], []⟩ (by kernel_rfl) (by rfl) rfl rfl rfl rfl,
 .skip ⟨[sl 137 (B false)], []⟩ (by kernel_rfl) (by rfl) rfl rfl rfl rfl,
 .skip ⟨[sl 137 (B false)], []⟩ (by kernel_rfl) (by rfl) rfl rfl rfl rfl,
 .skip ⟨[sl 137 (B false)], []⟩ (by kernel_rfl) (by rfl) rfl rfl rfl rfl,
 .skip ⟨[sl 137 (B false)], []⟩ (by kernel_rfl) (by rfl) rfl rfl rfl rfl,
 .ev ⟨[sl 137 (B false), (148, .tup [])], []⟩ ht,
 trivial⟩
 exact En.at (I := fun zz => J_6 zz) (T := fun zz => ⟨[(qfWhr6), sl 7 (.own 3), sl 14 (qfWhr4 gr k nd ss), sl 17 (.ptr 4 0), (qfWhr10 gr), (qfWhr9 gr), sl 126 (I x126), sl 149 (B zz)], [(qfWhr3 nd), .gone, .gone, rowI 4 boolT l3_6, .box (ApiArrow.cl e_18) 26 false]⟩) false h (by kernel_rfl)
 intro x149 h
 replace h := hJ_6 _ h
 show En c ⟨[(qfWhr6), sl 7 (.own 3), sl 14 (qfWhr4 gr k nd ss), sl 17 (.ptr 4 0), (qfWhr10 gr), (qfWhr9 gr), sl 126 (I x126), sl 149 (B x149)], [(qfWhr3 nd), .gone, .gone, rowI 4 boolT l3_6, .box (ApiArrow.cl e_18) 26 false]⟩ _
 refine En.cd (b := x149) (fun hb => ?_) (fun hb => ?_)
 replace h := h.1 hb
 obtain ⟨e_20, he_20, h⟩ := h
 refine En.regionA ⟨[(qfWhr6), sl 7 (.own 3), sl 14 (qfWhr4 gr k nd ss), sl 17 (.ptr 4 0), (qfWhr10 gr), (qfWhr9 gr), sl 126 (I x126)], [.sv (.one (.own 3)), .sv (.one (.ptr 4 0)), .sv (.one (I e_18.fFrom)), .sv (.one (.rd (trR fLab nd))), .sv (.one (.pe (qfWhr7 nd) 3)), .sv (.one (.pe (svR (.one (.v (.int .u8 nd.lab.fSign)))) 1)), .sv (.one (.v (.int .u8 nd.lab.fSign))), .sv (.one (B (nd.lab.fSign == 60))), .sv (.one (.oe 3 ((e_18.fFrom).toNat) 1)), .tup []], [⟨(qfWhr3 nd), none, none, none⟩, ⟨.gone, none, none, none⟩, ⟨.gone, none, none, none⟩, ⟨rowI 4 boolT l3_6, none, none, some (9, rowI 4 boolT (l3_6.set (e_18.fFrom).toNat (nd.lab.fSign == 60)))⟩, ⟨.box (ApiArrow.cl e_18) 26 false, none, none, none⟩]⟩ ⟨[(qfWhr6), sl 7 (.own 3), sl 14 (qfWhr4 gr k nd ss), (qfWhr10 gr), (qfWhr9 gr), sl 126 (I x126)], [(qfWhr3 nd), .gone, .gone, rowI 4 boolT (l3_6.set (e_18.fFrom).toNat (nd.lab.fSign == 60)), .gone]⟩ (by kernel_rfl) hn (by kernel_rfl) (by rfl) (by kernel_rfl) ?_ (by kernel_rfl) ?_
 exact ⟨.ev ⟨[sl 7 (.own 3)], []⟩ ht,
 .ev ⟨[sl 17 (.ptr 4 0)], []⟩ ht,
 .ev ⟨[sl 151 (.ptr 4 0)], (qfWhr20 e_18)⟩ ht,
 .ev ⟨[(qfWhr6)], [(qfWhr3 nd)]⟩ ht,
 .vl ⟨[sl 153 (.rd (trR fLab nd))], []⟩ (mt_val (val_node (s := .agg [.v (.int .u8 nd.lab.fSign), I nd.lab.fN, LS (TT fLab) nd.kids]) (t := nd) (lab := fLab) fLabH rfl (by rfl) rfl rfl)),
 .vl ⟨[sl 154 (.pe (qfWhr7 nd) 3)], []⟩ (mt_val (val_fd (l := [.v (.int .u8 nd.lab.fSign), I nd.lab.fN, LS (TT fLab) nd.kids]) (r := .one (.v (.int .u8 nd.lab.fSign))) ht rfl)),
 .vl ⟨[sl 155 (.pe (svR (.one (.v (.int .u8 nd.lab.fSign)))) 1)], []⟩ (mt_val (val_ld (s := .one (.v (.int .u8 nd.lab.fSign))) ht rfl)),
 .ev ⟨[sl 156 (.v (.int .u8 nd.lab.fSign))], []⟩ ht,
 .vl ⟨[sl 150 (.own 3), sl 152 (I e_18.fFrom)], [.gone, .gone, .gone, rowI 4 boolT l3_6]⟩ (mt_val (val_indexO (T := boolT) (l := l3_6) (k := e_18.fFrom) ht rfl (by rfl) (by rfl) (by rfl) (by rfl) (by decide) (by rfl) (by rfl) (by rfl) he_20)),
 .mu ⟨[sl 157 (B (nd.lab.fSign == 60)), sl 158 (.oe 3 ((e_18.fFrom).toNat) 1)], [.gone, .gone, .gone, rowI 4 boolT l3_6]⟩ 3 _ _ rfl rfl (by kernel_rfl) (by rfl) (mu_storeO (T := boolT) (l := l3_6) (y := (nd.lab.fSign == 60)) ht rfl (by rfl) (by rfl) (fun _ h => by cases h) (by rfl) (by rfl) (idx_lt he_20) (by rfl) (by rfl) (by rfl)) rfl rfl rfl rfl rfl rfl rfl,
 trivial⟩
 exact En.at (I := fun zz => J_5 zz) (T := fun zz => ⟨[(qfWhr6), sl 7 (.own 3), sl 14 (qfWhr4 gr k nd ss), (qfWhr10 gr), (qfWhr9 gr), sl 126 (I x126)], [(qfWhr3 nd), .gone, .gone, rowI 4 boolT zz, .gone]⟩) (l3_6.set (e_18.fFrom).toNat (nd.lab.fSign == 60)) h (by kernel_rfl)
 replace h := h.2 hb
 refine En.skip ?_
 exact En.at (I := fun zz => J_5 zz) (T := fun zz => ⟨[(qfWhr6), sl 7 (.own 3), sl 14 (qfWhr4 gr k nd ss), (qfWhr10 gr), (qfWhr9 gr), sl 126 (I x126)], [(qfWhr3 nd), .gone, .gone, rowI 4 boolT zz, .gone]⟩) l3_6 h (by kernel_rfl)
 intro l3_7 h
 replace h := hJ_5 _ h
 show En c ⟨[(qfWhr6), sl 7 (.own 3), sl 14 (qfWhr4 gr k nd ss), (qfWhr10 gr), (qfWhr9 gr), sl 126 (I x126)], [(qfWhr3 nd), .gone, .gone, rowI 4 boolT l3_7, .gone]⟩ _
 refine En.region ?_
 refine WL.rn ht hn 2 ⟨[(qfWhr6), sl 7 (.own 3), sl 14 (qfWhr4 gr k nd ss), (qfWhr10 gr), (qfWhr9 gr), sl 126 (I (wr (x126 + 1)))], [(qfWhr3 nd), .gone, .gone, rowI 4 boolT l3_7, .gone]⟩ ?_
 exact En.at (I := fun zz => Inv_4 zz.1 zz.2 ∧ mu_4 zz.1 zz.2 < mu_4 x126 l3_6) (T := fun zz => ⟨[(qfWhr6), sl 7 (.own 3), sl 14 (qfWhr4 gr k nd ss), (qfWhr10 gr), (qfWhr9 gr), sl 126 (I zz.1)], [(qfWhr3 nd), .gone, .gone, rowI 4 boolT zz.2]⟩) ((wr (x126 + 1)), l3_7) h (by kernel_rfl)
 replace h := h.2 hb
 refine En.exit rfl ?_
 exact En.at (I := fun zz => J zz) (T := fun zz => ⟨[sl 7 (.own 3)], [.gone, .gone, .gone, rowI 4 boolT zz]⟩) l3_6 h (by kernel_rfl)
 replace h := h.2 hb
 obtain ⟨J_7, h, hJ_7⟩ := h
 refine En.seqJ (σ := Bool) (fun zz => J_7 zz) (fun zz => ⟨[(qfWhr6), (qfWhr13), (qfWhr15), sl 7 (.own 3), sl 160 (B zz)], (qfWhr1 nd gr ss)⟩) ?_ ?_
 refine En.sr ?_
 refine WL.rn ht hn 2 ⟨[(qfWhr6), (qfWhr13), (qfWhr15), sl 7 (.own 3), (qfWhr14 nd), sl 160 (B (nd.lab.fSign == 109))], (qfWhr1 nd gr ss)⟩ ?_
 refine En.cd (b := (nd.lab.fSign == 109)) (fun hb => ?_) (fun hb => ?_)
 replace h := h.1 hb
 refine En.skip ?_
 exact En.at (I := fun zz => J_7 zz) (T := fun zz => ⟨[(qfWhr6), (qfWhr13), (qfWhr15), sl 7 (.own 3), sl 160 (B zz)], (qfWhr1 nd gr ss)⟩) (nd.lab.fSign == 109) h (by kernel_rfl)
 replace h := h.2 hb
 refine En.region ?_
 refine WL.rn ht hn 2 ⟨[(qfWhr6), (qfWhr13), (qfWhr15), sl 7 (.own 3), sl 160 (B (nd.lab.fSign == 110))], (qfWhr1 nd gr ss)⟩ ?_
 exact En.at (I := fun zz => J_7 zz) (T := fun zz => ⟨[(qfWhr6), (qfWhr13), (qfWhr15), sl 7 (.own 3), sl 160 (B zz)], (qfWhr1 nd gr ss)⟩) (nd.lab.fSign == 110) h (by kernel_rfl)
 intro x160 h
 replace h := hJ_7 _ h
 show En c ⟨[(qfWhr6), (qfWhr13), (qfWhr15), sl 7 (.own 3), sl 160 (B x160)], (qfWhr1 nd gr ss)⟩ _
 refine En.cd (b := x160) (fun hb => ?_) (fun hb => ?_)
 replace h := h.1 hb
 refine En.seq ?_
 refine En.sr ?_
 refine WL.rn ht hn 3 ⟨[(qfWhr6), (qfWhr13), (qfWhr15), sl 7 (.own 3), sl 164 (qfWhr2 gr), sl 165 (I 0)], (qfWhr1 nd gr ss)⟩ ?_
 refine En.block ?_
 obtain ⟨Inv_5, mu_5, h0_6, hI_6⟩ := h
 refine En.loop (σ := Int × (List Bool)) (fun zz => Inv_5 zz.1 zz.2) (fun zz => mu_5 zz.1 zz.2) (fun zz => ⟨[(qfWhr6), (qfWhr13), (qfWhr15), sl 7 (.own 3), sl 164 (qfWhr2 gr), sl 165 (I zz.1)], [(qfWhr21 nd), .box (ApiGraph.cl gr) 24 false, (qfWhr19 ss), rowI 4 boolT zz.2]⟩) (0, (List.replicate (gr.fPlaces).toNat false)) h0_6 (sub_ok (by kernel_rfl)) ?_
 rintro ⟨x165, l3_8⟩ h
 replace h := hI_6 _ _ h
 show En c ⟨[(qfWhr6), (qfWhr13), (qfWhr15), sl 7 (.own 3), sl 164 (qfWhr2 gr), sl 165 (I x165)], (qfWhr12 nd gr ss l3_8)⟩ _
 refine En.sr ?_
 refine WL.rn ht hn 1 ⟨[(qfWhr6), (qfWhr13), (qfWhr15), sl 7 (.own 3), sl 164 (qfWhr2 gr), sl 165 (I x165), sl 166 (B (decide (x165 < ((List.replicate (gr.fPlaces).toNat false).length : Int))))], (qfWhr12 nd gr ss l3_8)⟩ ?_
 refine En.seq ?_
 refine En.cd (b := (decide (x165 < ((List.replicate (gr.fPlaces).toNat false).length : Int)))) (fun hb => ?_) (fun hb => ?_)
 replace h := h.1 hb
 refine En.skip ?_
 refine En.seq ?_
 refine En.block ?_
 refine En.sr ?_
 refine WL.rn ht hn 2 ⟨[(qfWhr6), (qfWhr13), (qfWhr15), sl 7 (.own 3), sl 18 (I x165), sl 164 (qfWhr2 gr), sl 165 (I x165)], (qfWhr12 nd gr ss l3_8)⟩ ?_
 refine En.region ?_
 refine WL.r ht hn 3 ⟨[(qfWhr6), (qfWhr13), (qfWhr15), sl 7 (.own 3), sl 164 (qfWhr2 gr), sl 165 (I x165), sl 168 (.own 3), sl 169 (I x165), sl 170 (.rd (trR fLab nd))], (qfWhr12 nd gr ss l3_8)⟩ ?_
 refine WL.v hn (val_node (s := .agg [.v (.int .u8 nd.lab.fSign), I nd.lab.fN, LS (TT fLab) nd.kids]) (t := nd) (lab := fLab) fLabH rfl (by rfl) rfl rfl) ?_
 refine WL.v hn (val_fd (l := [.v (.int .u8 nd.lab.fSign), I nd.lab.fN, LS (TT fLab) nd.kids]) (r := .one (.v (.int .u8 nd.lab.fSign))) ht rfl) ?_
 refine WL.v hn (val_ld (s := .one (.v (.int .u8 nd.lab.fSign))) ht rfl) ?_
 refine WL.r ht hn 1 ⟨[(qfWhr6), (qfWhr13), (qfWhr15), sl 7 (.own 3), sl 164 (qfWhr2 gr), sl 165 (I x165), sl 168 (.own 3), sl 169 (I x165), sl 174 (B (nd.lab.fSign == 110))], (qfWhr12 nd gr ss l3_8)⟩ ?_
 obtain ⟨e_21, he_21, h⟩ := h
 refine WL.v hn (val_indexO (T := boolT) (l := l3_8) (k := x165) ht rfl (by rfl) (by rfl) (by rfl) (by rfl) (by decide) (by rfl) (by rfl) (by rfl) he_21) ?_
 refine WL.storeO (T := boolT) (l := l3_8) (y := (nd.lab.fSign == 110)) ht hn (by rfl) rfl (by rfl) (by rfl) (fun _ h => by cases h) (by rfl) (by rfl) (idx_lt he_21) (by rfl) (by rfl) (by rfl) (by rfl) ?_
 refine WL.nil ?_
 refine En.region ?_
 refine WL.rn ht hn 2 ⟨[(qfWhr6), (qfWhr13), (qfWhr15), sl 7 (.own 3), sl 164 (qfWhr2 gr), sl 165 (I (wr (x165 + 1)))], [(qfWhr21 nd), .box (ApiGraph.cl gr) 24 false, (qfWhr19 ss), rowI 4 boolT (l3_8.set (x165).toNat (nd.lab.fSign == 110))]⟩ ?_
 exact En.at (I := fun zz => Inv_5 zz.1 zz.2 ∧ mu_5 zz.1 zz.2 < mu_5 x165 l3_8) (T := fun zz => ⟨[(qfWhr6), (qfWhr13), (qfWhr15), sl 7 (.own 3), sl 164 (qfWhr2 gr), sl 165 (I zz.1)], [(qfWhr21 nd), .box (ApiGraph.cl gr) 24 false, (qfWhr19 ss), rowI 4 boolT zz.2]⟩) ((wr (x165 + 1)), (l3_8.set (x165).toNat (nd.lab.fSign == 110))) h (by kernel_rfl)
 replace h := h.2 hb
 refine En.exit rfl ?_
 refine En.block ?_
 refine En.seal (T := boolT) (l := l3_8) (e := 4) 3 rfl ?_
 obtain ⟨Inv_6, mu_6, h0_5, hI_5⟩ := h
 refine En.loop (σ := (List Bool)) (fun zz => Inv_6 zz) (fun zz => mu_6 zz) (fun zz => ⟨[(qfWhr6), (qfWhr13), (qfWhr15), sl 7 (LS boolT zz)], (qfWhr11 nd gr ss)⟩) l3_8 h0_5 (sub_ok (by kernel_rfl)) ?_
 intro x7 h
 replace h := hI_5 _ h
 show En c ⟨[(qfWhr6), (qfWhr13), (qfWhr15), sl 7 (LS boolT x7)], (qfWhr11 nd gr ss)⟩ _
 refine En.block ?_
 refine En.seq ?_
 obtain ⟨e_22, he_22, h⟩ := h
 obtain ⟨hp_2, h⟩ := h
 obtain ⟨hp_3, h⟩ := h
 refine En.regionA ⟨[(qfWhr6), (qfWhr13), (qfWhr15), sl 7 (LS boolT x7)], [.sv (.one (.rd (trR fLab nd))), .sv (.one (.pe (qfWhr7 nd) 3)), .sv (.one (.pe (svR (.one (LS (TT fLab) nd.kids))) 1)), .sv (.one (LS (TT fLab) nd.kids)), .sv (.one (.pe (svR (.one (.rd (trR fLab e_22)))) 1)), .sv (.one (.rd (trR fLab e_22))), .sv (.agg (ApiGraph.cl gr)), .sv (.one (LS (lsT boolT) ss)), .sv (.one (LS (lsT boolT) ss)), .sv (.one (I (ss.length : Int))), .sv (.one (LS (lsT boolT) ss)), .sv (.one (I (ss.length : Int))), .sv (.one (.sl (slcR (lsT boolT) ss) ss.length)), .sv (.one (LS boolT x7)), .sv (.one (LS (lsT boolT) ([x7] : (List (List Bool))))), .sv (.one (LS (lsT boolT) (ss ++ ([x7] : (List (List Bool)))))), .sv (.one (LS boolT (semF gr k e_22 (ss ++ ([x7] : (List (List Bool))))))), .sv (.one (LS boolT (semF gr k e_22 (ss ++ ([x7] : (List (List Bool)))))))], [⟨(qfWhr21 nd), none, none, none⟩, ⟨.box (ApiGraph.cl gr) 24 false, none, none, none⟩, ⟨(qfWhr19 ss), none, none, none⟩, ⟨.gone, none, none, none⟩]⟩ ⟨[(qfWhr6), (qfWhr13), (qfWhr15), sl 7 (LS boolT x7), sl 19 (LS boolT (semF gr k e_22 (ss ++ ([x7] : (List (List Bool))))))], (qfWhr11 nd gr ss)⟩ (by kernel_rfl) hn (by kernel_rfl) (by rfl) (by kernel_rfl) ?_ (by kernel_rfl) ?_
 exact ⟨.ev ⟨[(qfWhr6)], [(qfWhr21 nd)]⟩ ht,
 .vl ⟨[sl 177 (.rd (trR fLab nd))], []⟩ (mt_val (val_node (s := .agg [.v (.int .u8 nd.lab.fSign), I nd.lab.fN, LS (TT fLab) nd.kids]) (t := nd) (lab := fLab) fLabH rfl (by rfl) rfl rfl)),
 .vl ⟨[sl 178 (.pe (qfWhr7 nd) 3)], []⟩ (mt_val (val_fd (l := [.v (.int .u8 nd.lab.fSign), I nd.lab.fN, LS (TT fLab) nd.kids]) (r := .one (LS (TT fLab) nd.kids)) ht rfl)),
 .vl ⟨[sl 179 (.pe (svR (.one (LS (TT fLab) nd.kids))) 1)], []⟩ (mt_val (val_ld (s := .one (LS (TT fLab) nd.kids)) ht rfl)),
 .vl ⟨[sl 180 (LS (TT fLab) nd.kids)], []⟩ (mt_val (val_ix (T := (TT fLab)) (l := nd.kids) (i := 0) ht rfl he_22)),
 .vl ⟨[sl 181 (.pe (svR (.one (.rd (trR fLab e_22)))) 1)], []⟩ (mt_val (val_ld (s := .one (.rd (trR fLab e_22))) ht rfl)),
 .ev ⟨[(qfWhr13)], [.gone, .box (ApiGraph.cl gr) 24 false]⟩ ht,
 .ev ⟨[(qfWhr15)], [.gone, .gone, (qfWhr19 ss)]⟩ ht,
 .ev ⟨[(qfWhr15)], [.gone, .gone, (qfWhr19 ss)]⟩ ht,
 .ev ⟨[sl 185 (LS (lsT boolT) ss)], []⟩ ht,
 .ev ⟨[(qfWhr15)], [.gone, .gone, (qfWhr19 ss)]⟩ ht,
 .ev ⟨[sl 187 (LS (lsT boolT) ss)], []⟩ ht,
 .vl ⟨[sl 184 (LS (lsT boolT) ss), sl 186 (I (ss.length : Int)), sl 188 (I (ss.length : Int))], []⟩ (mt_val (val_sliceC (T := (lsT boolT)) (l := ss) ht rfl (by rfl) (by rfl) (by rfl) (by rfl) (by rfl) (by rfl) (by rfl))),
 .ev ⟨[sl 7 (LS boolT x7)], []⟩ ht,
 .mt ⟨[sl 190 (LS boolT x7)], []⟩ [] none (by kernel_rfl) (by rfl) (mt_seal (q := 4) (e := 27) (mt_lit (T := (lsT boolT)) ([x7] : (List (List Bool))) (mt_bsl 4 (r := cellsOf (lsT boolT) ([x7] : (List (List Bool)))) ht rfl (by rfl) (by rfl) (by rfl) (by kernel_rfl) (by rfl)) (fun _ h => by cases h) (fun _ => rfl) (fun _ => rfl) (by rfl) (Nat.le_of_ble_eq_true rfl))) rfl rfl rfl rfl,
 .mt ⟨[sl 189 (.sl (slcR (lsT boolT) ss) ss.length), sl 191 (LS (lsT boolT) ([x7] : (List (List Bool))))], []⟩ [] none (by kernel_rfl) (by rfl) (mt_seal (q := 4) (e := 27) (mt_appendC (T := (lsT boolT)) (l := ss) (es := ([x7] : (List (List Bool)))) (p := 4) ht rfl (by rfl) (by rfl) (by rfl) (by rfl) (by decide) (fun _ h => by cases h) (by rfl) (srcLS (T := (lsT boolT)) (es := ([x7] : (List (List Bool)))) (fun _ h => by cases h) (by decide) (by rfl)) (Nat.le_of_ble_eq_true rfl) (by exact hp_2) (by exact hp_2.le (by decide)))) rfl rfl rfl rfl,
 .vl ⟨[sl 182 (.rd (trR fLab e_22)), (183, .sv (.agg (ApiGraph.cl gr))), sl 192 (LS (lsT boolT) (ss ++ ([x7] : (List (List Bool)))))], []⟩ (mt_c (whF k ih e_22 gr (ss ++ ([x7] : (List (List Bool)))) hp_3) en34 rfl),
 .ev ⟨[sl 193 (LS boolT (semF gr k e_22 (ss ++ ([x7] : (List (List Bool))))))], []⟩ ht,
 trivial⟩
 refine En.seq ?_
 refine En.sr ?_
 refine WL.r ht hn 2 ⟨[(qfWhr6), (qfWhr13), (qfWhr15), sl 7 (LS boolT x7), sl 19 (LS boolT (semF gr k e_22 (ss ++ ([x7] : (List (List Bool)))))), sl 194 (LS boolT (semF gr k e_22 (ss ++ ([x7] : (List (List Bool)))))), sl 195 (LS boolT x7)], (qfWhr11 nd gr ss)⟩ ?_
 refine WL.m0 hn (mt_c (eqBools_ct (semF gr k e_22 (ss ++ ([x7] : (List (List Bool))))) x7) en78 rfl) ?_
 refine WL.nil ?_
 refine En.cd (b := (decide ((semF gr k e_22 (ss ++ ([x7] : (List (List Bool))))) = x7))) (fun hb => ?_) (fun hb => ?_)
 replace h := h.1 hb
 refine En.sr ?_
 refine WL.rn ht hn 2 ⟨[sl 6 (LS boolT x7)], [.gone, .gone, .gone, .gone]⟩ ?_
 exact En.rb ht x7 h
 replace h := h.2 hb
 refine En.skip ?_
 refine En.region ?_
 refine WL.rn ht hn 2 ⟨[(qfWhr6), (qfWhr13), (qfWhr15), sl 7 (LS boolT (semF gr k e_22 (ss ++ ([x7] : (List (List Bool))))))], (qfWhr11 nd gr ss)⟩ ?_
 exact En.at (I := fun zz => Inv_6 zz ∧ mu_6 zz < mu_6 x7) (T := fun zz => ⟨[(qfWhr6), (qfWhr13), (qfWhr15), sl 7 (LS boolT zz)], (qfWhr11 nd gr ss)⟩) (semF gr k e_22 (ss ++ ([x7] : (List (List Bool))))) h (by kernel_rfl)
 replace h := h.2 hb
 refine En.skip ?_
 exact En.at (I := fun zz => J zz) (T := fun zz => ⟨[sl 7 (.own 3)], [.gone, .gone, .gone, rowI 4 boolT zz]⟩) (List.replicate (gr.fPlaces).toNat false) h (by kernel_rfl)
 intro l3 h
 replace h := hJ _ h
 show En c ⟨[sl 7 (.own 3)], [.gone, .gone, .gone, rowI 4 boolT l3]⟩ _
 refine En.sr ?_
 refine WL.rn ht hn 2 ⟨[sl 6 (.own 3)], [.gone, .gone, .gone, rowI 4 boolT l3]⟩ ?_
 refine En.ret ?_
 refine En.seal (T := boolT) (l := l3) (e := 4) 3 rfl ?_
 exact En.back ht l3 h (by kernel_rfl) rfl
theorem ifp_no {b : Bool} {A B : Prop} (h : b = false) (hb : B) : IfP b A B := ⟨fun e => (by rw [h] at e; cases e), fun _ => hb⟩
theorem ifp_yes {b : Bool} {A B : Prop} (h : b = true) (ha : A) : IfP b A B := ⟨fun _ => ha, fun e => (by rw [h] at e; cases e)⟩
theorem onF_set {l : List Bool} {k : Nat} (hk : k < l.length) {v : Bool} {p : Int} (h0 : 0 ≤ p) : onF (l.set k v) p = if p = k then v else onF l p := by
 unfold onF
 rw [List.getD_eq_getElem?_getD, List.getD_eq_getElem?_getD, List.getElem?_set]
 by_cases h : p = k
 ·subst h
  rw [Int.toNat_natCast, if_pos rfl, if_pos hk, if_pos rfl]
  rfl
 ·rw [if_neg (by omega), if_neg h]
def FillI (n : Int) (f : Int → Bool) (i : Int) (l : List Bool) : Prop := ∃ m : Nat, i = m ∧ (m : Int) ≤ n ∧ l.length = n.toNat ∧ ∀ p : Int, 0 ≤ p → p < m → onF l p = f p
def FillM (n : Int) (i : Int) (_ : List Bool) : Nat := (n - i).toNat
section
variable {n i : Int} {f : Int → Bool} {l : List Bool}
theorem fill_0 (hn : 0 ≤ n) (hl : l.length = n.toNat) : FillI n f 0 l := ⟨0, rfl, hn, hl, fun p h0 h1 => by omega⟩
theorem fill_idx (h : FillI n f i l) (hb : i < n) : idx l i = some (onF l i) := by
 obtain ⟨m, rfl, _, hl, _⟩ := h
 exact idx_getF false (Int.natCast_nonneg _) (by omega)
theorem fill_row (h : FillI n f i l) (hb : i < n) {a : List Bool} (ha : a.length = n.toNat) : idx a i = some (onF a i) := by
 obtain ⟨m, rfl, _, _, _⟩ := h
 exact idx_getF false (Int.natCast_nonneg _) (by omega)
theorem fill_step (h : FillI n f i l) (hb : i < n) (hn : n ≤ 1000) {v : Bool} (hv : v = f i) : FillI n f (wr (i + 1)) (l.set i.toNat v) ∧ FillM n (wr (i + 1)) (l.set i.toNat v) < FillM n i l := by
 obtain ⟨m, rfl, hm, hl, hf⟩ := h
 rw [wr_in (by omega) (by omega), Int.toNat_natCast]
 refine ⟨⟨m + 1, by omega, by omega, by rw [List.length_set]; exact hl, fun p h0 h1 => ?_⟩, by unfold FillM; omega⟩
 rw [onF_set (by omega) h0]
 by_cases hp : p = m
 ·rw [if_pos hp, hv, hp]
 ·rw [if_neg hp]
  exact hf p h0 (by omega)
theorem fill_end (h : FillI n f i l) (hb : ¬ i < n) : l = eachF n f := by
 obtain ⟨m, rfl, hm, hl, hf⟩ := h
 refine rowF_ext hl (eachF_len _ _) fun p h0 h1 => ?_
 rw [onF_each h0 h1]
 exact hf p h0 (by omega)
end
theorem eachF_const (n : Int) (v : Bool) : eachF n (fun _ => v) = allF n v := rowF_ext (eachF_len _ _) (allF_len _ _) fun p h0 h1 => by rw [onF_each h0 h1, onF_all h0 h1]
def anyM (g : ApiGraph) (sg c : Int) (a : List Bool) (m : Nat) (p : Int) : Bool := (g.fArrows.take m).any fun x => x.fFrom == p && x.fLetter == c && onF a x.fTo == (sg == 60)
def wayM (g : ApiGraph) (sg c : Int) (a : List Bool) (m : Nat) (p : Int) : Bool := if sg = 60 then anyM g sg c a m p else !(anyM g sg c a m p)
def WayI (g : ApiGraph) (sg c : Int) (a : List Bool) (i : Int) (l : List Bool) : Prop := ∃ m : Nat, i = m ∧ m ≤ g.fArrows.length ∧ l.length = g.fPlaces.toNat ∧ ∀ p : Int, 0 ≤ p → p < g.fPlaces → onF l p = wayM g sg c a m p
section
variable {g : ApiGraph} {sg c i : Int} {a l : List Bool}
theorem anyM_step {m : Nat} {x : ApiArrow} (hx : g.fArrows[m]? = some x) (p : Int) : anyM g sg c a (m + 1) p = (anyM g sg c a m p || (x.fFrom == p && x.fLetter == c && onF a x.fTo == (sg == 60))) := by
 unfold anyM
 rw [List.take_add_one, hx, List.any_append]
 simp
theorem way_0 (hs : sg = 60 ∨ sg = 91) (hl : l = eachF g.fPlaces fun _ => sg == 91) : WayI g sg c a 0 l := ⟨0, rfl, Nat.zero_le _, by rw [hl]; exact eachF_len _ _, fun p h0 h1 => by
 rw [hl, onF_each h0 h1]
 unfold wayM anyM
 rcases hs with rfl | rfl <;> rfl⟩
theorem way_end (hs : sg = 60 ∨ sg = 91) (h : WayI g sg c a i l) (hb : ¬ i < g.fArrows.length) : l = wayF g sg c a := by
 obtain ⟨m, rfl, hm, hl, hf⟩ := h
 refine rowF_ext hl (eachF_len _ _) fun p h0 h1 => ?_
 unfold wayF
 rw [onF_each h0 h1, hf p h0 h1]
 unfold wayM anyM arrB
 rw [List.take_of_length_le (by omega)]
 rcases hs with rfl | rfl <;> rfl
theorem way_skip {m : Nat} (hm : g.fArrows.length ≤ 1000) (h : WayI g sg c a (m : Int) l) {x : ApiArrow} (hx : g.fArrows[m]? = some x) (hn : (x.fLetter == c && onF a x.fTo == (sg == 60)) = false) : WayI g sg c a (wr ((m : Int) + 1)) l := by
 obtain ⟨m', e, hm', hl, hf⟩ := h
 have e : m = m' := by omega
 subst e
 have hlt := (List.getElem?_eq_some_iff.1 hx).1
 rw [wr_in (by omega) (by omega)]
 refine ⟨m + 1, by omega, by omega, hl, fun p h0 h1 => ?_⟩
 rw [hf p h0 h1]
 unfold wayM
 rw [anyM_step hx, Bool.and_assoc, hn, Bool.and_false, Bool.or_false]
theorem way_set (hg : GraphOk g) (hs : sg = 60 ∨ sg = 91) {m : Nat} (h : WayI g sg c a (m : Int) l) {x : ApiArrow} (hx : g.fArrows[m]? = some x) (hn : (x.fLetter == c && onF a x.fTo == (sg == 60)) = true) : WayI g sg c a (wr ((m : Int) + 1)) (l.set x.fFrom.toNat (sg == 60)) := by
 obtain ⟨m', e, hm', hl, hf⟩ := h
 have e : m = m' := by omega
 subst e
 have hlt := (List.getElem?_eq_some_iff.1 hx).1
 have hr := (hg.arr x (List.mem_iff_getElem?.2 ⟨m, hx⟩)).1
 have := hg.len
 rw [wr_in (by omega) (by omega)]
 refine ⟨m + 1, by omega, by omega, by rw [List.length_set]; exact hl, fun p h0 h1 => ?_⟩
 rw [onF_set (by omega) h0]
 have e1 : anyM g sg c a (m + 1) p = (anyM g sg c a m p || (x.fFrom == p)) := by rw [anyM_step hx, Bool.and_assoc, hn, Bool.and_true]
 by_cases hp : p = x.fFrom
 ·rw [if_pos (by omega)]
  unfold wayM
  rw [e1, hp, beq_self_eq_true, Bool.or_true]
  rcases hs with rfl | rfl <;> rfl
 ·rw [if_neg (by omega), hf p h0 h1]
  unfold wayM
  rw [e1, show (x.fFrom == p) = false from beq_eq_false_iff_ne.2 (fun e => hp e.symm), Bool.or_false]
end
theorem ways_ok {g : ApiGraph} (h : GraphOk g) : ToOk g := fun x hx => (h.arr x hx).2.1
theorem fWhr_all (k : Nat) (nd : FTr) (gr : ApiGraph) (ss : List (List Bool)) (hp : PreW (k + 1) nd gr ss) : fWhr_vc k nd gr ss (fun r => r = semF gr (k + 1) nd ss) := by
 obtain ⟨hg, fl, hw, hS⟩ := hp
 have hpl := hg.pl
 have hal := hg.len
 have hz : (List.replicate gr.fPlaces.toNat false).length = gr.fPlaces.toNat := List.length_replicate
 obtain ⟨⟨sg, n⟩, kids⟩ := nd
 unfold fWhr_vc
 intro _ _
 refine ⟨⟨by omega, by omega, by omega⟩, fun l => l = semF gr (k + 1) (.node ⟨sg, n⟩ kids) ss, ?_, fun l h => h⟩
 rcases hw with ⟨h, _⟩ | ⟨h, _, j, h2, h3⟩ | ⟨h, x, e, hx⟩ | ⟨h, b, x, e, hx⟩ | ⟨h, b, b2, x, e, hx⟩ | ⟨h, x, y, e, hx, hy⟩
 ·rcases h with h | h
  ·have h : sg = 48 := h
   subst h
   exact ifp_no rfl (ifp_no rfl (ifp_no rfl ⟨fun b => b = false, ifp_no rfl rfl, fun b hb => ifp_no hb ⟨fun b => b = false, ifp_no rfl rfl, fun b hb => ifp_no hb ⟨fun b => b = false, ifp_no rfl rfl, fun b hb => ifp_no hb rfl⟩⟩⟩))
  ·have h : sg = 49 := h
   subst h
   exact ifp_yes rfl ⟨⟨rfl, by omega, by omega⟩, rfl⟩
 ·have h : sg = 88 := h
  subst h
  have h2 : n = j := h2
  subst h2
  have hj : j < ss.length := by
   rw [hS.1]
   exact (List.getElem?_eq_some_iff.1 h3).1
  exact ifp_no rfl (ifp_yes rfl ⟨_, idx_getF [] (Int.natCast_nonneg _) (by show (j : Int) < ss.length; omega), rfl⟩)
 ·have h : sg = 33 := h
  subst h e
  have hA := sem_len (g := gr) hx hS.not
  refine ifp_no rfl (ifp_no rfl (ifp_yes rfl ⟨⟨by decide, by show (0 : Int) < 1; decide, hg, _, hx, hS.not⟩, FillI gr.fPlaces (fun p => !(onF (semF gr k x ss) p)), FillM gr.fPlaces, fill_0 (by omega) hz, fun i l hI => ⟨fun hb => ?_, fun hb => ?_⟩⟩))
  ·have hb : i < ((semF gr k x ss).length : Int) := of_decide_eq_true hb
   have hlt : i < gr.fPlaces := by omega
   exact ⟨_, fill_row hI hlt hA, _, fill_idx hI hlt, fill_step hI hlt (by omega) rfl⟩
  ·have hb : ¬ i < ((semF gr k x ss).length : Int) := of_decide_eq_false hb
   exact (fill_end hI (by omega)).trans sem_not.symm
 ·have h : sg = 60 ∨ sg = 91 := h
  subst e
  have hA := sem_len (g := gr) hx hS
  have hz2 : ((List.replicate gr.fPlaces.toNat false).length : Int) = gr.fPlaces := by rw [hz]; omega
  have n49 : ((.node ⟨sg, n⟩ [x] : FTr).lab.fSign == 49) = false := by rcases h with rfl | rfl <;> rfl
  have n88 : ((.node ⟨sg, n⟩ [x] : FTr).lab.fSign == 88) = false := by rcases h with rfl | rfl <;> rfl
  have n33 : ((.node ⟨sg, n⟩ [x] : FTr).lab.fSign == 33) = false := by rcases h with rfl | rfl <;> rfl
  have n38 : ((.node ⟨sg, n⟩ [x] : FTr).lab.fSign == 38) = false := by rcases h with rfl | rfl <;> rfl
  have n124 : ((.node ⟨sg, n⟩ [x] : FTr).lab.fSign == 124) = false := by rcases h with rfl | rfl <;> rfl
  refine ifp_no n49 (ifp_no n88 (ifp_no n33 ⟨fun b => b = false, ifp_no n38 n124, fun b hb => ifp_no hb ⟨fun b => b = true, ⟨fun h => h, fun h60 => ?_⟩, fun b hb => ifp_yes hb ⟨⟨by decide, by show (0 : Int) < 1; decide, hg, _, hx, hS⟩, FillI gr.fPlaces (fun _ => sg == 91), FillM gr.fPlaces, fill_0 (by omega) hz, fun i l hI => ⟨fun hb => ?_, fun hb => ?_⟩⟩⟩⟩))
  ·rcases h with rfl | rfl
   ·cases h60
   ·rfl
  ·have hb := of_decide_eq_true hb
   have hlt : i < gr.fPlaces := by omega
   exact ⟨_, fill_idx hI hlt, fill_step hI hlt (by omega) rfl⟩
  ·have hb := of_decide_eq_false hb
   have hl := fill_end hI (by omega)
   refine ⟨WayI gr sg n (semF gr k x ss), fun i _ => (gr.fArrows.length - i).toNat, way_0 h hl, fun i l hI => ⟨fun hb => ?_, fun hb => ?_⟩⟩
   ·have hb := of_decide_eq_true hb
    have hI' := hI
    obtain ⟨m, rfl, _, hll, _⟩ := hI'
    obtain ⟨a, ha⟩ : ∃ a, gr.fArrows[m]? = some a := ⟨gr.fArrows[m], List.getElem?_eq_getElem (by omega)⟩
    have hidx : idx gr.fArrows (m : Int) = some a := by
     unfold idx
     rw [if_pos (Int.natCast_nonneg _), Int.toNat_natCast, ha]
    have hr := hg.arr a (List.mem_iff_getElem?.2 ⟨m, ha⟩)
    have hto : idx (semF gr k x ss) a.fTo = some (onF (semF gr k x ss) a.fTo) := idx_getF false hr.2.1.1 (by omega)
    have hfr : idx l a.fFrom = some (onF l a.fFrom) := idx_getF false hr.1.1 (by omega)
    have hmu : ((gr.fArrows.length : Int) - wr ((m : Int) + 1)).toNat < ((gr.fArrows.length : Int) - (m : Int)).toNat := by rw [wr_in (by omega) (by omega)]; omega
    refine ⟨fun l' => l' = if (a.fLetter == n && onF (semF gr k x ss) a.fTo == (sg == 60)) = true then l.set a.fFrom.toNat (sg == 60) else l, ⟨_, hidx, fun b => b = (a.fLetter == n && onF (semF gr k x ss) a.fTo == (sg == 60)), ⟨fun e => ⟨_, hto, ?_⟩, fun e => ?_⟩, fun b hb => ⟨fun e => ⟨_, hfr, ?_⟩, fun e => ?_⟩⟩, fun l' hl' => ?_⟩
    ·have e : (a.fLetter == n) = true := e
     rw [e, Bool.true_and]
     rfl
    ·have e : (a.fLetter == n) = false := e
     rw [e, Bool.false_and]
    ·rw [if_pos (by rw [← hb]; exact e)]
     rfl
    ·rw [if_neg (by rw [← hb, e]; decide)]
    ·subst hl'
     refine ⟨?_, hmu⟩
     by_cases hm : (a.fLetter == n && onF (semF gr k x ss) a.fTo == (sg == 60)) = true
     ·rw [if_pos hm]
      exact way_set hg h hI ha hm
     ·rw [if_neg hm]
      exact way_skip (by omega) hI ha (by simpa using hm)
   ·have hb := of_decide_eq_false hb
    exact (way_end h hI hb).trans (sem_way h).symm
 ·have h : sg = 109 ∨ sg = 110 := h
  subst e
  have hz2 : ((List.replicate gr.fPlaces.toNat false).length : Int) = gr.fPlaces := by rw [hz]; omega
  have n49 : ((.node ⟨sg, n⟩ [x] : FTr).lab.fSign == 49) = false := by rcases h with rfl | rfl <;> rfl
  have n88 : ((.node ⟨sg, n⟩ [x] : FTr).lab.fSign == 88) = false := by rcases h with rfl | rfl <;> rfl
  have n33 : ((.node ⟨sg, n⟩ [x] : FTr).lab.fSign == 33) = false := by rcases h with rfl | rfl <;> rfl
  have n38 : ((.node ⟨sg, n⟩ [x] : FTr).lab.fSign == 38) = false := by rcases h with rfl | rfl <;> rfl
  have n124 : ((.node ⟨sg, n⟩ [x] : FTr).lab.fSign == 124) = false := by rcases h with rfl | rfl <;> rfl
  have n60 : ((.node ⟨sg, n⟩ [x] : FTr).lab.fSign == 60) = false := by rcases h with rfl | rfl <;> rfl
  have n91 : ((.node ⟨sg, n⟩ [x] : FTr).lab.fSign == 91) = false := by rcases h with rfl | rfl <;> rfl
  refine ifp_no n49 (ifp_no n88 (ifp_no n33 ⟨fun b => b = false, ifp_no n38 n124, fun b hb => ifp_no hb ⟨fun b => b = false, ifp_no n60 n91, fun b hb => ifp_no hb ⟨fun b => b = true, ⟨fun h => h, fun h60 => ?_⟩, fun b hb => ifp_yes hb ⟨FillI gr.fPlaces (fun _ => sg == 110), FillM gr.fPlaces, fill_0 (by omega) hz, fun i l hI => ⟨fun hb => ?_, fun hb => ?_⟩⟩⟩⟩⟩))
  ·rcases h with rfl | rfl
   ·cases h60
   ·rfl
  ·have hb := of_decide_eq_true hb
   have hlt : i < gr.fPlaces := by omega
   exact ⟨_, fill_idx hI hlt, fill_step hI hlt (by omega) rfl⟩
  ·have hb := of_decide_eq_false hb
   have hl := (fill_end hI (by omega)).trans (eachF_const _ _)
   obtain ⟨v, hv⟩ : ∃ v : Bool, v = !(sg == 110) := ⟨_, rfl⟩
   have hl : l = allF gr.fPlaces (!v) := by rw [hl, hv, Bool.not_not]
   have hfl : ∀ o : List Bool, o.length = gr.fPlaces.toNat → (semF gr k x (ss ++ [o])).length = gr.fPlaces.toNat := fun o ho => sem_len hx (hS.add ho false)
   have hfm : ∀ a b : List Bool, a.length = gr.fPlaces.toNat → b.length = gr.fPlaces.toNat → leV gr.fPlaces v a b → leV gr.fPlaces v (semF gr k x (ss ++ [a])) (semF gr k x (ss ++ [b])) := fun a b ha hb h => lp_mono (ways_ok hg) hx hS v ha hb h
   refine ⟨fun o => ∃ m, o = itF (fun o => semF gr k x (ss ++ [o])) m (allF gr.fPlaces (!v)), fun o => gr.fPlaces.toNat - o.count v, ⟨0, hl⟩, ?_⟩
   rintro _ ⟨m, rfl⟩
   have hlm := itF_len hfl (allF_len gr.fPlaces (!v)) m
   refine ⟨x, rfl, by unfold capOk; simp only [List.length_singleton]; have h1 := hS.1; omega, ⟨hg, _, hx, hS.add hlm false⟩, fun hd => ?_, fun hd => ⟨⟨m + 1, rfl⟩, ?_⟩⟩
   ·have hd : semF gr k x (ss ++ [itF (fun o => semF gr k x (ss ++ [o])) m (allF gr.fPlaces (!v))]) = itF (fun o => semF gr k x (ss ++ [o])) m (allF gr.fPlaces (!v)) := of_decide_eq_true hd
    show _ = semF gr (k + 1) (fn sg n [x]) ss
    rw [sem_lp h, ← itF_any hfl hfm hd]
    congr 2
    rw [hv, Bool.not_not]
    rfl
   ·have hd := of_decide_eq_false hd
    have hup := leV_cnt hlm (itF_len hfl (allF_len gr.fPlaces (!v)) (m + 1)) (itF_up hfl hfm m) (fun e => hd e.symm)
    have hle : (itF (fun o => semF gr k x (ss ++ [o])) (m + 1) (allF gr.fPlaces (!v))).count v ≤ _ := List.count_le_length
    rw [itF_len hfl (allF_len gr.fPlaces (!v)) (m + 1)] at hle
    show gr.fPlaces.toNat - (itF (fun o => semF gr k x (ss ++ [o])) (m + 1) (allF gr.fPlaces (!v))).count v < gr.fPlaces.toNat - (itF (fun o => semF gr k x (ss ++ [o])) m (allF gr.fPlaces (!v))).count v
    omega
 ·have h : sg = 38 ∨ sg = 124 := h
  subst e
  have hA := sem_len (g := gr) hx hS
  have hB := sem_len (g := gr) hy hS
  have hz2 : ((List.replicate gr.fPlaces.toNat false).length : Int) = gr.fPlaces := by rw [hz]; omega
  have n49 : ((.node ⟨sg, n⟩ [x, y] : FTr).lab.fSign == 49) = false := by rcases h with rfl | rfl <;> rfl
  have n88 : ((.node ⟨sg, n⟩ [x, y] : FTr).lab.fSign == 88) = false := by rcases h with rfl | rfl <;> rfl
  have n33 : ((.node ⟨sg, n⟩ [x, y] : FTr).lab.fSign == 33) = false := by rcases h with rfl | rfl <;> rfl
  refine ifp_no n49 (ifp_no n88 (ifp_no n33 ⟨fun b => b = true, ⟨fun h => h, fun h60 => ?_⟩, fun b hb => ifp_yes hb ⟨⟨by decide, by show (0 : Int) < 2; decide, hg, _, hx, hS⟩, ⟨by decide, by show (1 : Int) < 2; decide, hg, _, hy, hS⟩, FillI gr.fPlaces (fun p => if sg = 38 then onF (semF gr k x ss) p && onF (semF gr k y ss) p else onF (semF gr k x ss) p || onF (semF gr k y ss) p), FillM gr.fPlaces, fill_0 (by omega) hz, fun i l hI => ⟨fun hb => ?_, fun hb => ?_⟩⟩⟩))
  ·rcases h with rfl | rfl
   ·cases h60
   ·rfl
  ·have hb := of_decide_eq_true hb
   have hlt : i < gr.fPlaces := by omega
   have eA := fill_row hI hlt hA
   have eB := fill_row hI hlt hB
   have eL := fill_idx hI hlt
   refine ⟨fun l' => l' = l.set i.toNat (if sg = 38 then onF (semF gr k x ss) i && onF (semF gr k y ss) i else onF (semF gr k x ss) i || onF (semF gr k y ss) i), ⟨_, eA, fun h1 => ⟨_, eB, fun h2 => ⟨_, eL, ?_⟩, fun h2 => ⟨fun h3 => ⟨_, eA, fun _ => ⟨_, eL, ?_⟩, fun h5 => ?_⟩, fun h3 => ⟨_, eL, ?_⟩⟩⟩, fun h1 => ⟨fun h3 => ⟨_, eA, fun h4 => ?_, fun _ => ⟨_, eB, _, eL, ?_⟩⟩, fun h3 => ⟨_, eL, ?_⟩⟩⟩, fun l' hl' => ?_⟩
   ·rw [h1, h2]
    congr 1
    split <;> rfl
   ·have h3 : sg = 124 := eq_of_beq h3
    rw [if_neg (by omega), h1]
    rfl
   ·rw [h1] at h5
    cases h5
   ·have h3 : ¬ sg = 124 := beq_eq_false_iff_ne.1 h3
    rw [if_pos (by omega), h1, h2]
    rfl
   ·rw [h1] at h4
    cases h4
   ·have h3 : sg = 124 := eq_of_beq h3
    rw [if_neg (by omega), h1]
    rfl
   ·have h3 : ¬ sg = 124 := beq_eq_false_iff_ne.1 h3
    rw [if_pos (by omega), h1]
    rfl
   ·subst hl'
    exact fill_step hI hlt (by omega) rfl
  ·have hb := of_decide_eq_false hb
   refine (fill_end hI (by omega)).trans ?_
   rcases h with rfl | rfl
   ·exact sem_and.symm
   ·exact sem_or.symm
theorem fWhere_all : ∀ k, WhF k
 | 0 => fun nd gr ss hp => by
  obtain ⟨_, _, h, _⟩ := hp
  exact h.elim
 | k + 1 => fun nd gr ss hp => (fWhr_walk k nd gr ss (fWhere_all k) _ (fWhr_all k nd gr ss hp)).fun
def fHolds_vc (g : ApiGraph) (text : ByteArray) (Q : ((List Bool) × Int) → Prop) : Prop :=
 g.fArrows.length ≤ 9223372036854775807 →
 (IfP ((samErr g) != 0) (Q ([], (samErr g))) (∀ r : (Option FTr × ApiFault), (ParsedF text) r →
 (IfP (r.2.fCode != 0) (Q ([], 4)) (∃ t, r.1 = some t ∧
 (PreW 30 t g ([] : (List (List Bool)))) ∧
 ((semF g 30 t ([] : (List (List Bool)))).length * 1 ≤ 140737488355328) ∧
 Q (((semF g 30 t ([] : (List (List Bool))))), 0)))))
theorem fHolds_walk (g : ApiGraph) (text : ByteArray) (Q : ((List Bool) × Int) → Prop) (h : fHolds_vc g text Q) : Ct 14 [.sv (.agg [I g.fLetters, I g.fPlaces, LS ApiArrow.ty g.fArrows]), .sv (.one (.v (.string text)))] [] Q (fun (r : ((List Bool) × Int)) => .tup [.one (LS boolT r.1), .one (I r.2)]) := by
 have ht := tab_ok
 refine Ct.body Try.func14 rfl rfl rfl rfl (fun c hn => ?_)
 unfold fHolds_vc at h
 refine En.lenA 0 2 (by rfl) (by rfl) (fun hl => ?_)
 replace h := h hl
 clear hl
 refine En.sr ?_
 refine WL.rn ht hn 3 ⟨[sl 1 (.v (.string text)), sl 2 (.ptr 0 0)], [.box (ApiGraph.cl g) 24 false]⟩ ?_
 refine En.seq ?_
 refine En.sr ?_
 refine WL.r ht hn 1 ⟨[sl 1 (.v (.string text)), sl 2 (.ptr 0 0), (9, .sv (.agg (ApiGraph.cl g)))], [.box (ApiGraph.cl g) 24 false]⟩ ?_
 refine WL.m0 hn (mt_c (samCheck_ct g) en20 rfl) ?_
 refine WL.rn ht hn 1 ⟨[sl 1 (.v (.string text)), sl 2 (.ptr 0 0), sl 6 (I (samErr g))], [.box (ApiGraph.cl g) 24 false]⟩ ?_
 refine En.sr ?_
 refine WL.rn ht hn 2 ⟨[sl 1 (.v (.string text)), sl 2 (.ptr 0 0), sl 6 (I (samErr g)), sl 12 (B ((samErr g) != 0))], [.box (ApiGraph.cl g) 24 false]⟩ ?_
 refine En.cd (b := ((samErr g) != 0)) (fun hb => ?_) (fun hb => ?_)
 replace h := h.1 hb
 refine En.sr ?_
 refine WL.rn ht hn 3 ⟨[sl 4 (.v (.slice none 0 0)), sl 5 (I (samErr g))], [.gone]⟩ ?_
 refine En.ret ?_
 refine En.nilLS 4 boolT (by rfl) ?_
 exact En.back ht ([], (samErr g)) h (by kernel_rfl) rfl
 replace h := h.2 hb
 refine En.skip ?_
 refine En.sr ?_
 refine WL.r ht hn 1 ⟨[sl 2 (.ptr 0 0), sl 15 (.v (.string text))], [.box (ApiGraph.cl g) 24 false]⟩ ?_
 refine WL.mtQ (Q := ParsedF text) (x := fun (r : (Option FTr × ApiFault)) => .tup [.one (.rd (optR fLab r.1)), .agg [I r.2.fCode, I r.2.fAt]]) (p := fun _ => none) hn (by rfl) (mtq_call (fParse_ct text) en32 (caps := []) [] rfl (by rfl) (by kernel_rfl) (by kernel_rfl) (by rfl) (fun _ => rfl) (by rfl)) (fun r hr_2 => ⟨by rfl, _, by rfl, ?_⟩)
 replace h := h r hr_2
 refine WL.rn ht hn 6 ⟨[sl 2 (.ptr 0 0), sl 7 (.rd (optR fLab r.1)), sl 8 (.ptr 1 0)], [.box (ApiGraph.cl g) 24 false, .box [I r.2.fCode, I r.2.fAt] 32 false]⟩ ?_
 refine En.seq ?_
 refine En.sr ?_
 refine WL.rn ht hn 3 ⟨[sl 2 (.ptr 0 0), sl 7 (.rd (optR fLab r.1)), sl 21 (B (r.2.fCode != 0))], [.box (ApiGraph.cl g) 24 false, .gone]⟩ ?_
 refine En.cd (b := (r.2.fCode != 0)) (fun hb => ?_) (fun hb => ?_)
 replace h := h.1 hb
 refine En.sr ?_
 refine WL.rn ht hn 2 ⟨[sl 4 (.v (.slice none 0 0)), sl 5 (I 4)], [.gone, .gone]⟩ ?_
 refine En.ret ?_
 refine En.nilLS 4 boolT (by rfl) ?_
 exact En.back ht ([], 4) h (by kernel_rfl) rfl
 replace h := h.2 hb
 refine En.skip ?_
 refine En.sr ?_
 refine WL.r ht hn 2 ⟨[sl 22 (.rd (optR fLab r.1)), (23, .sv (.agg (ApiGraph.cl g)))], [.gone, .gone]⟩ ?_
 obtain ⟨t, ht_2, h⟩ := h
 refine WL.ghost 22 (o1 (.rd (trR fLab t))) (by rfl) (some_of ht_2) ?_
 obtain ⟨hp, h⟩ := h
 refine WL.m0 hn (mt_c (Ct.args (fWhere_all 30 t g ([] : (List (List Bool))) hp) (argLe_same (argLe_same (argLe_to (nil_LS (T := (lsT boolT))) argLe_nil)))) en34 rfl) ?_
 obtain ⟨hp, h⟩ := h
 refine WL.mt0 (K := []) (p := some (2, rowI 4 boolT (semF g 30 t ([] : (List (List Bool)))))) hn (by rfl) (mt_callI 2 (cloneBool_ct (semF g 30 t ([] : (List (List Bool)))) hp) en33 (caps := []) [] rfl rfl (by rfl) (by kernel_rfl) (by kernel_rfl) (by rfl) (by rfl)) (by rfl) (by rfl) (by rfl) ?_
 refine WL.rn ht hn 2 ⟨[sl 4 (.own 2), sl 5 (I 0)], [.gone, .gone, rowI 4 boolT (semF g 30 t ([] : (List (List Bool))))]⟩ ?_
 refine En.ret ?_
 refine En.seal (T := boolT) (l := (semF g 30 t ([] : (List (List Bool))))) (e := 4) 2 rfl ?_
 exact En.back ht ((semF g 30 t ([] : (List (List Bool)))), 0) h (by kernel_rfl) rfl
theorem en14 : ∀ args w, (callFunc 14 args).run Try.prog w = .ok (.enter 14 args) w := enters_of Try.func14 (by kernel_rfl) rfl
def HoldsF (g : ApiGraph) (text : ByteArray) : List Bool × Int := if samErr g ≠ 0 then ([], samErr g) else match fullF text with
 | none => ([], 4)
 | some t => (semF g 30 t [], 0)
theorem fHolds_ct (g : ApiGraph) (text : ByteArray)  : Ct 14 [.sv (.agg [I g.fLetters, I g.fPlaces, LS ApiArrow.ty g.fArrows]), .sv (.one (.v (.string text)))] [] (fun (_ : Unit) => True) (fun _ => .tup [.one (LS boolT (HoldsF g text).1), .one (I (HoldsF g text).2)]) := by
 refine (fHolds_walk g text (fun res_ => res_ = (HoldsF g text)) ?_).fun
 unfold fHolds_vc
 intro _
 refine ⟨fun h => ?_, fun h => fun r hr => ?_⟩
 ·show _ = HoldsF g text
  unfold HoldsF
  rw [if_pos (bne_iff_ne.1 h)]
 rw [bne_eq_false_iff_eq] at h
 have hg := samErr_ok h
 have e0 : HoldsF g text = match fullF text with | none => ([], 4) | some t => (semF g 30 t [], 0) := by
  unfold HoldsF
  rw [if_neg (fun hh => hh h)]
 rw [e0]
 rcases hr with ⟨_, h1, h2⟩ | ⟨t, h1, rfl⟩
 ·refine ⟨fun _ => by rw [h2], fun e => absurd ?_ h1⟩
  rwa [bne_eq_false_iff_eq] at e
 ·have hw := (fullF_some h1).2.1
  have hS : SOk g [] [] := ⟨rfl, fun s hs => by cases hs⟩
  refine ⟨fun e => (by cases e), fun _ => ⟨t, rfl, ⟨hg, [], hw, hS⟩, ?_, by rw [h1]⟩⟩
  rw [sem_len hw hS]
  have := hg.pl
  omega
end Go.Proofs.Ytiejmeedkhkfgaa
