/- Lemmas towards the statement: mirrors of functions, and plain laws. No condition. -/
import Derived.ArgAppend
import Derived.Test.YtiejmeedkhkfgaaPackTopSame4


namespace Go.Proofs.Ytiejmeedkhkfgaa
open Go.RowKit Go.MapKept
set_option linter.unusedSimpArgs false
set_option linter.unusedVariables false
set_option maxRecDepth 100000
def isNan_vc (x : Int) (Q : Bool → Prop) : Prop :=
 Q (x != x)
theorem isNan_walk (x : Int) (Q : Bool → Prop) (h : isNan_vc x Q) : Ct 133 [.sv (.one (I x))] [] Q (fun (r : Bool) => .sv (.one (B r))) := by
 have ht := tab_ok
 refine Ct.body Try.func133 rfl rfl rfl rfl (fun c hn => ?_)
 unfold isNan_vc at h
 refine En.seq ?_
 refine En.region ?_
 refine WL.run ht hn 1 ⟨[sl 0 (I x)], []⟩ (by kernel_rfl) ?_
 refine WL.nil ?_
 refine En.seq ?_
 refine En.region ?_
 refine WL.run ht hn 4 ⟨[sl 2 (B (x != x))], []⟩ (by kernel_rfl) ?_
 refine WL.nil ?_
 refine En.ret ?_
 exact En.back ht (x != x) h (by kernel_rfl) rfl
theorem en133 : ∀ args w, (callFunc 133 args).run Try.prog w = .ok (.enter 133 args) w := enters_of Try.func133 (by kernel_rfl) rfl
theorem isNan_ct (x : Int)  : Ct 133 [.sv (.one (I x))] [] (fun (_ : Unit) => True) (fun _ => .sv (.one (B (false)))) := by
 refine (isNan_walk x (fun res_ => res_ = (false)) ?_).fun
 unfold isNan_vc
 simp
def cmpC_vc (x : Int) (y : Int) (Q : Int → Prop) : Prop :=
 IfP (false) (IfP (false) (Q 0) (Q (-1))) (IfP (false) (Q 1) (IfP (decide (x < y)) (Q (-1)) (IfP (decide (x > y)) (Q 1) (Q 0))))
theorem cmpC_walk (x : Int) (y : Int) (Q : Int → Prop) (h : cmpC_vc x y Q) : Ct 94 [.sv (.one (I x)), .sv (.one (I y))] [] Q (fun (r : Int) => .sv (.one (I r))) := by
 have ht := tab_ok
 refine Ct.body Try.func94 rfl rfl rfl rfl (fun c hn => ?_)
 unfold cmpC_vc at h
 refine En.seq ?_
 refine En.region ?_
 refine WL.run ht hn 1 ⟨[sl 0 (I x), sl 1 (I y)], []⟩ (by kernel_rfl) ?_
 refine WL.nil ?_
 refine En.seq ?_
 refine En.region ?_
 refine WL.run ht hn 1 ⟨[sl 0 (I x), sl 1 (I y), sl 7 (I x)], []⟩ (by kernel_rfl) ?_
 refine WL.mt0 (K := []) (p := none) hn (by rfl) (mt_call (isNan_ct x) en133 (caps := []) [] rfl (by rfl) (by kernel_rfl) (by kernel_rfl) (by rfl) (by rfl) (by rfl)) (by rfl) (by rfl) (by rfl) ?_
 refine WL.run ht hn 1 ⟨[sl 0 (I x), sl 1 (I y), sl 5 (B (false))], []⟩ (by kernel_rfl) ?_
 refine WL.nil ?_
 refine En.seq ?_
 refine En.region ?_
 refine WL.run ht hn 1 ⟨[sl 0 (I x), sl 1 (I y), sl 5 (B (false)), sl 9 (I y)], []⟩ (by kernel_rfl) ?_
 refine WL.mt0 (K := []) (p := none) hn (by rfl) (mt_call (isNan_ct y) en133 (caps := []) [] rfl (by rfl) (by kernel_rfl) (by kernel_rfl) (by rfl) (by rfl) (by rfl)) (by rfl) (by rfl) (by rfl) ?_
 refine WL.run ht hn 1 ⟨[sl 0 (I x), sl 1 (I y), sl 5 (B (false)), sl 6 (B (false))], []⟩ (by kernel_rfl) ?_
 refine WL.nil ?_
 refine En.seq ?_
 refine En.seq ?_
 refine En.region ?_
 refine WL.run ht hn 1 ⟨[sl 0 (I x), sl 1 (I y), sl 6 (B (false)), sl 11 (B (false))], []⟩ (by kernel_rfl) ?_
 refine WL.nil ?_
 refine En.cond (b := (false)) (by kernel_rfl) (fun hb => ?_) (fun hb => ?_)
 replace h := h.1 hb
 refine En.seq ?_
 refine En.seq ?_
 refine En.region ?_
 refine WL.run ht hn 1 ⟨[sl 12 (B (false))], []⟩ (by kernel_rfl) ?_
 refine WL.nil ?_
 refine En.cond (b := (false)) (by kernel_rfl) (fun hb => ?_) (fun hb => ?_)
 replace h := h.1 hb
 refine En.seq ?_
 refine En.region ?_
 refine WL.run ht hn 1 ⟨[sl 4 (I 0)], []⟩ (by kernel_rfl) ?_
 refine WL.nil ?_
 refine En.ret ?_
 exact En.back ht 0 h (by kernel_rfl) rfl
 replace h := h.2 hb
 refine En.skip ?_
 refine En.seq ?_
 refine En.region ?_
 refine WL.run ht hn 1 ⟨[sl 4 (I (-1))], []⟩ (by kernel_rfl) ?_
 refine WL.nil ?_
 refine En.ret ?_
 exact En.back ht (-1) h (by kernel_rfl) rfl
 replace h := h.2 hb
 refine En.skip ?_
 refine En.seq ?_
 refine En.seq ?_
 refine En.region ?_
 refine WL.run ht hn 1 ⟨[sl 0 (I x), sl 1 (I y), sl 13 (B (false))], []⟩ (by kernel_rfl) ?_
 refine WL.nil ?_
 refine En.cond (b := (false)) (by kernel_rfl) (fun hb => ?_) (fun hb => ?_)
 replace h := h.1 hb
 refine En.seq ?_
 refine En.region ?_
 refine WL.run ht hn 1 ⟨[sl 4 (I 1)], []⟩ (by kernel_rfl) ?_
 refine WL.nil ?_
 refine En.ret ?_
 exact En.back ht 1 h (by kernel_rfl) rfl
 replace h := h.2 hb
 refine En.skip ?_
 refine En.seq ?_
 refine En.seq ?_
 refine En.region ?_
 refine WL.run ht hn 3 ⟨[sl 0 (I x), sl 1 (I y), sl 16 (B (decide (x < y)))], []⟩ (by kernel_rfl) ?_
 refine WL.nil ?_
 refine En.cond (b := (decide (x < y))) (by kernel_rfl) (fun hb => ?_) (fun hb => ?_)
 replace h := h.1 hb
 refine En.seq ?_
 refine En.region ?_
 refine WL.run ht hn 1 ⟨[sl 4 (I (-1))], []⟩ (by kernel_rfl) ?_
 refine WL.nil ?_
 refine En.ret ?_
 exact En.back ht (-1) h (by kernel_rfl) rfl
 replace h := h.2 hb
 refine En.skip ?_
 refine En.seq ?_
 refine En.seq ?_
 refine En.region ?_
 refine WL.run ht hn 3 ⟨[sl 19 (B (decide (x > y)))], []⟩ (by kernel_rfl) ?_
 refine WL.nil ?_
 refine En.cond (b := (decide (x > y))) (by kernel_rfl) (fun hb => ?_) (fun hb => ?_)
 replace h := h.1 hb
 refine En.seq ?_
 refine En.region ?_
 refine WL.run ht hn 1 ⟨[sl 4 (I 1)], []⟩ (by kernel_rfl) ?_
 refine WL.nil ?_
 refine En.ret ?_
 exact En.back ht 1 h (by kernel_rfl) rfl
 replace h := h.2 hb
 refine En.skip ?_
 refine En.seq ?_
 refine En.region ?_
 refine WL.run ht hn 1 ⟨[sl 4 (I 0)], []⟩ (by kernel_rfl) ?_
 refine WL.nil ?_
 refine En.ret ?_
 exact En.back ht 0 h (by kernel_rfl) rfl
theorem en94 : ∀ args w, (callFunc 94 args).run Try.prog w = .ok (.enter 94 args) w := enters_of Try.func94 (by kernel_rfl) rfl
def cmpI (x y : Int) : Int := if x < y then -1 else if x > y then 1 else 0
theorem cmpC_ct (x : Int) (y : Int)  : Ct 94 [.sv (.one (I x)), .sv (.one (I y))] [] (fun (_ : Unit) => True) (fun _ => .sv (.one (I (cmpI x y)))) := by
 refine (cmpC_walk x y (fun res_ => res_ = (cmpI x y)) ?_).fun
 unfold cmpC_vc cmpI
 refine ⟨fun h => Bool.noConfusion h, fun _ => ⟨fun h => Bool.noConfusion h, fun _ => ⟨fun h => ?_, fun h => ⟨fun h2 => ?_, fun h2 => ?_⟩⟩⟩⟩
 ·have h := of_decide_eq_true h; rw [if_pos h]
 ·have h := of_decide_eq_false h; have h2 := of_decide_eq_true h2; rw [if_neg h, if_pos h2]
 ·have h := of_decide_eq_false h; have h2 := of_decide_eq_false h2; rw [if_neg h, if_neg h2]
def cmpOr_vc (l : (List Int)) (Q : Int → Prop) : Prop :=
 l.length ≤ 9223372036854775807 →
 (∃ (Inv : Int → Prop) (mu : Int → Nat), Inv 0 ∧
 ∀ (x8 : Int) , Inv x8 → (IfP (decide (x8 < (l.length : Int))) (∃ e, idx l x8 = some e ∧
 IfP (e != 0) (Q e) ((Inv (wr (x8 + 1)) ∧ mu (wr (x8 + 1)) < mu x8))) (Q 0)))
theorem cmpOr_walk (l : (List Int)) (Q : Int → Prop) (h : cmpOr_vc l Q) : Ct 93 [.sv (.one (LS intT l))] [] Q (fun (r : Int) => .sv (.one (I r))) := by
 have ht := tab_ok
 refine Ct.body Try.func93 rfl rfl rfl rfl (fun c hn => ?_)
 unfold cmpOr_vc at h
 refine En.lenL 0 (by rfl) (fun hl => ?_)
 replace h := h hl
 clear hl
 refine En.seq ?_
 refine En.region ?_
 refine WL.run ht hn 1 ⟨[sl 0 (LS intT l)], []⟩ (by kernel_rfl) ?_
 refine WL.nil ?_
 refine En.seq ?_
 refine En.region ?_
 refine WL.run ht hn 1 ⟨[sl 0 (LS intT l), sl 3 (I 0)], []⟩ (by kernel_rfl) ?_
 refine WL.nil ?_
 refine En.seq ?_
 refine En.seq ?_
 refine En.region ?_
 refine WL.run ht hn 3 ⟨[sl 3 (I 0), sl 6 (LS intT l), sl 7 (I (l.length : Int)), sl 8 (I 0)], []⟩ (by kernel_rfl) ?_
 refine WL.nil ?_
 refine En.block ?_
 obtain ⟨Inv, mu, h0, hI⟩ := h
 refine En.loop (σ := Int) (fun zz => Inv zz) (fun zz => mu zz) (fun zz => ⟨[sl 3 (I 0), sl 6 (LS intT l), sl 7 (I (l.length : Int)), sl 8 (I zz)], []⟩) 0 h0 (sub_ok (by kernel_rfl)) ?_
 intro x8 h
 replace h := hI _ h
 show En c ⟨[sl 3 (I 0), sl 6 (LS intT l), sl 7 (I (l.length : Int)), sl 8 (I x8)], []⟩ _
 refine En.seq ?_
 refine En.region ?_
 refine WL.run ht hn 1 ⟨[sl 3 (I 0), sl 6 (LS intT l), sl 7 (I (l.length : Int)), sl 8 (I x8), sl 9 (B (decide (x8 < (l.length : Int))))], []⟩ (by kernel_rfl) ?_
 refine WL.nil ?_
 refine En.seq ?_
 refine En.cond (b := (decide (x8 < (l.length : Int)))) (by kernel_rfl) (fun hb => ?_) (fun hb => ?_)
 replace h := h.1 hb
 refine En.skip ?_
 refine En.seq ?_
 refine En.block ?_
 refine En.seq ?_
 refine En.region ?_
 obtain ⟨e, he, h⟩ := h
 refine WL.val hn (by rfl) (val_index (T := intT) (l := l) (i := x8) ht rfl (by rfl) (by rfl) (by rfl) (by rfl) (by rfl) (by rfl) he) (by rfl) ?_
 refine WL.val hn (by rfl) (val_load (s := .one (I e)) ht rfl (by rfl) (by rfl) (by rfl) (by rfl) (by rfl)) (by rfl) ?_
 refine WL.run ht hn 1 ⟨[sl 3 (I 0), sl 5 (I e), sl 6 (LS intT l), sl 7 (I (l.length : Int)), sl 8 (I x8)], []⟩ (by kernel_rfl) ?_
 refine WL.nil ?_
 refine En.seq ?_
 refine En.region ?_
 refine WL.run ht hn 3 ⟨[sl 3 (I 0), sl 5 (I e), sl 6 (LS intT l), sl 7 (I (l.length : Int)), sl 8 (I x8), sl 14 (B (e != 0))], []⟩ (by kernel_rfl) ?_
 refine WL.nil ?_
 refine En.cond (b := (e != 0)) (by kernel_rfl) (fun hb => ?_) (fun hb => ?_)
 replace h := h.1 hb
 refine En.seq ?_
 refine En.region ?_
 refine WL.run ht hn 2 ⟨[sl 2 (I e)], []⟩ (by kernel_rfl) ?_
 refine WL.nil ?_
 refine En.ret ?_
 exact En.back ht e h (by kernel_rfl) rfl
 replace h := h.2 hb
 refine En.skip ?_
 refine En.region ?_
 refine WL.run ht hn 2 ⟨[sl 3 (I 0), sl 6 (LS intT l), sl 7 (I (l.length : Int)), sl 8 (I (wr (x8 + 1)))], []⟩ (by kernel_rfl) ?_
 refine WL.nil ?_
 exact En.at (I := fun zz => Inv zz ∧ mu zz < mu x8) (T := fun zz => ⟨[sl 3 (I 0), sl 6 (LS intT l), sl 7 (I (l.length : Int)), sl 8 (I zz)], []⟩) (wr (x8 + 1)) h (by kernel_rfl)
 replace h := h.2 hb
 refine En.exit rfl ?_
 refine En.seq ?_
 refine En.region ?_
 refine WL.run ht hn 2 ⟨[sl 2 (I 0)], []⟩ (by kernel_rfl) ?_
 refine WL.nil ?_
 refine En.ret ?_
 exact En.back ht 0 h (by kernel_rfl) rfl
theorem en93 : ∀ args w, (callFunc 93 args).run Try.prog w = .ok (.enter 93 args) w := enters_of Try.func93 (by kernel_rfl) rfl
def firstNZ : List Int → Int
 | [] => 0
 | x :: l => if x != 0 then x else firstNZ l
theorem firstNZ_drop {l : List Int} {k : Nat} (h : k < l.length) : firstNZ (l.drop k) = if l[k] != 0 then l[k] else firstNZ (l.drop (k + 1)) := by
 rw [List.drop_eq_getElem_cons h, firstNZ]
theorem cmpOr_ct (l : (List Int))  : Ct 93 [.sv (.one (LS intT l))] [] (fun (_ : Unit) => True) (fun _ => .sv (.one (I (firstNZ l)))) := by
 refine (cmpOr_walk l (fun res_ => res_ = (firstNZ l)) ?_).fun
 unfold cmpOr_vc
 intro _
 refine ⟨fun i => ∃ k : Nat, i = k ∧ k ≤ l.length ∧ firstNZ (l.drop k) = firstNZ l, fun i => l.length - i.toNat, ⟨0, rfl, Nat.zero_le _, rfl⟩, ?_⟩
 rintro i ⟨k, rfl, hk, he⟩
 refine ⟨fun hb => ?_, fun hb => ?_⟩
 ·have hlt := dlt hb
  rw [firstNZ_drop hlt] at he
  refine ⟨_, idx_at hlt, fun h => ?_, fun h => ⟨⟨k + 1, wsucc (by omega), hlt, ?_⟩, mu_up hlt (by omega)⟩⟩
  ·rw [if_pos h] at he
   exact he
  ·rw [if_neg (by rw [h]; decide)] at he
   exact he
 ·rw [List.drop_eq_nil_of_le (dge hb)] at he
  exact he
def samOrd_vc (x : ApiArrow) (y : ApiArrow) (Q : Int → Prop) : Prop :=
 Q (firstNZ ([(cmpI x.fFrom y.fFrom), (cmpI x.fLetter y.fLetter), (cmpI x.fTo y.fTo)] : (List Int)))
noncomputable abbrev qsamOrd0 (x : ApiArrow) (y : ApiArrow) := (firstNZ ([(cmpI x.fFrom y.fFrom), (cmpI x.fLetter y.fLetter), (cmpI x.fTo y.fTo)] : (List Int)))
theorem samOrd_walk (x : ApiArrow) (y : ApiArrow) (Q : Int → Prop) (h : samOrd_vc x y Q) : Ct 45 [.sv (.agg [I x.fFrom, I x.fLetter, I x.fTo]), .sv (.agg [I y.fFrom, I y.fLetter, I y.fTo])] [] Q (fun (r : Int) => .sv (.one (I r))) := by
 have ht := tab_ok
 refine Ct.body Try.func45 rfl rfl rfl rfl (fun c hn => ?_)
 unfold samOrd_vc at h
 refine En.seq ?_
 refine En.region ?_
 refine WL.run ht hn 3 ⟨[sl 2 (.ptr 0 0), sl 3 (.ptr 1 0)], [.box (ApiArrow.cl x) 26 false, .box (ApiArrow.cl y) 26 false]⟩ (by kernel_rfl) ?_
 refine WL.nil ?_
 refine En.seq ?_
 refine En.regionA ⟨[sl 2 (.ptr 0 0), sl 3 (.ptr 1 0)], [.sv (.one (.ptr 0 0)), .sv (.one (I x.fFrom)), .sv (.one (.ptr 1 0)), .sv (.one (I y.fFrom)), .sv (.one (I (cmpI x.fFrom y.fFrom))), .sv (.one (.ptr 0 1)), .sv (.one (I x.fLetter)), .sv (.one (.ptr 1 1)), .sv (.one (I y.fLetter)), .sv (.one (I (cmpI x.fLetter y.fLetter))), .sv (.one (.ptr 0 2)), .sv (.one (I x.fTo)), .sv (.one (.ptr 1 2)), .sv (.one (I y.fTo)), .sv (.one (I (cmpI x.fTo y.fTo))), .sv (.one (.own 2)), .sv (.one (I (qsamOrd0 x y))), .sv (.one (I (qsamOrd0 x y)))], [⟨.box (ApiArrow.cl x) 26 false, none, none, none⟩, ⟨.box (ApiArrow.cl y) 26 false, none, none, none⟩, ⟨rowI 3 intT ([(cmpI x.fFrom y.fFrom), (cmpI x.fLetter y.fLetter), (cmpI x.fTo y.fTo)] : (List Int)), some 15, none, none⟩]⟩ ⟨[sl 4 (I (qsamOrd0 x y))], [.gone, .gone, .gone]⟩ (by kernel_rfl) hn (by kernel_rfl) (by rfl) (by kernel_rfl) ?_ (by kernel_rfl) ?_
 ·exact ⟨.mt ⟨[sl 2 (.ptr 0 0)], []⟩ [] none (by kernel_rfl) (by rfl) (mt_ev ht (by kernel_rfl)) rfl rfl rfl rfl,
  .mt ⟨[sl 5 (.ptr 0 0)], [.box (ApiArrow.cl x) 26 false]⟩ [] none (by kernel_rfl) (by rfl) (mt_ev ht (by kernel_rfl)) rfl rfl rfl rfl,
  .mt ⟨[sl 3 (.ptr 1 0)], []⟩ [] none (by kernel_rfl) (by rfl) (mt_ev ht (by kernel_rfl)) rfl rfl rfl rfl,
  .mt ⟨[sl 7 (.ptr 1 0)], [.gone, .box (ApiArrow.cl y) 26 false]⟩ [] none (by kernel_rfl) (by rfl) (mt_ev ht (by kernel_rfl)) rfl rfl rfl rfl,
  .mt ⟨[sl 6 (I x.fFrom), sl 8 (I y.fFrom)], []⟩ [] none (by kernel_rfl) (by rfl) (mt_call (cmpC_ct x.fFrom y.fFrom) en94 (caps := []) [] rfl (by rfl) (by kernel_rfl) (by kernel_rfl) (by rfl) (by rfl) (by rfl)) rfl rfl rfl rfl,
  .mt ⟨[sl 2 (.ptr 0 0)], []⟩ [] none (by kernel_rfl) (by rfl) (mt_ev ht (by kernel_rfl)) rfl rfl rfl rfl,
  .mt ⟨[sl 10 (.ptr 0 1)], [.box (ApiArrow.cl x) 26 false]⟩ [] none (by kernel_rfl) (by rfl) (mt_ev ht (by kernel_rfl)) rfl rfl rfl rfl,
  .mt ⟨[sl 3 (.ptr 1 0)], []⟩ [] none (by kernel_rfl) (by rfl) (mt_ev ht (by kernel_rfl)) rfl rfl rfl rfl,
  .mt ⟨[sl 12 (.ptr 1 1)], [.gone, .box (ApiArrow.cl y) 26 false]⟩ [] none (by kernel_rfl) (by rfl) (mt_ev ht (by kernel_rfl)) rfl rfl rfl rfl,
  .mt ⟨[sl 11 (I x.fLetter), sl 13 (I y.fLetter)], []⟩ [] none (by kernel_rfl) (by rfl) (mt_call (cmpC_ct x.fLetter y.fLetter) en94 (caps := []) [] rfl (by rfl) (by kernel_rfl) (by kernel_rfl) (by rfl) (by rfl) (by rfl)) rfl rfl rfl rfl,
  .mt ⟨[sl 2 (.ptr 0 0)], []⟩ [] none (by kernel_rfl) (by rfl) (mt_ev ht (by kernel_rfl)) rfl rfl rfl rfl,
  .mt ⟨[sl 15 (.ptr 0 2)], [.box (ApiArrow.cl x) 26 false]⟩ [] none (by kernel_rfl) (by rfl) (mt_ev ht (by kernel_rfl)) rfl rfl rfl rfl,
  .mt ⟨[sl 3 (.ptr 1 0)], []⟩ [] none (by kernel_rfl) (by rfl) (mt_ev ht (by kernel_rfl)) rfl rfl rfl rfl,
  .mt ⟨[sl 17 (.ptr 1 2)], [.gone, .box (ApiArrow.cl y) 26 false]⟩ [] none (by kernel_rfl) (by rfl) (mt_ev ht (by kernel_rfl)) rfl rfl rfl rfl,
  .mt ⟨[sl 16 (I x.fTo), sl 18 (I y.fTo)], []⟩ [] none (by kernel_rfl) (by rfl) (mt_call (cmpC_ct x.fTo y.fTo) en94 (caps := []) [] rfl (by rfl) (by kernel_rfl) (by kernel_rfl) (by rfl) (by rfl) (by rfl)) rfl rfl rfl rfl,
  .mt ⟨[sl 9 (I (cmpI x.fFrom y.fFrom)), sl 14 (I (cmpI x.fLetter y.fLetter)), sl 19 (I (cmpI x.fTo y.fTo))], []⟩ [] (some 2) (by kernel_rfl) (by rfl) (mt_lit (T := intT) ([(cmpI x.fFrom y.fFrom), (cmpI x.fLetter y.fLetter), (cmpI x.fTo y.fTo)] : (List Int)) (mt_bsl 2 (r := cellsOf intT ([(cmpI x.fFrom y.fFrom), (cmpI x.fLetter y.fLetter), (cmpI x.fTo y.fTo)] : (List Int))) ht rfl (by rfl) (by rfl) (by rfl) (by kernel_rfl) (by rfl)) (fun _ h => by cases h) (fun _ => rfl) (fun _ => rfl) (by rfl) (Nat.le_of_ble_eq_true rfl)) rfl rfl rfl rfl,
  .mt ⟨[sl 20 (.own 2)], [.gone, .gone, rowI 3 intT ([(cmpI x.fFrom y.fFrom), (cmpI x.fLetter y.fLetter), (cmpI x.fTo y.fTo)] : (List Int))]⟩ [] none (by kernel_rfl) (by rfl) (mt_lend (T := intT) (l := ([(cmpI x.fFrom y.fFrom), (cmpI x.fLetter y.fLetter), (cmpI x.fTo y.fTo)] : (List Int))) 2 (by rfl) (by rfl) (mt_call (cmpOr_ct ([(cmpI x.fFrom y.fFrom), (cmpI x.fLetter y.fLetter), (cmpI x.fTo y.fTo)] : (List Int))) en93 (caps := []) [] rfl (by rfl) (by kernel_rfl) (by kernel_rfl) (by rfl) (by rfl) (by rfl))) rfl rfl rfl rfl,
  .mt ⟨[sl 21 (I (qsamOrd0 x y))], []⟩ [] none (by kernel_rfl) (by rfl) (mt_ev ht (by kernel_rfl)) rfl rfl rfl rfl,
  trivial⟩
 ·refine En.ret ?_
  exact En.back ht (qsamOrd0 x y) h (by kernel_rfl) rfl
theorem en45 : ∀ args w, (callFunc 45 args).run Try.prog w = .ok (.enter 45 args) w := enters_of Try.func45 (by kernel_rfl) rfl
def ordA (x y : ApiArrow) : Int := firstNZ [cmpI x.fFrom y.fFrom, cmpI x.fLetter y.fLetter, cmpI x.fTo y.fTo]
theorem samOrd_ct (x : ApiArrow) (y : ApiArrow)  : Ct 45 [.sv (.agg [I x.fFrom, I x.fLetter, I x.fTo]), .sv (.agg [I y.fFrom, I y.fLetter, I y.fTo])] [] (fun (_ : Unit) => True) (fun _ => .sv (.one (I (ordA x y)))) := by
 refine (samOrd_walk x y (fun res_ => res_ = (ordA x y)) ?_).fun
 unfold samOrd_vc
 rfl
def samC1_vc (p : Int) (g : ApiGraph) (Q : Bool → Prop) : Prop :=
 Q ((decide (p < 0)) || (decide (p ≥ g.fPlaces)))
theorem samC1_walk (p : Int) (g : ApiGraph) (Q : Bool → Prop) (h : samC1_vc p g Q) : Ct 42 [.sv (.one (I p)), .sv (.one (.ptr 0 0))] [.box [I g.fLetters, I g.fPlaces, LS ApiArrow.ty g.fArrows] 24 true] Q (fun (r : Bool) => .sv (.one (B r))) := by
 have ht := tab_ok
 refine Ct.body Try.func42 rfl rfl rfl rfl (fun c hn => ?_)
 unfold samC1_vc at h
 refine En.seq ?_
 refine En.region ?_
 refine WL.run ht hn 1 ⟨[sl 0 (I p), sl 1 (.ptr 0 0)], [.box (ApiGraph.cl g) 24 true]⟩ (by kernel_rfl) ?_
 refine WL.nil ?_
 refine En.seq ?_
 refine En.region ?_
 refine WL.run ht hn 3 ⟨[sl 0 (I p), sl 1 (.ptr 0 0), sl 6 (B (decide (p < 0)))], [.box (ApiGraph.cl g) 24 true]⟩ (by kernel_rfl) ?_
 refine WL.thru ⟨[sl 3 (B ((decide (p < 0)) || (decide (p ≥ g.fPlaces))))], [.gone]⟩ ?_ ?_
 refine splitB (decide (p < 0)) (fun hb0 => ?_) (fun hb0 => ?_)
 refine WL.setB 6 hb0 (by kernel_rfl) ?_
 refine WL.run ht hn 6 ⟨[sl 3 (B true)], [.gone]⟩ (by kernel_rfl) ?_
 exact WL.nil (sub_ok (by simp only [hb0]; kernel_rfl))
 refine WL.setB 6 hb0 (by kernel_rfl) ?_
 refine WL.run ht hn 6 ⟨[sl 3 (B (decide (p ≥ g.fPlaces)))], [.gone]⟩ (by kernel_rfl) ?_
 exact WL.nil (sub_ok (by simp only [hb0]; kernel_rfl))
 refine En.ret ?_
 exact En.back ht ((decide (p < 0)) || (decide (p ≥ g.fPlaces))) h (by kernel_rfl) rfl
theorem en42 : ∀ args w, (callFunc 42 args).run Try.prog w = .ok (.enter 42 args) w := enters_of Try.func42 (by kernel_rfl) rfl
theorem samC1_ct (p : Int) (g : ApiGraph)  : Ct 42 [.sv (.one (I p)), .sv (.one (.ptr 0 0))] [.box [I g.fLetters, I g.fPlaces, LS ApiArrow.ty g.fArrows] 24 true] (fun (_ : Unit) => True) (fun _ => .sv (.one (B ((decide (p < 0)) || (decide (p ≥ g.fPlaces)))))) := by
 refine (samC1_walk p g (fun res_ => res_ = ((decide (p < 0)) || (decide (p ≥ g.fPlaces)))) ?_).fun
 unfold samC1_vc
 rfl
def offG (g : ApiGraph) (p : Int) : Bool := (decide (p < 0)) || (decide (p ≥ g.fPlaces))
def samC2_vc (x : ApiArrow) (domno : (Int → Prop)) (no : (Int → Bool)) (g : ApiGraph) (Q : Bool → Prop) : Prop :=
 ∃ J : Bool → Prop, ((domno x.fFrom) ∧
 IfP (no x.fFrom) (J true) ((domno x.fTo) ∧
 J (((no x.fTo) || (decide (x.fLetter < 0))) || (decide (x.fLetter ≥ g.fLetters))))) ∧
 (∀ (x4 : Bool), J x4 → Q x4)
theorem samC2_walk (x : ApiArrow) (domno : (Int → Prop)) (no : (Int → Bool)) (g : ApiGraph) (Q : Bool → Prop) (h : samC2_vc x domno no g Q) : Ct 44 [.sv (.agg [I x.fFrom, I x.fLetter, I x.fTo]), .sv (.one (.ptr 0 0)), .sv (.one (.ptr 1 0))] [.box [.rd (fvR (fun (x : Int) => [.sv (.one (I x))]) (fun (r : Bool) => .sv (.one (B r))) domno no)] 103 true, .box [I g.fLetters, I g.fPlaces, LS ApiArrow.ty g.fArrows] 24 true] Q (fun (r : Bool) => .sv (.one (B r))) := by
 have ht := tab_ok
 refine Ct.body Try.func44 rfl rfl rfl rfl (fun c hn => ?_)
 unfold samC2_vc at h
 refine En.seq ?_
 refine En.region ?_
 refine WL.run ht hn 2 ⟨[sl 1 (.ptr 0 0), sl 2 (.ptr 1 0), sl 3 (.ptr 2 0)], [.box [.rd (fvR (fun (x : Int) => [.sv (.one (I x))]) (fun (r : Bool) => .sv (.one (B r))) domno no)] 103 true, .box (ApiGraph.cl g) 24 true, .box (ApiArrow.cl x) 26 false]⟩ (by kernel_rfl) ?_
 refine WL.nil ?_
 obtain ⟨J, h, hJ⟩ := h
 refine En.seqJ (σ := Bool) (fun zz => J zz) (fun zz => ⟨[sl 4 (B zz)], [.gone, .gone, .gone]⟩) ?_ ?_
 refine En.region ?_
 refine WL.run ht hn 3 ⟨[sl 1 (.ptr 0 0), sl 2 (.ptr 1 0), sl 3 (.ptr 2 0), sl 5 (.rd (fvR (fun (x : Int) => [.sv (.one (I x))]) (fun (r : Bool) => .sv (.one (B r))) domno no)), sl 7 (I x.fFrom)], [.box [.rd (fvR (fun (x : Int) => [.sv (.one (I x))]) (fun (r : Bool) => .sv (.one (B r))) domno no)] 103 true, .box (ApiGraph.cl g) 24 true, .box (ApiArrow.cl x) 26 false]⟩ (by kernel_rfl) ?_
 have hp := h.1
 replace h := h.2
 refine WL.mt0 (K := []) (p := none) hn (by rfl) (mt_callv x.fFrom hp rfl (by rfl) (by rfl) (by rfl) (by rfl)) (by rfl) (by rfl) (by rfl) ?_
 refine WL.run ht hn 1 ⟨[sl 1 (.ptr 0 0), sl 2 (.ptr 1 0), sl 3 (.ptr 2 0), sl 9 (B (no x.fFrom))], [.box [.rd (fvR (fun (x : Int) => [.sv (.one (I x))]) (fun (r : Bool) => .sv (.one (B r))) domno no)] 103 true, .box (ApiGraph.cl g) 24 true, .box (ApiArrow.cl x) 26 false]⟩ (by kernel_rfl) ?_
 refine splitB (no x.fFrom) (fun hb => ?_) (fun hb => ?_)
 replace h := h.1 hb
 refine WL.setB 9 hb (by kernel_rfl) ?_
 refine WL.run ht hn 18 ⟨[sl 4 (B true)], [.gone, .gone, .gone]⟩ (by kernel_rfl) ?_
 refine WL.nil ?_
 exact En.at (I := fun zz => J zz) (T := fun zz => ⟨[sl 4 (B zz)], [.gone, .gone, .gone]⟩) true h (by kernel_rfl)
 replace h := h.2 hb
 refine WL.setB 9 hb (by kernel_rfl) ?_
 refine WL.run ht hn 3 ⟨[sl 2 (.ptr 1 0), sl 3 (.ptr 2 0), sl 9 (B false), sl 10 (.rd (fvR (fun (x : Int) => [.sv (.one (I x))]) (fun (r : Bool) => .sv (.one (B r))) domno no)), sl 12 (I x.fTo)], [.gone, .box (ApiGraph.cl g) 24 true, .box (ApiArrow.cl x) 26 false]⟩ (by kernel_rfl) ?_
 have hp := h.1
 replace h := h.2
 refine WL.mt0 (K := []) (p := none) hn (by rfl) (mt_callv x.fTo hp rfl (by rfl) (by rfl) (by rfl) (by rfl)) (by rfl) (by rfl) (by rfl) ?_
 refine WL.run ht hn 2 ⟨[sl 2 (.ptr 1 0), sl 3 (.ptr 2 0), sl 15 (B (no x.fTo))], [.gone, .box (ApiGraph.cl g) 24 true, .box (ApiArrow.cl x) 26 false]⟩ (by kernel_rfl) ?_
 refine WL.thru ⟨[sl 4 (B (((no x.fTo) || (decide (x.fLetter < 0))) || (decide (x.fLetter ≥ g.fLetters))))], [.gone, .gone, .gone]⟩ ?_ ?_
 refine splitB (no x.fTo) (fun hb0 => ?_) (fun hb0 => ?_)
 refine WL.setB 15 hb0 (by kernel_rfl) ?_
 refine WL.run ht hn 12 ⟨[sl 4 (B true)], [.gone, .gone, .gone]⟩ (by kernel_rfl) ?_
 exact WL.nil (sub_ok (by simp only [hb0]; kernel_rfl))
 refine WL.setB 15 hb0 (by kernel_rfl) ?_
 refine WL.run ht hn 5 ⟨[sl 2 (.ptr 1 0), sl 3 (.ptr 2 0), sl 20 (B (decide (x.fLetter < 0)))], [.gone, .box (ApiGraph.cl g) 24 true, .box (ApiArrow.cl x) 26 false]⟩ (by kernel_rfl) ?_
 refine splitB (decide (x.fLetter < 0)) (fun hb1 => ?_) (fun hb1 => ?_)
 refine WL.setB 20 hb1 (by kernel_rfl) ?_
 refine WL.run ht hn 7 ⟨[sl 4 (B true)], [.gone, .gone, .gone]⟩ (by kernel_rfl) ?_
 exact WL.nil (sub_ok (by simp only [hb0, hb1]; kernel_rfl))
 refine WL.setB 20 hb1 (by kernel_rfl) ?_
 refine WL.run ht hn 7 ⟨[sl 4 (B (decide (x.fLetter ≥ g.fLetters)))], [.gone, .gone, .gone]⟩ (by kernel_rfl) ?_
 exact WL.nil (sub_ok (by simp only [hb0, hb1]; kernel_rfl))
 exact En.at (I := fun zz => J zz) (T := fun zz => ⟨[sl 4 (B zz)], [.gone, .gone, .gone]⟩) (((no x.fTo) || (decide (x.fLetter < 0))) || (decide (x.fLetter ≥ g.fLetters))) h (by kernel_rfl)
 intro x4 h
 replace h := hJ _ h
 show En c ⟨[sl 4 (B x4)], [.gone, .gone, .gone]⟩ _
 refine En.ret ?_
 exact En.back ht x4 h (by kernel_rfl) rfl
theorem en44 : ∀ args w, (callFunc 44 args).run Try.prog w = .ok (.enter 44 args) w := enters_of Try.func44 (by kernel_rfl) rfl
def offA (no : Int → Bool) (g : ApiGraph) (x : ApiArrow) : Bool := no x.fFrom || ((no x.fTo || (decide (x.fLetter < 0))) || (decide (x.fLetter ≥ g.fLetters)))
theorem samC2_ct (x : ApiArrow) (domno : (Int → Prop)) (no : (Int → Bool)) (g : ApiGraph) (hp : domno x.fFrom ∧ domno x.fTo)  : Ct 44 [.sv (.agg [I x.fFrom, I x.fLetter, I x.fTo]), .sv (.one (.ptr 0 0)), .sv (.one (.ptr 1 0))] [.box [.rd (fvR (fun (x : Int) => [.sv (.one (I x))]) (fun (r : Bool) => .sv (.one (B r))) domno no)] 103 true, .box [I g.fLetters, I g.fPlaces, LS ApiArrow.ty g.fArrows] 24 true] (fun (_ : Unit) => True) (fun _ => .sv (.one (B (offA no g x)))) := by
 refine (samC2_walk x domno no g (fun res_ => res_ = (offA no g x)) ?_).fun
 unfold samC2_vc
 refine ⟨fun b => b = offA no g x, ⟨hp.1, fun h => ?_, fun h => ⟨hp.2, ?_⟩⟩, fun _ h => h⟩
 ·show true = _
  unfold offA
  rw [h]
  rfl
 ·show _ = _
  unfold offA
  rw [h]
  rfl
def indexApiArrow_vc (l : (List ApiArrow)) (dom : (ApiArrow → Prop)) (φ : (ApiArrow → Bool)) (Q : Int → Prop) : Prop :=
 l.length ≤ 9223372036854775807 →
 (∃ (Inv : Int → Prop) (mu : Int → Nat), Inv 0 ∧
 ∀ (x8 : Int) , Inv x8 → (IfP (decide (x8 < (l.length : Int))) (∃ e, idx l x8 = some e ∧
 (dom e) ∧
 IfP (φ e) (Q x8) ((Inv (wr (x8 + 1)) ∧ mu (wr (x8 + 1)) < mu x8))) (Q (-1))))
theorem indexApiArrow_walk (l : (List ApiArrow)) (dom : (ApiArrow → Prop)) (φ : (ApiArrow → Bool)) (Q : Int → Prop) (h : indexApiArrow_vc l dom φ Q) : Ct 92 [.sv (.one (LS ApiArrow.ty l)), .sv (.one (.rd (fvR (fun x => [.sv (.agg [I x.fFrom, I x.fLetter, I x.fTo])]) (fun b => .sv (.one (B b))) dom φ)))] [] Q (fun (r : Int) => .sv (.one (I r))) := by
 have ht := tab_ok
 refine Ct.body Try.func92 rfl rfl rfl rfl (fun c hn => ?_)
 unfold indexApiArrow_vc at h
 refine En.lenL 0 (by rfl) (fun hl => ?_)
 replace h := h hl
 clear hl
 refine En.seq ?_
 refine En.region ?_
 refine WL.run ht hn 1 ⟨[sl 0 (LS ApiArrow.ty l), sl 1 (.rd (fvR (fun x => [.sv (.agg (ApiArrow.cl x))]) (fun b => .sv (.one (B b))) dom φ))], []⟩ (by kernel_rfl) ?_
 refine WL.nil ?_
 refine En.seq ?_
 refine En.seq ?_
 refine En.region ?_
 refine WL.run ht hn 3 ⟨[sl 0 (LS ApiArrow.ty l), sl 1 (.rd (fvR (fun x => [.sv (.agg (ApiArrow.cl x))]) (fun b => .sv (.one (B b))) dom φ)), sl 7 (I (l.length : Int)), sl 8 (I 0)], []⟩ (by kernel_rfl) ?_
 refine WL.nil ?_
 refine En.block ?_
 obtain ⟨Inv, mu, h0, hI⟩ := h
 refine En.loop (σ := Int) (fun zz => Inv zz) (fun zz => mu zz) (fun zz => ⟨[sl 0 (LS ApiArrow.ty l), sl 1 (.rd (fvR (fun x => [.sv (.agg (ApiArrow.cl x))]) (fun b => .sv (.one (B b))) dom φ)), sl 7 (I (l.length : Int)), sl 8 (I zz)], []⟩) 0 h0 (sub_ok (by kernel_rfl)) ?_
 intro x8 h
 replace h := hI _ h
 show En c ⟨[sl 0 (LS ApiArrow.ty l), sl 1 (.rd (fvR (fun x => [.sv (.agg (ApiArrow.cl x))]) (fun b => .sv (.one (B b))) dom φ)), sl 7 (I (l.length : Int)), sl 8 (I x8)], []⟩ _
 refine En.seq ?_
 refine En.region ?_
 refine WL.run ht hn 1 ⟨[sl 0 (LS ApiArrow.ty l), sl 1 (.rd (fvR (fun x => [.sv (.agg (ApiArrow.cl x))]) (fun b => .sv (.one (B b))) dom φ)), sl 7 (I (l.length : Int)), sl 8 (I x8), sl 9 (B (decide (x8 < (l.length : Int))))], []⟩ (by kernel_rfl) ?_
 refine WL.nil ?_
 refine En.seq ?_
 refine En.cond (b := (decide (x8 < (l.length : Int)))) (by kernel_rfl) (fun hb => ?_) (fun hb => ?_)
 replace h := h.1 hb
 refine En.skip ?_
 refine En.seq ?_
 refine En.block ?_
 refine En.seq ?_
 refine En.region ?_
 refine WL.run ht hn 2 ⟨[sl 0 (LS ApiArrow.ty l), sl 1 (.rd (fvR (fun x => [.sv (.agg (ApiArrow.cl x))]) (fun b => .sv (.one (B b))) dom φ)), sl 5 (I x8), sl 7 (I (l.length : Int)), sl 8 (I x8)], []⟩ (by kernel_rfl) ?_
 refine WL.nil ?_
 refine En.seq ?_
 refine En.region ?_
 refine WL.run ht hn 3 ⟨[sl 0 (LS ApiArrow.ty l), sl 1 (.rd (fvR (fun x => [.sv (.agg (ApiArrow.cl x))]) (fun b => .sv (.one (B b))) dom φ)), sl 5 (I x8), sl 7 (I (l.length : Int)), sl 8 (I x8), sl 11 (.rd (fvR (fun x => [.sv (.agg (ApiArrow.cl x))]) (fun b => .sv (.one (B b))) dom φ)), sl 12 (LS ApiArrow.ty l), sl 13 (I x8)], []⟩ (by kernel_rfl) ?_
 obtain ⟨e, he, h⟩ := h
 refine WL.val hn (by rfl) (val_index (T := ApiArrow.ty) (l := l) (i := x8) ht rfl (by rfl) (by rfl) (by rfl) (by rfl) (by rfl) (by rfl) he) (by rfl) ?_
 refine WL.val hn (by rfl) (val_load (s := .agg (ApiArrow.cl e)) ht rfl (by rfl) (by rfl) (by rfl) (by rfl) (by rfl)) (by rfl) ?_
 have hp := h.1
 replace h := h.2
 refine WL.mt0 (K := []) (p := none) hn (by rfl) (mt_callv e hp rfl (by rfl) (by rfl) (by rfl) (by rfl)) (by rfl) (by rfl) (by rfl) ?_
 refine WL.nil ?_
 refine En.cond (b := (φ e)) (by kernel_rfl) (fun hb => ?_) (fun hb => ?_)
 replace h := h.1 hb
 refine En.seq ?_
 refine En.region ?_
 refine WL.run ht hn 2 ⟨[sl 4 (I x8)], []⟩ (by kernel_rfl) ?_
 refine WL.nil ?_
 refine En.ret ?_
 exact En.back ht x8 h (by kernel_rfl) rfl
 replace h := h.2 hb
 refine En.skip ?_
 refine En.region ?_
 refine WL.run ht hn 2 ⟨[sl 0 (LS ApiArrow.ty l), sl 1 (.rd (fvR (fun x => [.sv (.agg (ApiArrow.cl x))]) (fun b => .sv (.one (B b))) dom φ)), sl 7 (I (l.length : Int)), sl 8 (I (wr (x8 + 1)))], []⟩ (by kernel_rfl) ?_
 refine WL.nil ?_
 exact En.at (I := fun zz => Inv zz ∧ mu zz < mu x8) (T := fun zz => ⟨[sl 0 (LS ApiArrow.ty l), sl 1 (.rd (fvR (fun x => [.sv (.agg (ApiArrow.cl x))]) (fun b => .sv (.one (B b))) dom φ)), sl 7 (I (l.length : Int)), sl 8 (I zz)], []⟩) (wr (x8 + 1)) h (by kernel_rfl)
 replace h := h.2 hb
 refine En.exit rfl ?_
 refine En.seq ?_
 refine En.region ?_
 refine WL.run ht hn 1 ⟨[sl 4 (I (-1))], []⟩ (by kernel_rfl) ?_
 refine WL.nil ?_
 refine En.ret ?_
 exact En.back ht (-1) h (by kernel_rfl) rfl
theorem en92 : ∀ args w, (callFunc 92 args).run Try.prog w = .ok (.enter 92 args) w := enters_of Try.func92 (by kernel_rfl) rfl
theorem indexApiArrow_ct (l : List ApiArrow) (dom : ApiArrow → Prop) (φ : ApiArrow → Bool) (hd : ∀ x ∈ l, dom x) : Ct 92 [.sv (.one (LS ApiArrow.ty l)), .sv (.one (.rd (fvR (fun x => [.sv (.agg [I x.fFrom, I x.fLetter, I x.fTo])]) (fun b => .sv (.one (B b))) dom φ)))] [] (fun (_ : Unit) => True) (fun _ => .sv (.one (I (idxTo φ l)))) := by
 refine (indexApiArrow_walk l dom φ (fun r => r = idxTo φ l) ?_).fun
 unfold indexApiArrow_vc
 exact index_plain l dom φ hd
def anyApiArrow_vc (l : (List ApiArrow)) (dom : (ApiArrow → Prop)) (φ : (ApiArrow → Bool)) (Q : Bool → Prop) : Prop :=
 l.length ≤ 9223372036854775807 →
 ((∀ x_ ∈ l, dom x_) ∧
 Q (decide ((idxTo φ l) ≥ 0)))
theorem anyApiArrow_walk (l : (List ApiArrow)) (dom : (ApiArrow → Prop)) (φ : (ApiArrow → Bool)) (Q : Bool → Prop) (h : anyApiArrow_vc l dom φ Q) : Ct 43 [.sv (.one (LS ApiArrow.ty l)), .sv (.one (.rd (fvR (fun x => [.sv (.agg [I x.fFrom, I x.fLetter, I x.fTo])]) (fun b => .sv (.one (B b))) dom φ)))] [] Q (fun (r : Bool) => .sv (.one (B r))) := by
 have ht := tab_ok
 refine Ct.body Try.func43 rfl rfl rfl rfl (fun c hn => ?_)
 unfold anyApiArrow_vc at h
 refine En.lenL 0 (by rfl) (fun hl => ?_)
 replace h := h hl
 clear hl
 refine En.seq ?_
 refine En.region ?_
 refine WL.run ht hn 1 ⟨[sl 0 (LS ApiArrow.ty l), sl 1 (.rd (fvR (fun x => [.sv (.agg (ApiArrow.cl x))]) (fun b => .sv (.one (B b))) dom φ))], []⟩ (by kernel_rfl) ?_
 refine WL.nil ?_
 refine En.seq ?_
 refine En.region ?_
 refine WL.run ht hn 2 ⟨[sl 5 (LS ApiArrow.ty l), sl 6 (.rd (fvR (fun x => [.sv (.agg (ApiArrow.cl x))]) (fun b => .sv (.one (B b))) dom φ))], []⟩ (by kernel_rfl) ?_
 have hp := h.1
 replace h := h.2
 refine WL.mt0 (K := []) (p := none) hn (by rfl) (mt_call (indexApiArrow_ct l dom φ hp) en92 (caps := []) [] rfl (by rfl) (by kernel_rfl) (by kernel_rfl) (by rfl) (by rfl) (by rfl)) (by rfl) (by rfl) (by rfl) ?_
 refine WL.run ht hn 2 ⟨[sl 4 (B (decide ((idxTo φ l) ≥ 0)))], []⟩ (by kernel_rfl) ?_
 refine WL.nil ?_
 refine En.ret ?_
 exact En.back ht (decide ((idxTo φ l) ≥ 0)) h (by kernel_rfl) rfl
theorem en43 : ∀ args w, (callFunc 43 args).run Try.prog w = .ok (.enter 43 args) w := enters_of Try.func43 (by kernel_rfl) rfl
theorem anyApiArrow_ct (l : List ApiArrow) (dom : ApiArrow → Prop) (φ : ApiArrow → Bool) (hd : ∀ x ∈ l, dom x) : Ct 43 [.sv (.one (LS ApiArrow.ty l)), .sv (.one (.rd (fvR (fun x => [.sv (.agg [I x.fFrom, I x.fLetter, I x.fTo])]) (fun b => .sv (.one (B b))) dom φ)))] [] (fun (_ : Unit) => True) (fun _ => .sv (.one (B (l.any φ)))) := by
 refine (anyApiArrow_walk l dom φ (fun r => r = l.any φ) ?_).fun
 unfold anyApiArrow_vc
 exact fun _ => ⟨hd, by rw [← idxTo_nonneg φ l]⟩
def indexInt_vc (l : (List Int)) (dom : (Int → Prop)) (φ : (Int → Bool)) (Q : Int → Prop) : Prop :=
 l.length ≤ 9223372036854775807 →
 (∃ (Inv : Int → Prop) (mu : Int → Nat), Inv 0 ∧
 ∀ (x8 : Int) , Inv x8 → (IfP (decide (x8 < (l.length : Int))) (∃ e, idx l x8 = some e ∧
 (dom e) ∧
 IfP (φ e) (Q x8) ((Inv (wr (x8 + 1)) ∧ mu (wr (x8 + 1)) < mu x8))) (Q (-1))))
theorem indexInt_walk (l : (List Int)) (dom : (Int → Prop)) (φ : (Int → Bool)) (Q : Int → Prop) (h : indexInt_vc l dom φ Q) : Ct 69 [.sv (.one (LS intT l)), .sv (.one (.rd (fvR (fun x => [.sv (.one (I x))]) (fun b => .sv (.one (B b))) dom φ)))] [] Q (fun (r : Int) => .sv (.one (I r))) := by
 have ht := tab_ok
 refine Ct.body Try.func69 rfl rfl rfl rfl (fun c hn => ?_)
 unfold indexInt_vc at h
 refine En.lenL 0 (by rfl) (fun hl => ?_)
 replace h := h hl
 clear hl
 refine En.seq ?_
 refine En.region ?_
 refine WL.run ht hn 1 ⟨[sl 0 (LS intT l), sl 1 (.rd (fvR (fun x => [.sv (.one (I x))]) (fun b => .sv (.one (B b))) dom φ))], []⟩ (by kernel_rfl) ?_
 refine WL.nil ?_
 refine En.seq ?_
 refine En.seq ?_
 refine En.region ?_
 refine WL.run ht hn 3 ⟨[sl 0 (LS intT l), sl 1 (.rd (fvR (fun x => [.sv (.one (I x))]) (fun b => .sv (.one (B b))) dom φ)), sl 7 (I (l.length : Int)), sl 8 (I 0)], []⟩ (by kernel_rfl) ?_
 refine WL.nil ?_
 refine En.block ?_
 obtain ⟨Inv, mu, h0, hI⟩ := h
 refine En.loop (σ := Int) (fun zz => Inv zz) (fun zz => mu zz) (fun zz => ⟨[sl 0 (LS intT l), sl 1 (.rd (fvR (fun x => [.sv (.one (I x))]) (fun b => .sv (.one (B b))) dom φ)), sl 7 (I (l.length : Int)), sl 8 (I zz)], []⟩) 0 h0 (sub_ok (by kernel_rfl)) ?_
 intro x8 h
 replace h := hI _ h
 show En c ⟨[sl 0 (LS intT l), sl 1 (.rd (fvR (fun x => [.sv (.one (I x))]) (fun b => .sv (.one (B b))) dom φ)), sl 7 (I (l.length : Int)), sl 8 (I x8)], []⟩ _
 refine En.seq ?_
 refine En.region ?_
 refine WL.run ht hn 1 ⟨[sl 0 (LS intT l), sl 1 (.rd (fvR (fun x => [.sv (.one (I x))]) (fun b => .sv (.one (B b))) dom φ)), sl 7 (I (l.length : Int)), sl 8 (I x8), sl 9 (B (decide (x8 < (l.length : Int))))], []⟩ (by kernel_rfl) ?_
 refine WL.nil ?_
 refine En.seq ?_
 refine En.cond (b := (decide (x8 < (l.length : Int)))) (by kernel_rfl) (fun hb => ?_) (fun hb => ?_)
 replace h := h.1 hb
 refine En.skip ?_
 refine En.seq ?_
 refine En.block ?_
 refine En.seq ?_
 refine En.region ?_
 refine WL.run ht hn 2 ⟨[sl 0 (LS intT l), sl 1 (.rd (fvR (fun x => [.sv (.one (I x))]) (fun b => .sv (.one (B b))) dom φ)), sl 5 (I x8), sl 7 (I (l.length : Int)), sl 8 (I x8)], []⟩ (by kernel_rfl) ?_
 refine WL.nil ?_
 refine En.seq ?_
 refine En.region ?_
 refine WL.run ht hn 3 ⟨[sl 0 (LS intT l), sl 1 (.rd (fvR (fun x => [.sv (.one (I x))]) (fun b => .sv (.one (B b))) dom φ)), sl 5 (I x8), sl 7 (I (l.length : Int)), sl 8 (I x8), sl 11 (.rd (fvR (fun x => [.sv (.one (I x))]) (fun b => .sv (.one (B b))) dom φ)), sl 12 (LS intT l), sl 13 (I x8)], []⟩ (by kernel_rfl) ?_
 obtain ⟨e, he, h⟩ := h
 refine WL.val hn (by rfl) (val_index (T := intT) (l := l) (i := x8) ht rfl (by rfl) (by rfl) (by rfl) (by rfl) (by rfl) (by rfl) he) (by rfl) ?_
 refine WL.val hn (by rfl) (val_load (s := .one (I e)) ht rfl (by rfl) (by rfl) (by rfl) (by rfl) (by rfl)) (by rfl) ?_
 have hp := h.1
 replace h := h.2
 refine WL.mt0 (K := []) (p := none) hn (by rfl) (mt_callv e hp rfl (by rfl) (by rfl) (by rfl) (by rfl)) (by rfl) (by rfl) (by rfl) ?_
 refine WL.nil ?_
 refine En.cond (b := (φ e)) (by kernel_rfl) (fun hb => ?_) (fun hb => ?_)
 replace h := h.1 hb
 refine En.seq ?_
 refine En.region ?_
 refine WL.run ht hn 2 ⟨[sl 4 (I x8)], []⟩ (by kernel_rfl) ?_
 refine WL.nil ?_
 refine En.ret ?_
 exact En.back ht x8 h (by kernel_rfl) rfl
 replace h := h.2 hb
 refine En.skip ?_
 refine En.region ?_
 refine WL.run ht hn 2 ⟨[sl 0 (LS intT l), sl 1 (.rd (fvR (fun x => [.sv (.one (I x))]) (fun b => .sv (.one (B b))) dom φ)), sl 7 (I (l.length : Int)), sl 8 (I (wr (x8 + 1)))], []⟩ (by kernel_rfl) ?_
 refine WL.nil ?_
 exact En.at (I := fun zz => Inv zz ∧ mu zz < mu x8) (T := fun zz => ⟨[sl 0 (LS intT l), sl 1 (.rd (fvR (fun x => [.sv (.one (I x))]) (fun b => .sv (.one (B b))) dom φ)), sl 7 (I (l.length : Int)), sl 8 (I zz)], []⟩) (wr (x8 + 1)) h (by kernel_rfl)
 replace h := h.2 hb
 refine En.exit rfl ?_
 refine En.seq ?_
 refine En.region ?_
 refine WL.run ht hn 1 ⟨[sl 4 (I (-1))], []⟩ (by kernel_rfl) ?_
 refine WL.nil ?_
 refine En.ret ?_
 exact En.back ht (-1) h (by kernel_rfl) rfl
theorem en69 : ∀ args w, (callFunc 69 args).run Try.prog w = .ok (.enter 69 args) w := enters_of Try.func69 (by kernel_rfl) rfl
theorem indexInt_ct (l : List Int) (dom : Int → Prop) (φ : Int → Bool) (hd : ∀ x ∈ l, dom x) : Ct 69 [.sv (.one (LS intT l)), .sv (.one (.rd (fvR (fun x => [.sv (.one (I x))]) (fun b => .sv (.one (B b))) dom φ)))] [] (fun (_ : Unit) => True) (fun _ => .sv (.one (I (idxTo φ l)))) := by
 refine (indexInt_walk l dom φ (fun r => r = idxTo φ l) ?_).fun
 unfold indexInt_vc
 exact index_plain l dom φ hd
def cloneInt_vc (l : (List Int)) (Q : (List Int) → Prop) : Prop :=
 l.length ≤ 9223372036854775807 →
 (∀ isnil : Bool, (isnil = true → l = []) →
 (IfP (isnil != false) (Q []) (capOk ([] : (List Int)).length (l : (List Int)).length 8 ∧
 Q (([] : (List Int)) ++ l))))
theorem cloneInt_walk (l : (List Int)) (Q : (List Int) → Prop) (h : cloneInt_vc l Q) : CtJ 30 [.sv (.one (LS intT l))] [] Q (fun (r : (List Int)) => rowI 3 intT r) := by
 have ht := tab_ok
 refine CtJ.body Try.func30 rfl rfl rfl rfl (fun c hn hmay => ?_)
 unfold cloneInt_vc at h
 refine En.lenL 0 (by rfl) (fun hl => ?_)
 replace h := h hl
 clear hl
 refine En.seq ?_
 refine En.region ?_
 refine WL.run ht hn 1 ⟨[sl 0 (LS intT l)], []⟩ (by kernel_rfl) ?_
 refine WL.nil ?_
 refine En.seq ?_
 refine En.seq ?_
 refine En.region ?_
 refine WL.run ht hn 1 ⟨[sl 0 (LS intT l), sl 3 (LS intT l)], []⟩ (by kernel_rfl) ?_
 refine WL.eqNil (T := intT) (l := l) .eql false (by simp) ht hn (by rfl) rfl (by rfl) (by rfl) (by rfl) rfl (by rfl) (fun isnil hisnil => ?_)
 replace h := h isnil hisnil
 clear hisnil
 refine WL.nil ?_
 refine En.cond (b := (isnil != false)) (by kernel_rfl) (fun hb => ?_) (fun hb => ?_)
 replace h := h.1 hb
 refine En.seq ?_
 refine En.region ?_
 refine WL.run ht hn 1 ⟨[sl 2 (.v (.slice none 0 0))], []⟩ (by kernel_rfl) ?_
 refine WL.nil ?_
 refine En.ret ?_
 exact En.backN (by rfl) h
 replace h := h.2 hb
 refine En.skip ?_
 refine En.seq ?_
 refine En.region ?_
 refine WL.mt0 (K := []) (p := some (0, rowI 3 intT ([] : (List Int)))) hn (by rfl) (mt_empty intT 0 ht rfl (by rfl) (by rfl) (by rfl)) (by rfl) (by rfl) (by rfl) ?_
 refine WL.run ht hn 1 ⟨[sl 5 (.own 0), sl 6 (LS intT l)], [rowI 3 intT ([] : (List Int))]⟩ (by kernel_rfl) ?_
 have hp := h.1
 replace h := h.2
 refine WL.mt (S2 := ⟨[sl 6 (LS intT l)], [rowI 3 intT ([] : (List Int))]⟩) (K := [0]) (p := some (0, rowI 3 intT (([] : (List Int)) ++ l))) hn (by rfl) (mt_append (T := intT) (l := ([] : (List Int))) (es := l) ht rfl (by rfl) (by rfl) (by rfl) (by rfl) (by decide) (by rfl) (by rfl) (srcLS (T := intT) (es := l) (fun _ h => by cases h) (by decide) (by rfl)) (by exact hp) (by exact hp.le (by decide))) (by kernel_rfl) (by rfl) (by rfl) (by rfl) ?_
 refine WL.run ht hn 1 ⟨[sl 2 (.own 0)], [rowI 3 intT (([] : (List Int)) ++ l)]⟩ (by kernel_rfl) ?_
 refine WL.nil ?_
 refine En.ret ?_
 exact En.backJ (itf := fun l => rowI 3 intT l) hmay (by rfl) (by rfl) rfl rfl h
theorem en30 : ∀ args w, (callFunc 30 args).run Try.prog w = .ok (.enter 30 args) w := enters_of Try.func30 (by kernel_rfl) rfl
theorem cloneInt_ct (l : List Int) (hp : l.length * 8 ≤ 140737488355328) : CtI 30 [.sv (.one (LS intT l))] [] (rowI 3 intT l) := by
 refine (cloneInt_walk l (fun r => r = l) ?_).fun
 unfold cloneInt_vc
 refine fun _ isnil h => ⟨fun hb => (h (by simpa using hb)).symm, fun _ => ⟨?_, by simp⟩⟩
 unfold capOk
 simpa using hp
def samCheck_vc (g : ApiGraph) (Q : Int → Prop) : Prop :=
 g.fArrows.length ≤ 9223372036854775807 →
 (IfP ((decide (g.fLetters < 1)) || (decide (g.fLetters > 4))) (Q 2) (IfP (((decide (g.fPlaces < 1)) || (decide (g.fPlaces > 12))) || (decide ((g.fArrows.length : Int) > 60))) (Q 1) ((∀ x_ ∈ g.fArrows, (fun x => (fun _ => True) x.fFrom ∧ (fun _ => True) x.fTo) x_) ∧
 IfP (g.fArrows.any (offA (offG g) g)) (Q 2) (∃ (Inv : Int → Prop) (mu : Int → Nat), Inv 0 ∧
 ∀ (x35 : Int) , Inv x35 → (IfP (decide (x35 < (g.fArrows.length : Int))) (∃ J : Bool → Prop, (IfP (decide (x35 > 0)) (∃ e, idx g.fArrows (wr (x35 - 1)) = some e ∧
 ∃ e_2, idx g.fArrows x35 = some e_2 ∧
 J (decide ((ordA e e_2) ≥ 0))) (J false)) ∧
 (∀ (x54 : Bool), J x54 → IfP x54 (Q 3) ((Inv (wr (x35 + 1)) ∧ mu (wr (x35 + 1)) < mu x35)))) (Q 0))))))
theorem samCheck_walk (g : ApiGraph) (Q : Int → Prop) (h : samCheck_vc g Q) : Ct 20 [.sv (.agg [I g.fLetters, I g.fPlaces, LS ApiArrow.ty g.fArrows])] [] Q (fun (r : Int) => .sv (.one (I r))) := by
 have ht := tab_ok
 refine Ct.body Try.func20 rfl rfl rfl rfl (fun c hn => ?_)
 unfold samCheck_vc at h
 refine En.lenA 0 2 (by rfl) (by rfl) (fun hl => ?_)
 replace h := h hl
 clear hl
 refine En.seq ?_
 refine En.region ?_
 refine WL.run ht hn 2 ⟨[sl 1 (.ptr 0 0)], [.box (ApiGraph.cl g) 24 false]⟩ (by kernel_rfl) ?_
 refine WL.nil ?_
 refine En.seq ?_
 refine En.seq ?_
 refine En.region ?_
 refine WL.run ht hn 4 ⟨[sl 1 (.ptr 0 0), sl 8 (B (decide (g.fLetters < 1)))], [.box (ApiGraph.cl g) 24 false]⟩ (by kernel_rfl) ?_
 refine WL.thru ⟨[sl 1 (.ptr 0 0), sl 12 (B ((decide (g.fLetters < 1)) || (decide (g.fLetters > 4))))], [.box (ApiGraph.cl g) 24 false]⟩ ?_ ?_
 refine splitB (decide (g.fLetters < 1)) (fun hb0 => ?_) (fun hb0 => ?_)
 refine WL.setB 8 hb0 (by kernel_rfl) ?_
 refine WL.run ht hn 4 ⟨[sl 1 (.ptr 0 0), sl 12 (B true)], [.box (ApiGraph.cl g) 24 false]⟩ (by kernel_rfl) ?_
 exact WL.nil (sub_ok (by simp only [hb0]; kernel_rfl))
 refine WL.setB 8 hb0 (by kernel_rfl) ?_
 refine WL.run ht hn 4 ⟨[sl 1 (.ptr 0 0), sl 12 (B (decide (g.fLetters > 4)))], [.box (ApiGraph.cl g) 24 false]⟩ (by kernel_rfl) ?_
 exact WL.nil (sub_ok (by simp only [hb0]; kernel_rfl))
 refine En.cond (b := ((decide (g.fLetters < 1)) || (decide (g.fLetters > 4)))) (by kernel_rfl) (fun hb => ?_) (fun hb => ?_)
 replace h := h.1 hb
 refine En.seq ?_
 refine En.region ?_
 refine WL.run ht hn 1 ⟨[sl 2 (I 2)], [.gone]⟩ (by kernel_rfl) ?_
 refine WL.nil ?_
 refine En.ret ?_
 exact En.back ht 2 h (by kernel_rfl) rfl
 replace h := h.2 hb
 refine En.skip ?_
 refine En.seq ?_
 refine En.seq ?_
 refine En.region ?_
 refine WL.run ht hn 4 ⟨[sl 1 (.ptr 0 0), sl 16 (B (decide (g.fPlaces < 1)))], [.box (ApiGraph.cl g) 24 false]⟩ (by kernel_rfl) ?_
 refine WL.thru ⟨[sl 1 (.ptr 0 0), sl 26 (B (((decide (g.fPlaces < 1)) || (decide (g.fPlaces > 12))) || (decide ((g.fArrows.length : Int) > 60))))], [.box (ApiGraph.cl g) 24 false]⟩ ?_ ?_
 refine splitB (decide (g.fPlaces < 1)) (fun hb0 => ?_) (fun hb0 => ?_)
 refine WL.setB 16 hb0 (by kernel_rfl) ?_
 refine WL.run ht hn 10 ⟨[sl 1 (.ptr 0 0), sl 26 (B true)], [.box (ApiGraph.cl g) 24 false]⟩ (by kernel_rfl) ?_
 exact WL.nil (sub_ok (by simp only [hb0]; kernel_rfl))
 refine WL.setB 16 hb0 (by kernel_rfl) ?_
 refine WL.run ht hn 5 ⟨[sl 1 (.ptr 0 0), sl 21 (B (decide (g.fPlaces > 12)))], [.box (ApiGraph.cl g) 24 false]⟩ (by kernel_rfl) ?_
 refine splitB (decide (g.fPlaces > 12)) (fun hb1 => ?_) (fun hb1 => ?_)
 refine WL.setB 21 hb1 (by kernel_rfl) ?_
 refine WL.run ht hn 5 ⟨[sl 1 (.ptr 0 0), sl 26 (B true)], [.box (ApiGraph.cl g) 24 false]⟩ (by kernel_rfl) ?_
 exact WL.nil (sub_ok (by simp only [hb0, hb1]; kernel_rfl))
 refine WL.setB 21 hb1 (by kernel_rfl) ?_
 refine WL.run ht hn 5 ⟨[sl 1 (.ptr 0 0), sl 26 (B (decide ((g.fArrows.length : Int) > 60)))], [.box (ApiGraph.cl g) 24 false]⟩ (by kernel_rfl) ?_
 exact WL.nil (sub_ok (by simp only [hb0, hb1]; kernel_rfl))
 refine En.cond (b := (((decide (g.fPlaces < 1)) || (decide (g.fPlaces > 12))) || (decide ((g.fArrows.length : Int) > 60)))) (by kernel_rfl) (fun hb => ?_) (fun hb => ?_)
 replace h := h.1 hb
 refine En.seq ?_
 refine En.region ?_
 refine WL.run ht hn 1 ⟨[sl 2 (I 1)], [.gone]⟩ (by kernel_rfl) ?_
 refine WL.nil ?_
 refine En.ret ?_
 exact En.back ht 1 h (by kernel_rfl) rfl
 replace h := h.2 hb
 refine En.skip ?_
 refine En.seq ?_
 refine En.region ?_
 refine WL.run ht hn 3 ⟨[sl 1 (.ptr 0 0), sl 3 (.ptr 1 0)], [.box (ApiGraph.cl g) 24 false, .box [.fn 42 [0]] 103 false]⟩ (by kernel_rfl) ?_
 refine WL.nil ?_
 refine En.seq ?_
 refine En.seq ?_
 refine En.region ?_
 refine WL.run ht hn 3 ⟨[sl 1 (.ptr 0 0), sl 29 (LS ApiArrow.ty g.fArrows), sl 30 (.fn 44 [1, 0])], [.box (ApiGraph.cl g) 24 false, .box [.fn 42 [0]] 103 false]⟩ (by kernel_rfl) ?_
 have hp := h.1
 replace h := h.2
 refine WL.mt0 (K := []) (p := none) hn (by rfl) (mt_lendF [0] (by rfl) (by rfl) (mt_lendB (.rd (fvR (fun (x_ : Int) => [.sv (.one (I x_))]) (fun (r : Bool) => .sv (.one (B r))) (fun _ => True) (offG g))) 1 0 (by rfl) (by rfl) (fv_at (fv_of (M := [.box (ApiGraph.cl g) 24 true]) (caps := [0]) (fun x_ _ => samC1_ct x_ g) en42 rfl (by kernel_rfl) (by rfl) (fun _ => rfl))) (mt_lendF [1] (by rfl) (by rfl) (mt_ghost 30 (o1 (.rd (fvR (fun (x_ : ApiArrow) => [.sv (.agg (ApiArrow.cl x_))]) (fun (r : Bool) => .sv (.one (B r))) (fun x => (fun _ => True) x.fFrom ∧ (fun _ => True) x.fTo) (offA (offG g) g)))) (by rfl) (fv_of (M := [.box [.rd (fvR (fun (x_ : Int) => [.sv (.one (I x_))]) (fun (r : Bool) => .sv (.one (B r))) (fun _ => True) (offG g))] 103 true, .box (ApiGraph.cl g) 24 true]) (caps := [1, 0]) (fun x_ hx => samC2_ct x_ (fun _ => True) (offG g) g hx) en44 rfl (by kernel_rfl) (by rfl) (fun _ => rfl)) (mt_call (anyApiArrow_ct g.fArrows (fun x => (fun _ => True) x.fFrom ∧ (fun _ => True) x.fTo) (offA (offG g) g) hp) en43 (caps := []) [] rfl (by rfl) (by kernel_rfl) (by kernel_rfl) (by rfl) (by rfl) (by rfl)))))) (by rfl) (by rfl) (by rfl) ?_
 refine WL.nil ?_
 refine En.cond (b := (g.fArrows.any (offA (offG g) g))) (by kernel_rfl) (fun hb => ?_) (fun hb => ?_)
 replace h := h.1 hb
 refine En.seq ?_
 refine En.region ?_
 refine WL.run ht hn 1 ⟨[sl 2 (I 2)], [.gone, .gone]⟩ (by kernel_rfl) ?_
 refine WL.nil ?_
 refine En.ret ?_
 exact En.back ht 2 h (by kernel_rfl) rfl
 replace h := h.2 hb
 refine En.skip ?_
 refine En.seq ?_
 refine En.seq ?_
 refine En.region ?_
 refine WL.run ht hn 4 ⟨[sl 1 (.ptr 0 0), sl 34 (I (g.fArrows.length : Int)), sl 35 (I 0)], [.box (ApiGraph.cl g) 24 false, .gone]⟩ (by kernel_rfl) ?_
 refine WL.nil ?_
 refine En.block ?_
 obtain ⟨Inv, mu, h0, hI⟩ := h
 refine En.loop (σ := Int) (fun zz => Inv zz) (fun zz => mu zz) (fun zz => ⟨[sl 1 (.ptr 0 0), sl 34 (I (g.fArrows.length : Int)), sl 35 (I zz)], [.box (ApiGraph.cl g) 24 false, .gone]⟩) 0 h0 (sub_ok (by kernel_rfl)) ?_
 intro x35 h
 replace h := hI _ h
 show En c ⟨[sl 1 (.ptr 0 0), sl 34 (I (g.fArrows.length : Int)), sl 35 (I x35)], [.box (ApiGraph.cl g) 24 false, .gone]⟩ _
 refine En.seq ?_
 refine En.region ?_
 refine WL.run ht hn 1 ⟨[sl 1 (.ptr 0 0), sl 34 (I (g.fArrows.length : Int)), sl 35 (I x35), sl 36 (B (decide (x35 < (g.fArrows.length : Int))))], [.box (ApiGraph.cl g) 24 false, .gone]⟩ (by kernel_rfl) ?_
 refine WL.nil ?_
 refine En.seq ?_
 refine En.cond (b := (decide (x35 < (g.fArrows.length : Int)))) (by kernel_rfl) (fun hb => ?_) (fun hb => ?_)
 replace h := h.1 hb
 refine En.skip ?_
 refine En.seq ?_
 refine En.block ?_
 refine En.seq ?_
 refine En.region ?_
 refine WL.run ht hn 2 ⟨[sl 1 (.ptr 0 0), sl 4 (I x35), sl 34 (I (g.fArrows.length : Int)), sl 35 (I x35)], [.box (ApiGraph.cl g) 24 false, .gone]⟩ (by kernel_rfl) ?_
 refine WL.nil ?_
 obtain ⟨J, h, hJ⟩ := h
 refine En.seqJ (σ := Bool) (fun zz => J zz) (fun zz => ⟨[sl 1 (.ptr 0 0), sl 34 (I (g.fArrows.length : Int)), sl 35 (I x35), sl 54 (B zz)], [.box (ApiGraph.cl g) 24 false, .gone]⟩) ?_ ?_
 refine splitB (decide (x35 > 0)) (fun hb_2 => ?_) (fun hb_2 => ?_)
 replace h := h.1 hb_2
 obtain ⟨e, he, h⟩ := h
 obtain ⟨e_2, he_2, h⟩ := h
 refine En.regionA ⟨[sl 1 (.ptr 0 0), sl 4 (I x35), sl 34 (I (g.fArrows.length : Int)), sl 35 (I x35)], [.sv (.one (I x35)), .sv (.one (B true)), .sv (.one (B true)), .sv (.one (.ptr 0 2)), .sv (.one (LS ApiArrow.ty g.fArrows)), .sv (.one (I x35)), .sv (.one (I (wr (x35 - 1)))), .sv (.one (.pe (svR (.agg (ApiArrow.cl e))) 3)), .sv (.agg (ApiArrow.cl e)), .sv (.one (.ptr 0 2)), .sv (.one (LS ApiArrow.ty g.fArrows)), .sv (.one (I x35)), .sv (.one (.pe (svR (.agg (ApiArrow.cl e_2))) 3)), .sv (.agg (ApiArrow.cl e_2)), .sv (.one (I (ordA e e_2))), .sv (.one (B (decide ((ordA e e_2) ≥ 0)))), .sv (.one (B (decide ((ordA e e_2) ≥ 0))))], [⟨.box (ApiGraph.cl g) 24 false, none, none, none⟩, ⟨.gone, none, none, none⟩]⟩ ⟨[sl 1 (.ptr 0 0), sl 34 (I (g.fArrows.length : Int)), sl 35 (I x35), sl 54 (B (decide ((ordA e e_2) ≥ 0)))], [.box (ApiGraph.cl g) 24 false, .gone]⟩ (by kernel_rfl) hn (by kernel_rfl) (by rfl) (by kernel_rfl) ?_ (by kernel_rfl) ?_
 exact ⟨.mt ⟨[sl 4 (I x35)], []⟩ [] none (by kernel_rfl) (by rfl) (mt_ev ht (by kernel_rfl)) rfl rfl rfl rfl,
 .mt ⟨[sl 38 (I x35)], []⟩ [] none (by kernel_rfl) (by rfl) (mt_castB hb_2 (mt_ev ht (by kernel_rfl))) rfl rfl rfl rfl,
 .mt ⟨[sl 39 (B true)], []⟩ [] none (by kernel_rfl) (by rfl) (mt_ev ht (by kernel_rfl)) rfl rfl rfl rfl,
 .mt ⟨[sl 1 (.ptr 0 0), sl 40 (B true)], []⟩ [] none (by kernel_rfl) (by rfl) (mt_ev ht (by kernel_rfl)) rfl rfl rfl rfl,
 .mt ⟨[sl 40 (B true), sl 41 (.ptr 0 2)], [.box (ApiGraph.cl g) 24 false]⟩ [] none (by kernel_rfl) (by rfl) (mt_ev ht (by kernel_rfl)) rfl rfl rfl rfl,
 .mt ⟨[sl 4 (I x35), sl 40 (B true)], []⟩ [] none (by kernel_rfl) (by rfl) (mt_ev ht (by kernel_rfl)) rfl rfl rfl rfl,
 .mt ⟨[sl 40 (B true), sl 43 (I x35)], []⟩ [] none (by kernel_rfl) (by rfl) (mt_ev ht (by kernel_rfl)) rfl rfl rfl rfl,
 .mt ⟨[sl 40 (B true), sl 42 (LS ApiArrow.ty g.fArrows), sl 44 (I (wr (x35 - 1)))], []⟩ [] none (by kernel_rfl) (by rfl) (mt_val (val_index (T := ApiArrow.ty) (l := g.fArrows) (i := (wr (x35 - 1))) ht rfl (by rfl) (by rfl) (by rfl) (by rfl) (by rfl) (by rfl) he)) rfl rfl rfl rfl,
 .mt ⟨[sl 40 (B true), sl 45 (.pe (svR (.agg (ApiArrow.cl e))) 3)], []⟩ [] none (by kernel_rfl) (by rfl) (mt_val (val_load (s := .agg (ApiArrow.cl e)) ht rfl (by rfl) (by rfl) (by rfl) (by rfl) (by rfl))) rfl rfl rfl rfl,
 .mt ⟨[sl 1 (.ptr 0 0), sl 40 (B true)], []⟩ [] none (by kernel_rfl) (by rfl) (mt_ev ht (by kernel_rfl)) rfl rfl rfl rfl,
 .mt ⟨[sl 40 (B true), sl 47 (.ptr 0 2)], [.box (ApiGraph.cl g) 24 false]⟩ [] none (by kernel_rfl) (by rfl) (mt_ev ht (by kernel_rfl)) rfl rfl rfl rfl,
 .mt ⟨[sl 4 (I x35), sl 40 (B true)], []⟩ [] none (by kernel_rfl) (by rfl) (mt_ev ht (by kernel_rfl)) rfl rfl rfl rfl,
 .mt ⟨[sl 40 (B true), sl 48 (LS ApiArrow.ty g.fArrows), sl 49 (I x35)], []⟩ [] none (by kernel_rfl) (by rfl) (mt_val (val_index (T := ApiArrow.ty) (l := g.fArrows) (i := x35) ht rfl (by rfl) (by rfl) (by rfl) (by rfl) (by rfl) (by rfl) he_2)) rfl rfl rfl rfl,
 .mt ⟨[sl 40 (B true), sl 50 (.pe (svR (.agg (ApiArrow.cl e_2))) 3)], []⟩ [] none (by kernel_rfl) (by rfl) (mt_val (val_load (s := .agg (ApiArrow.cl e_2)) ht rfl (by rfl) (by rfl) (by rfl) (by rfl) (by rfl))) rfl rfl rfl rfl,
 .mt ⟨[sl 40 (B true), (46, .sv (.agg (ApiArrow.cl e))), (51, .sv (.agg (ApiArrow.cl e_2)))], []⟩ [] none (by kernel_rfl) (by rfl) (mt_call (samOrd_ct e e_2) en45 (caps := []) [] rfl (by rfl) (by kernel_rfl) (by kernel_rfl) (by rfl) (by rfl) (by rfl)) rfl rfl rfl rfl,
 .mt ⟨[sl 40 (B true), sl 52 (I (ordA e e_2))], []⟩ [] none (by kernel_rfl) (by rfl) (mt_ev ht (by kernel_rfl)) rfl rfl rfl rfl,
 .mt ⟨[sl 40 (B true), sl 53 (B (decide ((ordA e e_2) ≥ 0)))], []⟩ [] none (by kernel_rfl) (by rfl) (mt_ev ht (by kernel_rfl)) rfl rfl rfl rfl,
 trivial⟩
 exact En.at (I := fun zz => J zz) (T := fun zz => ⟨[sl 1 (.ptr 0 0), sl 34 (I (g.fArrows.length : Int)), sl 35 (I x35), sl 54 (B zz)], [.box (ApiGraph.cl g) 24 false, .gone]⟩) (decide ((ordA e e_2) ≥ 0)) h (by kernel_rfl)
 replace h := h.2 hb_2
 refine En.regionA ⟨[sl 1 (.ptr 0 0), sl 4 (I x35), sl 34 (I (g.fArrows.length : Int)), sl 35 (I x35)], [.sv (.one (I x35)), .sv (.one (B false)), .sv (.one (B false)), .tup [], .tup [], .tup [], .tup [], .tup [], .tup [], .tup [], .tup [], .tup [], .tup [], .tup [], .tup [], .tup [], .sv (.one (B false))], [⟨.box (ApiGraph.cl g) 24 false, none, none, none⟩, ⟨.gone, none, none, none⟩]⟩ ⟨[sl 1 (.ptr 0 0), sl 34 (I (g.fArrows.length : Int)), sl 35 (I x35), sl 54 (B false)], [.box (ApiGraph.cl g) 24 false, .gone]⟩ (by kernel_rfl) hn (by kernel_rfl) (by rfl) (by kernel_rfl) ?_ (by kernel_rfl) ?_
 exact ⟨.mt ⟨[sl 4 (I x35)], []⟩ [] none (by kernel_rfl) (by rfl) (mt_ev ht (by kernel_rfl)) rfl rfl rfl rfl,
 .mt ⟨[sl 38 (I x35)], []⟩ [] none (by kernel_rfl) (by rfl) (mt_castB hb_2 (mt_ev ht (by kernel_rfl))) rfl rfl rfl rfl,
 .mt ⟨[sl 39 (B false)], []⟩ [] none (by kernel_rfl) (by rfl) (mt_ev ht (by kernel_rfl)) rfl rfl rfl rfl,
 .skip ⟨[sl 40 (B false)], []⟩ (by kernel_rfl) (by rfl) rfl rfl rfl rfl,
 .skip ⟨[sl 40 (B false)], []⟩ (by kernel_rfl) (by rfl) rfl rfl rfl rfl,
 .skip ⟨[sl 40 (B false)], []⟩ (by kernel_rfl) (by rfl) rfl rfl rfl rfl,
 .skip ⟨[sl 40 (B false)], []⟩ (by kernel_rfl) (by rfl) rfl rfl rfl rfl,
 .skip ⟨[sl 40 (B false)], []⟩ (by kernel_rfl) (by rfl) rfl rfl rfl rfl,
 .skip ⟨[sl 40 (B false)], []⟩ (by kernel_rfl) (by rfl) rfl rfl rfl rfl,
 .skip ⟨[sl 40 (B false)], []⟩ (by kernel_rfl) (by rfl) rfl rfl rfl rfl,
 .skip ⟨[sl 40 (B false)], []⟩ (by kernel_rfl) (by rfl) rfl rfl rfl rfl,
 .skip ⟨[sl 40 (B false)], []⟩ (by kernel_rfl) (by rfl) rfl rfl rfl rfl,
 .skip ⟨[sl 40 (B false)], []⟩ (by kernel_rfl) (by rfl) rfl rfl rfl rfl,
 .skip ⟨[sl 40 (B false)], []⟩ (by kernel_rfl) (by rfl) rfl rfl rfl rfl,
 .skip ⟨[sl 40 (B false)], []⟩ (by kernel_rfl) (by rfl) rfl rfl rfl rfl,
 .skip ⟨[sl 40 (B false)], []⟩ (by kernel_rfl) (by rfl) rfl rfl rfl rfl,
 .mt ⟨[sl 40 (B false), (53, .tup [])], []⟩ [] none (by kernel_rfl) (by rfl) (mt_ev ht (by kernel_rfl)) rfl rfl rfl rfl,
 trivial⟩
 exact En.at (I := fun zz => J zz) (T := fun zz => ⟨[sl 1 (.ptr 0 0), sl 34 (I (g.fArrows.length : Int)), sl 35 (I x35), sl 54 (B zz)], [.box (ApiGraph.cl g) 24 false, .gone]⟩) false h (by kernel_rfl)
 intro x54 h
 replace h := hJ _ h
 show En c ⟨[sl 1 (.ptr 0 0), sl 34 (I (g.fArrows.length : Int)), sl 35 (I x35), sl 54 (B x54)], [.box (ApiGraph.cl g) 24 false, .gone]⟩ _
 refine En.cond (b := x54) (by kernel_rfl) (fun hb => ?_) (fun hb => ?_)
 replace h := h.1 hb
 refine En.seq ?_
 refine En.region ?_
 refine WL.run ht hn 1 ⟨[sl 2 (I 3)], [.gone, .gone]⟩ (by kernel_rfl) ?_
 refine WL.nil ?_
 refine En.ret ?_
 exact En.back ht 3 h (by kernel_rfl) rfl
 replace h := h.2 hb
 refine En.skip ?_
 refine En.region ?_
 refine WL.run ht hn 2 ⟨[sl 1 (.ptr 0 0), sl 34 (I (g.fArrows.length : Int)), sl 35 (I (wr (x35 + 1)))], [.box (ApiGraph.cl g) 24 false, .gone]⟩ (by kernel_rfl) ?_
 refine WL.nil ?_
 exact En.at (I := fun zz => Inv zz ∧ mu zz < mu x35) (T := fun zz => ⟨[sl 1 (.ptr 0 0), sl 34 (I (g.fArrows.length : Int)), sl 35 (I zz)], [.box (ApiGraph.cl g) 24 false, .gone]⟩) (wr (x35 + 1)) h (by kernel_rfl)
 replace h := h.2 hb
 refine En.exit rfl ?_
 refine En.seq ?_
 refine En.region ?_
 refine WL.run ht hn 1 ⟨[sl 2 (I 0)], [.gone, .gone]⟩ (by kernel_rfl) ?_
 refine WL.nil ?_
 refine En.ret ?_
 exact En.back ht 0 h (by kernel_rfl) rfl
theorem en20 : ∀ args w, (callFunc 20 args).run Try.prog w = .ok (.enter 20 args) w := enters_of Try.func20 (by kernel_rfl) rfl
def samLate (g : ApiGraph) : Bool := (List.range g.fArrows.length).any fun i => decide (0 < i) && decide (ordA (g.fArrows.getD (i - 1) default) (g.fArrows.getD i default) ≥ 0)
def samErr (g : ApiGraph) : Int := if (decide (g.fLetters < 1)) || (decide (g.fLetters > 4)) then 2 else if ((decide (g.fPlaces < 1)) || (decide (g.fPlaces > 12))) || (decide ((g.fArrows.length : Int) > 60)) then 1 else if g.fArrows.any (offA (offG g) g) then 2 else if samLate g then 3 else 0
structure GraphOk (g : ApiGraph) : Prop where
 let_ : 1 ≤ g.fLetters ∧ g.fLetters ≤ 4
 pl : 1 ≤ g.fPlaces ∧ g.fPlaces ≤ 12
 len : g.fArrows.length ≤ 60
 arr : ∀ x ∈ g.fArrows, (0 ≤ x.fFrom ∧ x.fFrom < g.fPlaces) ∧ (0 ≤ x.fTo ∧ x.fTo < g.fPlaces) ∧ 0 ≤ x.fLetter ∧ x.fLetter < g.fLetters
theorem samErr_ok {g : ApiGraph} (h : samErr g = 0) : GraphOk g := by
 unfold samErr at h
 by_cases h1 : ((decide (g.fLetters < 1)) || (decide (g.fLetters > 4))) = true
 ·rw [if_pos h1] at h; cases h
 rw [if_neg h1] at h
 by_cases h2 : (((decide (g.fPlaces < 1)) || (decide (g.fPlaces > 12))) || (decide ((g.fArrows.length : Int) > 60))) = true
 ·rw [if_pos h2] at h; cases h
 rw [if_neg h2] at h
 by_cases h3 : g.fArrows.any (offA (offG g) g) = true
 ·rw [if_pos h3] at h; cases h
 simp only [Bool.not_eq_true, Bool.or_eq_false_iff, decide_eq_false_iff_not] at h1 h2
 rw [Bool.not_eq_true, List.any_eq_false] at h3
 refine ⟨by omega, by omega, by omega, fun x hx => ?_⟩
 have := h3 x hx
 unfold offA offG at this
 simp at this
 omega
theorem idx_getS {α : Type} {l : List α} {s : Nat} (z : α) (h : s < l.length) : idx l (s : Int) = some (l.getD s z) := by
 have := idx_of (l := l) (i := (s : Int)) z (by omega) (by omega)
 rwa [Int.toNat_natCast] at this
theorem samCheck_ct (g : ApiGraph)  : Ct 20 [.sv (.agg [I g.fLetters, I g.fPlaces, LS ApiArrow.ty g.fArrows])] [] (fun (_ : Unit) => True) (fun _ => .sv (.one (I (samErr g)))) := by
 refine (samCheck_walk g (fun res_ => res_ = (samErr g)) ?_).fun
 unfold samCheck_vc
 intro _
 refine ⟨fun h => ?_, fun h1 => ⟨fun h => ?_, fun h2 => ⟨fun _ _ => ⟨trivial, trivial⟩, fun h => ?_, fun h3 => ?_⟩⟩⟩
 ·show 2 = _; unfold samErr; rw [if_pos h]
 ·show 1 = _; unfold samErr; rw [if_neg (by rw [h1]; decide), if_pos h]
 ·show 2 = _; unfold samErr; rw [if_neg (by rw [h1]; decide), if_neg (by rw [h2]; decide), if_pos h]
 have he : samErr g = if samLate g then 3 else 0 := by unfold samErr; rw [if_neg (by rw [h1]; decide), if_neg (by rw [h2]; decide), if_neg (by rw [h3]; decide)]
 rw [he]
 refine ⟨fun i => ∃ k : Nat, i = k ∧ k ≤ g.fArrows.length ∧ ∀ j, j < k → (decide (0 < j) && decide (ordA (g.fArrows.getD (j - 1) default) (g.fArrows.getD j default) ≥ 0)) = false, fun i => g.fArrows.length - i.toNat, ⟨0, rfl, Nat.zero_le _, fun j hj => absurd hj (Nat.not_lt_zero _)⟩, ?_⟩
 rintro i ⟨k, rfl, hk, hf⟩
 simp only [Bool.or_eq_false_iff, decide_eq_false_iff_not] at h2
 refine ⟨fun hb => ?_, fun hb => ?_⟩
 ·have hlt := dlt hb
  refine ⟨fun b => b = (decide (0 < k) && decide (ordA (g.fArrows.getD (k - 1) default) (g.fArrows.getD k default) ≥ 0)), ⟨fun hc => ?_, fun hc => ?_⟩, ?_⟩
  ·have hc : (k : Int) > 0 := of_decide_eq_true hc
   have hw : wr ((k : Int) - 1) = ((k - 1 : Nat) : Int) := by rw [wr_in (by omega) (by omega)]; omega
   refine ⟨_, by rw [hw]; exact idx_getS default (by omega), _, idx_getS default hlt, ?_⟩
   show decide _ = (_ && _)
   rw [decide_eq_true (show 0 < k by omega), Bool.true_and]
  ·have hc := of_decide_eq_false hc
   show false = (_ && _)
   rw [decide_eq_false (show ¬ 0 < k by omega)]
   rfl
  ·rintro b rfl
   refine ⟨fun hc => ?_, fun hc => ⟨⟨k + 1, wsucc (by omega), hlt, fun j hj => ?_⟩, mu_up hlt (by omega)⟩⟩
   ·have : samLate g = true := by
     unfold samLate
     exact List.any_eq_true.2 ⟨k, List.mem_range.2 hlt, hc⟩
    rw [if_pos this]
   ·by_cases e : j = k
    ·rw [e]; exact hc
    ·exact hf j (by omega)
 ·have : samLate g = false := by
   unfold samLate
   rw [List.any_eq_false]
   intro j hj
   rw [hf j (by have := List.mem_range.1 hj; have := dge hb; omega)]
   decide
  rw [this]
  rfl
def samA1_vc (y : ApiArrow) (q : Int) (x : ApiArrow) (domok : ((Int × Int) → Prop)) (ok : ((Int × Int) → Bool)) (Q : Bool → Prop) : Prop :=
 ∃ J : Bool → Prop, (IfP (y.fFrom == q) (IfP (y.fLetter == x.fLetter) ((domok (x.fTo, y.fTo)) ∧
 J (ok (x.fTo, y.fTo))) (J false)) (J false)) ∧
 (∀ (x5 : Bool), J x5 → Q x5)
theorem samA1_walk (y : ApiArrow) (q : Int) (x : ApiArrow) (domok : ((Int × Int) → Prop)) (ok : ((Int × Int) → Bool)) (Q : Bool → Prop) (h : samA1_vc y q x domok ok Q) : Ct 108 [.sv (.agg [I y.fFrom, I y.fLetter, I y.fTo]), .sv (.one (.ptr 0 0)), .sv (.one (.ptr 1 0)), .sv (.one (.ptr 2 0))] [.box [I q] 3 true, .box [I x.fFrom, I x.fLetter, I x.fTo] 26 true, .box [.rd (fvR (fun (x : (Int × Int)) => [.sv (.one (I x.1)), .sv (.one (I x.2))]) (fun (r : Bool) => .sv (.one (B r))) domok ok)] 136 true] Q (fun (r : Bool) => .sv (.one (B r))) := by
 have ht := tab_ok
 refine Ct.body Try.func108 rfl rfl rfl rfl (fun c hn => ?_)
 unfold samA1_vc at h
 refine En.seq ?_
 refine En.region ?_
 refine WL.run ht hn 2 ⟨[sl 1 (.ptr 0 0), sl 2 (.ptr 1 0), sl 3 (.ptr 2 0), sl 4 (.ptr 3 0)], [.box [I q] 3 true, .box (ApiArrow.cl x) 26 true, .box [.rd (fvR (fun (x : (Int × Int)) => [.sv (.one (I x.1)), .sv (.one (I x.2))]) (fun (r : Bool) => .sv (.one (B r))) domok ok)] 136 true, .box (ApiArrow.cl y) 26 false]⟩ (by kernel_rfl) ?_
 refine WL.nil ?_
 obtain ⟨J, h, hJ⟩ := h
 refine En.seqJ (σ := Bool) (fun zz => J zz) (fun zz => ⟨[sl 5 (B zz)], [.gone, .gone, .gone, .gone]⟩) ?_ ?_
 refine En.region ?_
 refine WL.run ht hn 5 ⟨[sl 2 (.ptr 1 0), sl 3 (.ptr 2 0), sl 4 (.ptr 3 0), sl 10 (B (y.fFrom == q))], [.gone, .box (ApiArrow.cl x) 26 true, .box [.rd (fvR (fun (x : (Int × Int)) => [.sv (.one (I x.1)), .sv (.one (I x.2))]) (fun (r : Bool) => .sv (.one (B r))) domok ok)] 136 true, .box (ApiArrow.cl y) 26 false]⟩ (by kernel_rfl) ?_
 refine splitB (y.fFrom == q) (fun hb => ?_) (fun hb => ?_)
 replace h := h.1 hb
 refine WL.setB 10 hb (by kernel_rfl) ?_
 refine WL.run ht hn 7 ⟨[sl 2 (.ptr 1 0), sl 3 (.ptr 2 0), sl 4 (.ptr 3 0), sl 17 (B (y.fLetter == x.fLetter))], [.gone, .box (ApiArrow.cl x) 26 true, .box [.rd (fvR (fun (x : (Int × Int)) => [.sv (.one (I x.1)), .sv (.one (I x.2))]) (fun (r : Bool) => .sv (.one (B r))) domok ok)] 136 true, .box (ApiArrow.cl y) 26 false]⟩ (by kernel_rfl) ?_
 refine splitB (y.fLetter == x.fLetter) (fun hb => ?_) (fun hb => ?_)
 replace h := h.1 hb
 refine WL.setB 17 hb (by kernel_rfl) ?_
 refine WL.run ht hn 5 ⟨[sl 17 (B true), sl 18 (.rd (fvR (fun (x : (Int × Int)) => [.sv (.one (I x.1)), .sv (.one (I x.2))]) (fun (r : Bool) => .sv (.one (B r))) domok ok)), sl 20 (I x.fTo), sl 22 (I y.fTo)], [.gone, .gone, .gone, .gone]⟩ (by kernel_rfl) ?_
 have hp := h.1
 replace h := h.2
 refine WL.mt0 (K := []) (p := none) hn (by rfl) (mt_callv (x.fTo, y.fTo) hp rfl (by rfl) (by rfl) (by rfl) (by rfl)) (by rfl) (by rfl) (by rfl) ?_
 refine WL.run ht hn 2 ⟨[sl 5 (B (ok (x.fTo, y.fTo)))], [.gone, .gone, .gone, .gone]⟩ (by kernel_rfl) ?_
 refine WL.nil ?_
 exact En.at (I := fun zz => J zz) (T := fun zz => ⟨[sl 5 (B zz)], [.gone, .gone, .gone, .gone]⟩) (ok (x.fTo, y.fTo)) h (by kernel_rfl)
 replace h := h.2 hb
 refine WL.setB 17 hb (by kernel_rfl) ?_
 refine WL.run ht hn 8 ⟨[sl 5 (B false)], [.gone, .gone, .gone, .gone]⟩ (by kernel_rfl) ?_
 refine WL.nil ?_
 exact En.at (I := fun zz => J zz) (T := fun zz => ⟨[sl 5 (B zz)], [.gone, .gone, .gone, .gone]⟩) false h (by kernel_rfl)
 replace h := h.2 hb
 refine WL.setB 10 hb (by kernel_rfl) ?_
 refine WL.run ht hn 15 ⟨[sl 5 (B false)], [.gone, .gone, .gone, .gone]⟩ (by kernel_rfl) ?_
 refine WL.nil ?_
 exact En.at (I := fun zz => J zz) (T := fun zz => ⟨[sl 5 (B zz)], [.gone, .gone, .gone, .gone]⟩) false h (by kernel_rfl)
 intro x5 h
 replace h := hJ _ h
 show En c ⟨[sl 5 (B x5)], [.gone, .gone, .gone, .gone]⟩ _
 refine En.ret ?_
 exact En.back ht x5 h (by kernel_rfl) rfl
theorem en108 : ∀ args w, (callFunc 108 args).run Try.prog w = .ok (.enter 108 args) w := enters_of Try.func108 (by kernel_rfl) rfl
def ansOne (q : Int) (x : ApiArrow) (ok : Int × Int → Bool) (y : ApiArrow) : Bool := (y.fFrom == q) && ((y.fLetter == x.fLetter) && ok (x.fTo, y.fTo))
def ansDom (x : ApiArrow) (dom : Int × Int → Prop) (y : ApiArrow) : Prop := dom (x.fTo, y.fTo)
theorem samA1_ct (y : ApiArrow) (q : Int) (x : ApiArrow) (domok : ((Int × Int) → Prop)) (ok : ((Int × Int) → Bool)) (hp : ansDom x domok y)  : Ct 108 [.sv (.agg [I y.fFrom, I y.fLetter, I y.fTo]), .sv (.one (.ptr 0 0)), .sv (.one (.ptr 1 0)), .sv (.one (.ptr 2 0))] [.box [I q] 3 true, .box [I x.fFrom, I x.fLetter, I x.fTo] 26 true, .box [.rd (fvR (fun (x : (Int × Int)) => [.sv (.one (I x.1)), .sv (.one (I x.2))]) (fun (r : Bool) => .sv (.one (B r))) domok ok)] 136 true] (fun (_ : Unit) => True) (fun _ => .sv (.one (B (ansOne q x ok y)))) := by
 refine (samA1_walk y q x domok ok (fun res_ => res_ = (ansOne q x ok y)) ?_).fun
 unfold samA1_vc
 refine ⟨fun b => b = ansOne q x ok y, ⟨fun h => ⟨fun h2 => ⟨hp, ?_⟩, fun h2 => ?_⟩, fun h => ?_⟩, fun _ h => h⟩
 ·show _ = _; unfold ansOne; rw [h, h2]; rfl
 ·show _ = _; unfold ansOne; rw [h, h2]; rfl
 ·show _ = _; unfold ansOne; rw [h]; rfl
def samAns_vc (g : ApiGraph) (p : Int) (q : Int) (domok : ((Int × Int) → Prop)) (ok : ((Int × Int) → Bool)) (Q : Bool → Prop) : Prop :=
 g.fArrows.length ≤ 9223372036854775807 →
 (∃ (Inv : Int → Prop) (mu : Int → Nat), Inv 0 ∧
 ∀ (x14 : Int) , Inv x14 → (IfP (decide (x14 < (g.fArrows.length : Int))) (∃ e, idx g.fArrows x14 = some e ∧
 ∃ J : Bool → Prop, (IfP (e.fFrom == p) ((∀ x_ ∈ g.fArrows, (ansDom e domok) x_) ∧
 J (!(g.fArrows.any (ansOne q e ok)))) (J false)) ∧
 (∀ (x28 : Bool), J x28 → IfP x28 (Q false) ((Inv (wr (x14 + 1)) ∧ mu (wr (x14 + 1)) < mu x14)))) (Q true)))
theorem samAns_walk (g : ApiGraph) (p : Int) (q : Int) (domok : ((Int × Int) → Prop)) (ok : ((Int × Int) → Bool)) (Q : Bool → Prop) (h : samAns_vc g p q domok ok Q) : Ct 71 [.sv (.agg [I g.fLetters, I g.fPlaces, LS ApiArrow.ty g.fArrows]), .sv (.one (I p)), .sv (.one (I q)), .sv (.one (.rd (fvR (fun (x : (Int × Int)) => [.sv (.one (I x.1)), .sv (.one (I x.2))]) (fun (r : Bool) => .sv (.one (B r))) domok ok)))] [] Q (fun (r : Bool) => .sv (.one (B r))) := by
 have ht := tab_ok
 refine Ct.body Try.func71 rfl rfl rfl rfl (fun c hn => ?_)
 unfold samAns_vc at h
 refine En.lenA 0 2 (by rfl) (by rfl) (fun hl => ?_)
 replace h := h hl
 clear hl
 refine En.seq ?_
 refine En.region ?_
 refine WL.run ht hn 4 ⟨[sl 1 (I p), sl 4 (.ptr 0 0), sl 6 (.ptr 1 0), sl 7 (.ptr 2 0)], [.box (ApiGraph.cl g) 24 false, .box [I q] 3 false, .box [.rd (fvR (fun (x : (Int × Int)) => [.sv (.one (I x.1)), .sv (.one (I x.2))]) (fun (r : Bool) => .sv (.one (B r))) domok ok)] 136 false]⟩ (by kernel_rfl) ?_
 refine WL.nil ?_
 refine En.seq ?_
 refine En.seq ?_
 refine En.region ?_
 refine WL.run ht hn 4 ⟨[sl 1 (I p), sl 4 (.ptr 0 0), sl 6 (.ptr 1 0), sl 7 (.ptr 2 0), sl 12 (LS ApiArrow.ty g.fArrows), sl 13 (I (g.fArrows.length : Int)), sl 14 (I 0)], [.box (ApiGraph.cl g) 24 false, .box [I q] 3 false, .box [.rd (fvR (fun (x : (Int × Int)) => [.sv (.one (I x.1)), .sv (.one (I x.2))]) (fun (r : Bool) => .sv (.one (B r))) domok ok)] 136 false]⟩ (by kernel_rfl) ?_
 refine WL.nil ?_
 refine En.block ?_
 obtain ⟨Inv, mu, h0, hI⟩ := h
 refine En.loop (σ := Int) (fun zz => Inv zz) (fun zz => mu zz) (fun zz => ⟨[sl 1 (I p), sl 4 (.ptr 0 0), sl 6 (.ptr 1 0), sl 7 (.ptr 2 0), sl 12 (LS ApiArrow.ty g.fArrows), sl 13 (I (g.fArrows.length : Int)), sl 14 (I zz)], [.box (ApiGraph.cl g) 24 false, .box [I q] 3 false, .box [.rd (fvR (fun (x : (Int × Int)) => [.sv (.one (I x.1)), .sv (.one (I x.2))]) (fun (r : Bool) => .sv (.one (B r))) domok ok)] 136 false]⟩) 0 h0 (sub_ok (by kernel_rfl)) ?_
 intro x14 h
 replace h := hI _ h
 show En c ⟨[sl 1 (I p), sl 4 (.ptr 0 0), sl 6 (.ptr 1 0), sl 7 (.ptr 2 0), sl 12 (LS ApiArrow.ty g.fArrows), sl 13 (I (g.fArrows.length : Int)), sl 14 (I x14)], [.box (ApiGraph.cl g) 24 false, .box [I q] 3 false, .box [.rd (fvR (fun (x : (Int × Int)) => [.sv (.one (I x.1)), .sv (.one (I x.2))]) (fun (r : Bool) => .sv (.one (B r))) domok ok)] 136 false]⟩ _
 refine En.seq ?_
 refine En.region ?_
 refine WL.run ht hn 1 ⟨[sl 1 (I p), sl 4 (.ptr 0 0), sl 6 (.ptr 1 0), sl 7 (.ptr 2 0), sl 12 (LS ApiArrow.ty g.fArrows), sl 13 (I (g.fArrows.length : Int)), sl 14 (I x14), sl 15 (B (decide (x14 < (g.fArrows.length : Int))))], [.box (ApiGraph.cl g) 24 false, .box [I q] 3 false, .box [.rd (fvR (fun (x : (Int × Int)) => [.sv (.one (I x.1)), .sv (.one (I x.2))]) (fun (r : Bool) => .sv (.one (B r))) domok ok)] 136 false]⟩ (by kernel_rfl) ?_
 refine WL.nil ?_
 refine En.seq ?_
 refine En.cond (b := (decide (x14 < (g.fArrows.length : Int)))) (by kernel_rfl) (fun hb => ?_) (fun hb => ?_)
 replace h := h.1 hb
 refine En.skip ?_
 refine En.seq ?_
 refine En.block ?_
 refine En.seq ?_
 refine En.region ?_
 obtain ⟨e, he, h⟩ := h
 refine WL.val hn (by rfl) (val_index (T := ApiArrow.ty) (l := g.fArrows) (i := x14) ht rfl (by rfl) (by rfl) (by rfl) (by rfl) (by rfl) (by rfl) he) (by rfl) ?_
 refine WL.val hn (by rfl) (val_load (s := .agg (ApiArrow.cl e)) ht rfl (by rfl) (by rfl) (by rfl) (by rfl) (by rfl)) (by rfl) ?_
 refine WL.run ht hn 2 ⟨[sl 1 (I p), sl 4 (.ptr 0 0), sl 6 (.ptr 1 0), sl 7 (.ptr 2 0), sl 10 (.ptr 3 0), sl 12 (LS ApiArrow.ty g.fArrows), sl 13 (I (g.fArrows.length : Int)), sl 14 (I x14)], [.box (ApiGraph.cl g) 24 false, .box [I q] 3 false, .box [.rd (fvR (fun (x : (Int × Int)) => [.sv (.one (I x.1)), .sv (.one (I x.2))]) (fun (r : Bool) => .sv (.one (B r))) domok ok)] 136 false, .box (ApiArrow.cl e) 26 false]⟩ (by kernel_rfl) ?_
 refine WL.nil ?_
 obtain ⟨J, h, hJ⟩ := h
 refine En.seqJ (σ := Bool) (fun zz => J zz) (fun zz => ⟨[sl 1 (I p), sl 4 (.ptr 0 0), sl 6 (.ptr 1 0), sl 7 (.ptr 2 0), sl 12 (LS ApiArrow.ty g.fArrows), sl 13 (I (g.fArrows.length : Int)), sl 14 (I x14), sl 28 (B zz)], [.box (ApiGraph.cl g) 24 false, .box [I q] 3 false, .box [.rd (fvR (fun (x : (Int × Int)) => [.sv (.one (I x.1)), .sv (.one (I x.2))]) (fun (r : Bool) => .sv (.one (B r))) domok ok)] 136 false, .gone]⟩) ?_ ?_
 refine En.region ?_
 refine WL.run ht hn 5 ⟨[sl 1 (I p), sl 4 (.ptr 0 0), sl 6 (.ptr 1 0), sl 7 (.ptr 2 0), sl 10 (.ptr 3 0), sl 12 (LS ApiArrow.ty g.fArrows), sl 13 (I (g.fArrows.length : Int)), sl 14 (I x14), sl 22 (B (e.fFrom == p))], [.box (ApiGraph.cl g) 24 false, .box [I q] 3 false, .box [.rd (fvR (fun (x : (Int × Int)) => [.sv (.one (I x.1)), .sv (.one (I x.2))]) (fun (r : Bool) => .sv (.one (B r))) domok ok)] 136 false, .box (ApiArrow.cl e) 26 false]⟩ (by kernel_rfl) ?_
 refine splitB (e.fFrom == p) (fun hb => ?_) (fun hb => ?_)
 replace h := h.1 hb
 refine WL.setB 22 hb (by kernel_rfl) ?_
 refine WL.run ht hn 3 ⟨[sl 1 (I p), sl 4 (.ptr 0 0), sl 6 (.ptr 1 0), sl 7 (.ptr 2 0), sl 12 (LS ApiArrow.ty g.fArrows), sl 13 (I (g.fArrows.length : Int)), sl 14 (I x14), sl 22 (B true), sl 24 (LS ApiArrow.ty g.fArrows), sl 25 (.fn 108 [1, 3, 2])], [.box (ApiGraph.cl g) 24 false, .box [I q] 3 false, .box [.rd (fvR (fun (x : (Int × Int)) => [.sv (.one (I x.1)), .sv (.one (I x.2))]) (fun (r : Bool) => .sv (.one (B r))) domok ok)] 136 false, .box (ApiArrow.cl e) 26 false]⟩ (by kernel_rfl) ?_
 have hp := h.1
 replace h := h.2
 refine WL.mt0 (K := []) (p := none) hn (by rfl) (mt_lendF [1, 3, 2] (by rfl) (by rfl) (mt_ghost 25 (o1 (.rd (fvR (fun (x_ : ApiArrow) => [.sv (.agg (ApiArrow.cl x_))]) (fun (r : Bool) => .sv (.one (B r))) (ansDom e domok) (ansOne q e ok)))) (by rfl) (fv_of (M := [.box [I q] 3 true, .box (ApiArrow.cl e) 26 true, .box [.rd (fvR (fun (x : (Int × Int)) => [.sv (.one (I x.1)), .sv (.one (I x.2))]) (fun (r : Bool) => .sv (.one (B r))) domok ok)] 136 true]) (caps := [1, 3, 2]) (fun x_ hx => samA1_ct x_ q e domok ok hx) en108 rfl (by kernel_rfl) (by rfl) (fun _ => rfl)) (mt_call (anyApiArrow_ct g.fArrows (ansDom e domok) (ansOne q e ok) hp) en43 (caps := []) [] rfl (by rfl) (by kernel_rfl) (by kernel_rfl) (by rfl) (by rfl) (by rfl)))) (by rfl) (by rfl) (by rfl) ?_
 refine WL.run ht hn 2 ⟨[sl 1 (I p), sl 4 (.ptr 0 0), sl 6 (.ptr 1 0), sl 7 (.ptr 2 0), sl 12 (LS ApiArrow.ty g.fArrows), sl 13 (I (g.fArrows.length : Int)), sl 14 (I x14), sl 28 (B (!(g.fArrows.any (ansOne q e ok))))], [.box (ApiGraph.cl g) 24 false, .box [I q] 3 false, .box [.rd (fvR (fun (x : (Int × Int)) => [.sv (.one (I x.1)), .sv (.one (I x.2))]) (fun (r : Bool) => .sv (.one (B r))) domok ok)] 136 false, .gone]⟩ (by kernel_rfl) ?_
 refine WL.nil ?_
 exact En.at (I := fun zz => J zz) (T := fun zz => ⟨[sl 1 (I p), sl 4 (.ptr 0 0), sl 6 (.ptr 1 0), sl 7 (.ptr 2 0), sl 12 (LS ApiArrow.ty g.fArrows), sl 13 (I (g.fArrows.length : Int)), sl 14 (I x14), sl 28 (B zz)], [.box (ApiGraph.cl g) 24 false, .box [I q] 3 false, .box [.rd (fvR (fun (x : (Int × Int)) => [.sv (.one (I x.1)), .sv (.one (I x.2))]) (fun (r : Bool) => .sv (.one (B r))) domok ok)] 136 false, .gone]⟩) (!(g.fArrows.any (ansOne q e ok))) h (by kernel_rfl)
 replace h := h.2 hb
 refine WL.setB 22 hb (by kernel_rfl) ?_
 refine WL.run ht hn 6 ⟨[sl 1 (I p), sl 4 (.ptr 0 0), sl 6 (.ptr 1 0), sl 7 (.ptr 2 0), sl 12 (LS ApiArrow.ty g.fArrows), sl 13 (I (g.fArrows.length : Int)), sl 14 (I x14), sl 28 (B false)], [.box (ApiGraph.cl g) 24 false, .box [I q] 3 false, .box [.rd (fvR (fun (x : (Int × Int)) => [.sv (.one (I x.1)), .sv (.one (I x.2))]) (fun (r : Bool) => .sv (.one (B r))) domok ok)] 136 false, .gone]⟩ (by kernel_rfl) ?_
 refine WL.nil ?_
 exact En.at (I := fun zz => J zz) (T := fun zz => ⟨[sl 1 (I p), sl 4 (.ptr 0 0), sl 6 (.ptr 1 0), sl 7 (.ptr 2 0), sl 12 (LS ApiArrow.ty g.fArrows), sl 13 (I (g.fArrows.length : Int)), sl 14 (I x14), sl 28 (B zz)], [.box (ApiGraph.cl g) 24 false, .box [I q] 3 false, .box [.rd (fvR (fun (x : (Int × Int)) => [.sv (.one (I x.1)), .sv (.one (I x.2))]) (fun (r : Bool) => .sv (.one (B r))) domok ok)] 136 false, .gone]⟩) false h (by kernel_rfl)
 intro x28 h
 replace h := hJ _ h
 show En c ⟨[sl 1 (I p), sl 4 (.ptr 0 0), sl 6 (.ptr 1 0), sl 7 (.ptr 2 0), sl 12 (LS ApiArrow.ty g.fArrows), sl 13 (I (g.fArrows.length : Int)), sl 14 (I x14), sl 28 (B x28)], [.box (ApiGraph.cl g) 24 false, .box [I q] 3 false, .box [.rd (fvR (fun (x : (Int × Int)) => [.sv (.one (I x.1)), .sv (.one (I x.2))]) (fun (r : Bool) => .sv (.one (B r))) domok ok)] 136 false, .gone]⟩ _
 refine En.cond (b := x28) (by kernel_rfl) (fun hb => ?_) (fun hb => ?_)
 replace h := h.1 hb
 refine En.seq ?_
 refine En.region ?_
 refine WL.run ht hn 1 ⟨[sl 8 (B false)], [.gone, .gone, .gone, .gone]⟩ (by kernel_rfl) ?_
 refine WL.nil ?_
 refine En.ret ?_
 exact En.back ht false h (by kernel_rfl) rfl
 replace h := h.2 hb
 refine En.skip ?_
 refine En.region ?_
 refine WL.run ht hn 2 ⟨[sl 1 (I p), sl 4 (.ptr 0 0), sl 6 (.ptr 1 0), sl 7 (.ptr 2 0), sl 12 (LS ApiArrow.ty g.fArrows), sl 13 (I (g.fArrows.length : Int)), sl 14 (I (wr (x14 + 1)))], [.box (ApiGraph.cl g) 24 false, .box [I q] 3 false, .box [.rd (fvR (fun (x : (Int × Int)) => [.sv (.one (I x.1)), .sv (.one (I x.2))]) (fun (r : Bool) => .sv (.one (B r))) domok ok)] 136 false, .gone]⟩ (by kernel_rfl) ?_
 refine WL.nil ?_
 exact En.at (I := fun zz => Inv zz ∧ mu zz < mu x14) (T := fun zz => ⟨[sl 1 (I p), sl 4 (.ptr 0 0), sl 6 (.ptr 1 0), sl 7 (.ptr 2 0), sl 12 (LS ApiArrow.ty g.fArrows), sl 13 (I (g.fArrows.length : Int)), sl 14 (I zz)], [.box (ApiGraph.cl g) 24 false, .box [I q] 3 false, .box [.rd (fvR (fun (x : (Int × Int)) => [.sv (.one (I x.1)), .sv (.one (I x.2))]) (fun (r : Bool) => .sv (.one (B r))) domok ok)] 136 false]⟩) (wr (x14 + 1)) h (by kernel_rfl)
 replace h := h.2 hb
 refine En.exit rfl ?_
 refine En.seq ?_
 refine En.region ?_
 refine WL.run ht hn 1 ⟨[sl 8 (B true)], [.gone, .gone, .gone]⟩ (by kernel_rfl) ?_
 refine WL.nil ?_
 refine En.ret ?_
 exact En.back ht true h (by kernel_rfl) rfl
theorem en71 : ∀ args w, (callFunc 71 args).run Try.prog w = .ok (.enter 71 args) w := enters_of Try.func71 (by kernel_rfl) rfl
def ansB (g : ApiGraph) (p q : Int) (ok : Int × Int → Bool) : Bool := g.fArrows.all fun x => !(x.fFrom == p && !(g.fArrows.any (ansOne q x ok)))
def ansPre (g : ApiGraph) (dom : Int × Int → Prop) : Prop := ∀ x ∈ g.fArrows, ∀ y ∈ g.fArrows, dom (x.fTo, y.fTo)
theorem samAns_ct (g : ApiGraph) (p : Int) (q : Int) (domok : ((Int × Int) → Prop)) (ok : ((Int × Int) → Bool)) (hp : ansPre g domok)  : Ct 71 [.sv (.agg [I g.fLetters, I g.fPlaces, LS ApiArrow.ty g.fArrows]), .sv (.one (I p)), .sv (.one (I q)), .sv (.one (.rd (fvR (fun (x : (Int × Int)) => [.sv (.one (I x.1)), .sv (.one (I x.2))]) (fun (r : Bool) => .sv (.one (B r))) domok ok)))] [] (fun (_ : Unit) => True) (fun _ => .sv (.one (B (ansB g p q ok)))) := by
 refine (samAns_walk g p q domok ok (fun res_ => res_ = (ansB g p q ok)) ?_).fun
 unfold samAns_vc
 intro _
 refine ⟨fun i => ∃ k : Nat, i = k ∧ k ≤ g.fArrows.length ∧ ansB g p q ok = (g.fArrows.drop k).all fun x => !(x.fFrom == p && !(g.fArrows.any (ansOne q x ok))), fun i => g.fArrows.length - i.toNat, ⟨0, rfl, Nat.zero_le _, rfl⟩, ?_⟩
 rintro i ⟨k, rfl, hk, he⟩
 refine ⟨fun hb => ?_, fun hb => ?_⟩
 ·have hlt := dlt hb
  rw [List.drop_eq_getElem_cons hlt, List.all_cons] at he
  refine ⟨_, idx_at hlt, fun b => b = (g.fArrows[k].fFrom == p && !(g.fArrows.any (ansOne q g.fArrows[k] ok))), ⟨fun h => ⟨fun y hy => hp _ (List.getElem_mem hlt) y hy, ?_⟩, fun h => ?_⟩, ?_⟩
  ·show _ = _; rw [h]; rfl
  ·show _ = _; rw [h]; rfl
  ·rintro b rfl
   refine ⟨fun h => ?_, fun h => ⟨⟨k + 1, wsucc (by omega), hlt, ?_⟩, mu_up hlt (by omega)⟩⟩
   ·rw [h] at he
    exact he.symm
   ·rw [h] at he
    exact he
 ·rw [List.drop_eq_nil_of_le (dge hb)] at he
  exact he.symm
def samR1_vc (a : Int) (b : Int) (cl : (List Int)) (Q : Bool → Prop) : Prop :=
 ∃ e, idx cl a = some e ∧
 ∃ e_2, idx cl b = some e_2 ∧
 Q (e == e_2)
theorem samR1_walk (a : Int) (b : Int) (cl : (List Int)) (Q : Bool → Prop) (h : samR1_vc a b cl Q) : Ct 68 [.sv (.one (I a)), .sv (.one (I b)), .sv (.one (.ptr 0 0))] [.box [LS intT cl] 37 true] Q (fun (r : Bool) => .sv (.one (B r))) := by
 have ht := tab_ok
 refine Ct.body Try.func68 rfl rfl rfl rfl (fun c hn => ?_)
 unfold samR1_vc at h
 refine En.seq ?_
 refine En.region ?_
 refine WL.run ht hn 1 ⟨[sl 0 (I a), sl 1 (I b), sl 2 (.ptr 0 0)], [.box [LS intT cl] 37 true]⟩ (by kernel_rfl) ?_
 refine WL.nil ?_
 refine En.seq ?_
 refine En.regionS (by kernel_rfl) (by kernel_rfl) ?_
 refine SL.run ht hn 2 ⟨[sl 0 (I a), sl 1 (I b), sl 2 (.ptr 0 0), sl 6 (LS intT cl), sl 7 (I a)], [.box [LS intT cl] 37 true]⟩ (by kernel_rfl) ?_
 obtain ⟨e, he, h⟩ := h
 refine SL.val hn (by rfl) (val_index (T := intT) (l := cl) (i := a) ht rfl (by rfl) (by rfl) (by rfl) (by rfl) (by rfl) (by rfl) he) (by rfl) ?_
 refine SL.val hn (by rfl) (val_load (s := .one (I e)) ht rfl (by rfl) (by rfl) (by rfl) (by rfl) (by rfl)) (by rfl) ?_
 refine SL.run ht hn 2 ⟨[sl 0 (I a), sl 1 (I b), sl 2 (.ptr 0 0), sl 6 (LS intT cl), sl 7 (I a), sl 8 (.pe (svR (.one (I e))) 1), sl 9 (I e), sl 10 (LS intT cl), sl 11 (I b)], [.box [LS intT cl] 37 true]⟩ (by kernel_rfl) ?_
 obtain ⟨e_2, he_2, h⟩ := h
 refine SL.val hn (by rfl) (val_index (T := intT) (l := cl) (i := b) ht rfl (by rfl) (by rfl) (by rfl) (by rfl) (by rfl) (by rfl) he_2) (by rfl) ?_
 refine SL.val hn (by rfl) (val_load (s := .one (I e_2)) ht rfl (by rfl) (by rfl) (by rfl) (by rfl) (by rfl)) (by rfl) ?_
 refine SL.run ht hn 2 ⟨[sl 0 (I a), sl 1 (I b), sl 2 (.ptr 0 0), sl 5 (B (e == e_2)), sl 6 (LS intT cl), sl 7 (I a), sl 8 (.pe (svR (.one (I e))) 1), sl 9 (I e), sl 10 (LS intT cl), sl 11 (I b), sl 12 (.pe (svR (.one (I e_2))) 1), sl 13 (I e_2), sl 14 (B (e == e_2))], [.box [LS intT cl] 37 true]⟩ (by kernel_rfl) ?_
 refine SL.nil ⟨by kernel_rfl, ?_⟩
 refine En.ret ?_
 exact En.back ht (e == e_2) h (by kernel_rfl) rfl
theorem en68 : ∀ args w, (callFunc 68 args).run Try.prog w = .ok (.enter 68 args) w := enters_of Try.func68 (by kernel_rfl) rfl
def alikeC (c : List Int) (y : Int × Int) : Bool := c.getD y.1.toNat 0 == c.getD y.2.toNat 0
def inC (c : List Int) (y : Int × Int) : Prop := (0 ≤ y.1 ∧ y.1 < c.length) ∧ (0 ≤ y.2 ∧ y.2 < c.length)
theorem samR1_ct (a : Int) (b : Int) (cl : (List Int)) (hp : inC cl (a, b))  : Ct 68 [.sv (.one (I a)), .sv (.one (I b)), .sv (.one (.ptr 0 0))] [.box [LS intT cl] 37 true] (fun (_ : Unit) => True) (fun _ => .sv (.one (B (alikeC cl (a, b))))) := by
 refine (samR1_walk a b cl (fun res_ => res_ = (alikeC cl (a, b))) ?_).fun
 unfold samR1_vc
 exact ⟨_, idx_of 0 hp.1.1 hp.1.2, _, idx_of 0 hp.2.1 hp.2.2, rfl⟩
def samR2_vc (q : Int) (cl : (List Int)) (p : Int) (g : ApiGraph) (domal : ((Int × Int) → Prop)) (al : ((Int × Int) → Bool)) (Q : Bool → Prop) : Prop :=
 ∃ J : Bool → Prop, (∃ e, idx cl p = some e ∧
 ∃ e_2, idx cl q = some e_2 ∧
 IfP (e == e_2) ((ansPre g domal) ∧
 IfP (ansB g p q al) ((ansPre g domal) ∧
 J (ansB g q p al)) (J false)) (J false)) ∧
 (∀ (x6 : Bool), J x6 → Q x6)
theorem samR2_walk (q : Int) (cl : (List Int)) (p : Int) (g : ApiGraph) (domal : ((Int × Int) → Prop)) (al : ((Int × Int) → Bool)) (Q : Bool → Prop) (h : samR2_vc q cl p g domal al Q) : Ct 70 [.sv (.one (I q)), .sv (.one (.ptr 0 0)), .sv (.one (.ptr 1 0)), .sv (.one (.ptr 2 0)), .sv (.one (.ptr 3 0))] [.box [LS intT cl] 37 true, .box [I p] 3 true, .box [I g.fLetters, I g.fPlaces, LS ApiArrow.ty g.fArrows] 24 true, .box [.rd (fvR (fun (x : (Int × Int)) => [.sv (.one (I x.1)), .sv (.one (I x.2))]) (fun (r : Bool) => .sv (.one (B r))) domal al)] 136 true] Q (fun (r : Bool) => .sv (.one (B r))) := by
 have ht := tab_ok
 refine Ct.body Try.func70 rfl rfl rfl rfl (fun c hn => ?_)
 unfold samR2_vc at h
 refine En.seq ?_
 refine En.region ?_
 refine WL.run ht hn 1 ⟨[sl 0 (I q), sl 1 (.ptr 0 0), sl 2 (.ptr 1 0), sl 3 (.ptr 2 0), sl 4 (.ptr 3 0)], [.box [LS intT cl] 37 true, .box [I p] 3 true, .box (ApiGraph.cl g) 24 true, .box [.rd (fvR (fun (x : (Int × Int)) => [.sv (.one (I x.1)), .sv (.one (I x.2))]) (fun (r : Bool) => .sv (.one (B r))) domal al)] 136 true]⟩ (by kernel_rfl) ?_
 refine WL.nil ?_
 obtain ⟨J, h, hJ⟩ := h
 refine En.seqJ (σ := Bool) (fun zz => J zz) (fun zz => ⟨[sl 6 (B zz)], [.gone, .gone, .gone, .gone]⟩) ?_ ?_
 obtain ⟨e, he, h⟩ := h
 obtain ⟨e_2, he_2, h⟩ := h
 refine splitB (e == e_2) (fun hb_2 => ?_) (fun hb_2 => ?_)
 replace h := h.1 hb_2
 have hp_2 := h.1
 replace h := h.2
 refine splitB (ansB g p q al) (fun hb_3 => ?_) (fun hb_3 => ?_)
 replace h := h.1 hb_3
 have hp_4 := h.1
 replace h := h.2
 refine En.regionA ⟨[sl 0 (I q), sl 1 (.ptr 0 0), sl 2 (.ptr 1 0), sl 3 (.ptr 2 0), sl 4 (.ptr 3 0)], [.sv (.one (LS intT cl)), .sv (.one (I p)), .sv (.one (.pe (svR (.one (I e))) 1)), .sv (.one (I e)), .sv (.one (LS intT cl)), .sv (.one (I q)), .sv (.one (.pe (svR (.one (I e_2))) 1)), .sv (.one (I e_2)), .sv (.one (B true)), .sv (.one (B true)), .sv (.agg (ApiGraph.cl g)), .sv (.one (I p)), .sv (.one (I q)), .sv (.one (.rd (fvR (fun (x : (Int × Int)) => [.sv (.one (I x.1)), .sv (.one (I x.2))]) (fun (r : Bool) => .sv (.one (B r))) domal al))), .sv (.one (B true)), .sv (.one (B true)), .sv (.one (B true)), .sv (.agg (ApiGraph.cl g)), .sv (.one (I q)), .sv (.one (I p)), .sv (.one (.rd (fvR (fun (x : (Int × Int)) => [.sv (.one (I x.1)), .sv (.one (I x.2))]) (fun (r : Bool) => .sv (.one (B r))) domal al))), .sv (.one (B (ansB g q p al))), .sv (.one (B (ansB g q p al))), .sv (.one (B (ansB g q p al)))], [⟨.box [LS intT cl] 37 true, none, none, none⟩, ⟨.box [I p] 3 true, none, none, none⟩, ⟨.box (ApiGraph.cl g) 24 true, none, none, none⟩, ⟨.box [.rd (fvR (fun (x : (Int × Int)) => [.sv (.one (I x.1)), .sv (.one (I x.2))]) (fun (r : Bool) => .sv (.one (B r))) domal al)] 136 true, none, none, none⟩]⟩ ⟨[sl 6 (B (ansB g q p al))], [.gone, .gone, .gone, .gone]⟩ (by kernel_rfl) hn (by kernel_rfl) (by rfl) (by kernel_rfl) ?_ (by kernel_rfl) ?_
 exact ⟨.mt ⟨[sl 1 (.ptr 0 0)], [.box [LS intT cl] 37 true]⟩ [] none (by kernel_rfl) (by rfl) (mt_ev ht (by kernel_rfl)) rfl rfl rfl rfl,
 .mt ⟨[sl 2 (.ptr 1 0)], [.gone, .box [I p] 3 true]⟩ [] none (by kernel_rfl) (by rfl) (mt_ev ht (by kernel_rfl)) rfl rfl rfl rfl,
 .mt ⟨[sl 7 (LS intT cl), sl 8 (I p)], []⟩ [] none (by kernel_rfl) (by rfl) (mt_val (val_index (T := intT) (l := cl) (i := p) ht rfl (by rfl) (by rfl) (by rfl) (by rfl) (by rfl) (by rfl) he)) rfl rfl rfl rfl,
 .mt ⟨[sl 9 (.pe (svR (.one (I e))) 1)], []⟩ [] none (by kernel_rfl) (by rfl) (mt_val (val_load (s := .one (I e)) ht rfl (by rfl) (by rfl) (by rfl) (by rfl) (by rfl))) rfl rfl rfl rfl,
 .mt ⟨[sl 1 (.ptr 0 0)], [.box [LS intT cl] 37 true]⟩ [] none (by kernel_rfl) (by rfl) (mt_ev ht (by kernel_rfl)) rfl rfl rfl rfl,
 .mt ⟨[sl 0 (I q)], []⟩ [] none (by kernel_rfl) (by rfl) (mt_ev ht (by kernel_rfl)) rfl rfl rfl rfl,
 .mt ⟨[sl 11 (LS intT cl), sl 12 (I q)], []⟩ [] none (by kernel_rfl) (by rfl) (mt_val (val_index (T := intT) (l := cl) (i := q) ht rfl (by rfl) (by rfl) (by rfl) (by rfl) (by rfl) (by rfl) he_2)) rfl rfl rfl rfl,
 .mt ⟨[sl 13 (.pe (svR (.one (I e_2))) 1)], []⟩ [] none (by kernel_rfl) (by rfl) (mt_val (val_load (s := .one (I e_2)) ht rfl (by rfl) (by rfl) (by rfl) (by rfl) (by rfl))) rfl rfl rfl rfl,
 .mt ⟨[sl 10 (I e), sl 14 (I e_2)], []⟩ [] none (by kernel_rfl) (by rfl) (mt_castB hb_2 (mt_ev ht (by kernel_rfl))) rfl rfl rfl rfl,
 .mt ⟨[sl 15 (B true)], []⟩ [] none (by kernel_rfl) (by rfl) (mt_ev ht (by kernel_rfl)) rfl rfl rfl rfl,
 .mt ⟨[sl 3 (.ptr 2 0), sl 16 (B true)], [.gone, .gone, .box (ApiGraph.cl g) 24 true]⟩ [] none (by kernel_rfl) (by rfl) (mt_ev ht (by kernel_rfl)) rfl rfl rfl rfl,
 .mt ⟨[sl 2 (.ptr 1 0), sl 16 (B true)], [.gone, .box [I p] 3 true]⟩ [] none (by kernel_rfl) (by rfl) (mt_ev ht (by kernel_rfl)) rfl rfl rfl rfl,
 .mt ⟨[sl 0 (I q), sl 16 (B true)], []⟩ [] none (by kernel_rfl) (by rfl) (mt_ev ht (by kernel_rfl)) rfl rfl rfl rfl,
 .mt ⟨[sl 4 (.ptr 3 0), sl 16 (B true)], [.gone, .gone, .gone, .box [.rd (fvR (fun (x : (Int × Int)) => [.sv (.one (I x.1)), .sv (.one (I x.2))]) (fun (r : Bool) => .sv (.one (B r))) domal al)] 136 true]⟩ [] none (by kernel_rfl) (by rfl) (mt_ev ht (by kernel_rfl)) rfl rfl rfl rfl,
 .mt ⟨[sl 16 (B true), (17, .sv (.agg (ApiGraph.cl g))), sl 18 (I p), sl 19 (I q), sl 20 (.rd (fvR (fun (x : (Int × Int)) => [.sv (.one (I x.1)), .sv (.one (I x.2))]) (fun (r : Bool) => .sv (.one (B r))) domal al))], []⟩ [] none (by kernel_rfl) (by rfl) (mt_castB hb_3 (mt_call (samAns_ct g p q domal al hp_2) en71 (caps := []) [] rfl (by rfl) (by kernel_rfl) (by kernel_rfl) (by rfl) (by rfl) (by rfl))) rfl rfl rfl rfl,
 .mt ⟨[sl 16 (B true), sl 21 (B true)], []⟩ [] none (by kernel_rfl) (by rfl) (mt_ev ht (by kernel_rfl)) rfl rfl rfl rfl,
 .mt ⟨[sl 22 (B true)], []⟩ [] none (by kernel_rfl) (by rfl) (mt_ev ht (by kernel_rfl)) rfl rfl rfl rfl,
 .mt ⟨[sl 3 (.ptr 2 0), sl 23 (B true)], [.gone, .gone, .box (ApiGraph.cl g) 24 true]⟩ [] none (by kernel_rfl) (by rfl) (mt_ev ht (by kernel_rfl)) rfl rfl rfl rfl,
 .mt ⟨[sl 0 (I q), sl 23 (B true)], []⟩ [] none (by kernel_rfl) (by rfl) (mt_ev ht (by kernel_rfl)) rfl rfl rfl rfl,
 .mt ⟨[sl 2 (.ptr 1 0), sl 23 (B true)], [.gone, .box [I p] 3 true]⟩ [] none (by kernel_rfl) (by rfl) (mt_ev ht (by kernel_rfl)) rfl rfl rfl rfl,
 .mt ⟨[sl 4 (.ptr 3 0), sl 23 (B true)], [.gone, .gone, .gone, .box [.rd (fvR (fun (x : (Int × Int)) => [.sv (.one (I x.1)), .sv (.one (I x.2))]) (fun (r : Bool) => .sv (.one (B r))) domal al)] 136 true]⟩ [] none (by kernel_rfl) (by rfl) (mt_ev ht (by kernel_rfl)) rfl rfl rfl rfl,
 .mt ⟨[sl 23 (B true), (24, .sv (.agg (ApiGraph.cl g))), sl 25 (I q), sl 26 (I p), sl 27 (.rd (fvR (fun (x : (Int × Int)) => [.sv (.one (I x.1)), .sv (.one (I x.2))]) (fun (r : Bool) => .sv (.one (B r))) domal al))], []⟩ [] none (by kernel_rfl) (by rfl) (mt_call (samAns_ct g q p domal al hp_4) en71 (caps := []) [] rfl (by rfl) (by kernel_rfl) (by kernel_rfl) (by rfl) (by rfl) (by rfl)) rfl rfl rfl rfl,
 .mt ⟨[sl 23 (B true), sl 28 (B (ansB g q p al))], []⟩ [] none (by kernel_rfl) (by rfl) (mt_ev ht (by kernel_rfl)) rfl rfl rfl rfl,
 .mt ⟨[sl 29 (B (ansB g q p al))], []⟩ [] none (by kernel_rfl) (by rfl) (mt_ev ht (by kernel_rfl)) rfl rfl rfl rfl,
 trivial⟩
 exact En.at (I := fun zz => J zz) (T := fun zz => ⟨[sl 6 (B zz)], [.gone, .gone, .gone, .gone]⟩) (ansB g q p al) h (by kernel_rfl)
 replace h := h.2 hb_3
 refine En.regionA ⟨[sl 0 (I q), sl 1 (.ptr 0 0), sl 2 (.ptr 1 0), sl 3 (.ptr 2 0), sl 4 (.ptr 3 0)], [.sv (.one (LS intT cl)), .sv (.one (I p)), .sv (.one (.pe (svR (.one (I e))) 1)), .sv (.one (I e)), .sv (.one (LS intT cl)), .sv (.one (I q)), .sv (.one (.pe (svR (.one (I e_2))) 1)), .sv (.one (I e_2)), .sv (.one (B true)), .sv (.one (B true)), .sv (.agg (ApiGraph.cl g)), .sv (.one (I p)), .sv (.one (I q)), .sv (.one (.rd (fvR (fun (x : (Int × Int)) => [.sv (.one (I x.1)), .sv (.one (I x.2))]) (fun (r : Bool) => .sv (.one (B r))) domal al))), .sv (.one (B false)), .sv (.one (B false)), .sv (.one (B false)), .tup [], .tup [], .tup [], .tup [], .tup [], .sv (.one (B false)), .sv (.one (B false))], [⟨.box [LS intT cl] 37 true, none, none, none⟩, ⟨.box [I p] 3 true, none, none, none⟩, ⟨.box (ApiGraph.cl g) 24 true, none, none, none⟩, ⟨.box [.rd (fvR (fun (x : (Int × Int)) => [.sv (.one (I x.1)), .sv (.one (I x.2))]) (fun (r : Bool) => .sv (.one (B r))) domal al)] 136 true, none, none, none⟩]⟩ ⟨[sl 6 (B false)], [.gone, .gone, .gone, .gone]⟩ (by kernel_rfl) hn (by kernel_rfl) (by rfl) (by kernel_rfl) ?_ (by kernel_rfl) ?_
 exact ⟨.mt ⟨[sl 1 (.ptr 0 0)], [.box [LS intT cl] 37 true]⟩ [] none (by kernel_rfl) (by rfl) (mt_ev ht (by kernel_rfl)) rfl rfl rfl rfl,
 .mt ⟨[sl 2 (.ptr 1 0)], [.gone, .box [I p] 3 true]⟩ [] none (by kernel_rfl) (by rfl) (mt_ev ht (by kernel_rfl)) rfl rfl rfl rfl,
 .mt ⟨[sl 7 (LS intT cl), sl 8 (I p)], []⟩ [] none (by kernel_rfl) (by rfl) (mt_val (val_index (T := intT) (l := cl) (i := p) ht rfl (by rfl) (by rfl) (by rfl) (by rfl) (by rfl) (by rfl) he)) rfl rfl rfl rfl,
 .mt ⟨[sl 9 (.pe (svR (.one (I e))) 1)], []⟩ [] none (by kernel_rfl) (by rfl) (mt_val (val_load (s := .one (I e)) ht rfl (by rfl) (by rfl) (by rfl) (by rfl) (by rfl))) rfl rfl rfl rfl,
 .mt ⟨[sl 1 (.ptr 0 0)], [.box [LS intT cl] 37 true]⟩ [] none (by kernel_rfl) (by rfl) (mt_ev ht (by kernel_rfl)) rfl rfl rfl rfl,
 .mt ⟨[sl 0 (I q)], []⟩ [] none (by kernel_rfl) (by rfl) (mt_ev ht (by kernel_rfl)) rfl rfl rfl rfl,
 .mt ⟨[sl 11 (LS intT cl), sl 12 (I q)], []⟩ [] none (by kernel_rfl) (by rfl) (mt_val (val_index (T := intT) (l := cl) (i := q) ht rfl (by rfl) (by rfl) (by rfl) (by rfl) (by rfl) (by rfl) he_2)) rfl rfl rfl rfl,
 .mt ⟨[sl 13 (.pe (svR (.one (I e_2))) 1)], []⟩ [] none (by kernel_rfl) (by rfl) (mt_val (val_load (s := .one (I e_2)) ht rfl (by rfl) (by rfl) (by rfl) (by rfl) (by rfl))) rfl rfl rfl rfl,
 .mt ⟨[sl 10 (I e), sl 14 (I e_2)], []⟩ [] none (by kernel_rfl) (by rfl) (mt_castB hb_2 (mt_ev ht (by kernel_rfl))) rfl rfl rfl rfl,
 .mt ⟨[sl 15 (B true)], []⟩ [] none (by kernel_rfl) (by rfl) (mt_ev ht (by kernel_rfl)) rfl rfl rfl rfl,
 .mt ⟨[sl 3 (.ptr 2 0), sl 16 (B true)], [.gone, .gone, .box (ApiGraph.cl g) 24 true]⟩ [] none (by kernel_rfl) (by rfl) (mt_ev ht (by kernel_rfl)) rfl rfl rfl rfl,
 .mt ⟨[sl 2 (.ptr 1 0), sl 16 (B true)], [.gone, .box [I p] 3 true]⟩ [] none (by kernel_rfl) (by rfl) (mt_ev ht (by kernel_rfl)) rfl rfl rfl rfl,
 .mt ⟨[sl 0 (I q), sl 16 (B true)], []⟩ [] none (by kernel_rfl) (by rfl) (mt_ev ht (by kernel_rfl)) rfl rfl rfl rfl,
 .mt ⟨[sl 4 (.ptr 3 0), sl 16 (B true)], [.gone, .gone, .gone, .box [.rd (fvR (fun (x : (Int × Int)) => [.sv (.one (I x.1)), .sv (.one (I x.2))]) (fun (r : Bool) => .sv (.one (B r))) domal al)] 136 true]⟩ [] none (by kernel_rfl) (by rfl) (mt_ev ht (by kernel_rfl)) rfl rfl rfl rfl,
 .mt ⟨[sl 16 (B true), (17, .sv (.agg (ApiGraph.cl g))), sl 18 (I p), sl 19 (I q), sl 20 (.rd (fvR (fun (x : (Int × Int)) => [.sv (.one (I x.1)), .sv (.one (I x.2))]) (fun (r : Bool) => .sv (.one (B r))) domal al))], []⟩ [] none (by kernel_rfl) (by rfl) (mt_castB hb_3 (mt_call (samAns_ct g p q domal al hp_2) en71 (caps := []) [] rfl (by rfl) (by kernel_rfl) (by kernel_rfl) (by rfl) (by rfl) (by rfl))) rfl rfl rfl rfl,
 .mt ⟨[sl 16 (B true), sl 21 (B false)], []⟩ [] none (by kernel_rfl) (by rfl) (mt_ev ht (by kernel_rfl)) rfl rfl rfl rfl,
 .mt ⟨[sl 22 (B false)], []⟩ [] none (by kernel_rfl) (by rfl) (mt_ev ht (by kernel_rfl)) rfl rfl rfl rfl,
 .skip ⟨[sl 23 (B false)], []⟩ (by kernel_rfl) (by rfl) rfl rfl rfl rfl,
 .skip ⟨[sl 23 (B false)], []⟩ (by kernel_rfl) (by rfl) rfl rfl rfl rfl,
 .skip ⟨[sl 23 (B false)], []⟩ (by kernel_rfl) (by rfl) rfl rfl rfl rfl,
 .skip ⟨[sl 23 (B false)], []⟩ (by kernel_rfl) (by rfl) rfl rfl rfl rfl,
 .skip ⟨[sl 23 (B false)], []⟩ (by kernel_rfl) (by rfl) rfl rfl rfl rfl,
 .mt ⟨[sl 23 (B false), (28, .tup [])], []⟩ [] none (by kernel_rfl) (by rfl) (mt_ev ht (by kernel_rfl)) rfl rfl rfl rfl,
 .mt ⟨[sl 29 (B false)], []⟩ [] none (by kernel_rfl) (by rfl) (mt_ev ht (by kernel_rfl)) rfl rfl rfl rfl,
 trivial⟩
 exact En.at (I := fun zz => J zz) (T := fun zz => ⟨[sl 6 (B zz)], [.gone, .gone, .gone, .gone]⟩) false h (by kernel_rfl)
 replace h := h.2 hb_2
 refine En.regionA ⟨[sl 0 (I q), sl 1 (.ptr 0 0), sl 2 (.ptr 1 0), sl 3 (.ptr 2 0), sl 4 (.ptr 3 0)], [.sv (.one (LS intT cl)), .sv (.one (I p)), .sv (.one (.pe (svR (.one (I e))) 1)), .sv (.one (I e)), .sv (.one (LS intT cl)), .sv (.one (I q)), .sv (.one (.pe (svR (.one (I e_2))) 1)), .sv (.one (I e_2)), .sv (.one (B false)), .sv (.one (B false)), .tup [], .tup [], .tup [], .tup [], .tup [], .sv (.one (B false)), .sv (.one (B false)), .tup [], .tup [], .tup [], .tup [], .tup [], .sv (.one (B false)), .sv (.one (B false))], [⟨.box [LS intT cl] 37 true, none, none, none⟩, ⟨.box [I p] 3 true, none, none, none⟩, ⟨.box (ApiGraph.cl g) 24 true, none, none, none⟩, ⟨.box [.rd (fvR (fun (x : (Int × Int)) => [.sv (.one (I x.1)), .sv (.one (I x.2))]) (fun (r : Bool) => .sv (.one (B r))) domal al)] 136 true, none, none, none⟩]⟩ ⟨[sl 6 (B false)], [.gone, .gone, .gone, .gone]⟩ (by kernel_rfl) hn (by kernel_rfl) (by rfl) (by kernel_rfl) ?_ (by kernel_rfl) ?_
 exact ⟨.mt ⟨[sl 1 (.ptr 0 0)], [.box [LS intT cl] 37 true]⟩ [] none (by kernel_rfl) (by rfl) (mt_ev ht (by kernel_rfl)) rfl rfl rfl rfl,
 .mt ⟨[sl 2 (.ptr 1 0)], [.gone, .box [I p] 3 true]⟩ [] none (by kernel_rfl) (by rfl) (mt_ev ht (by kernel_rfl)) rfl rfl rfl rfl,
 .mt ⟨[sl 7 (LS intT cl), sl 8 (I p)], []⟩ [] none (by kernel_rfl) (by rfl) (mt_val (val_index (T := intT) (l := cl) (i := p) ht rfl (by rfl) (by rfl) (by rfl) (by rfl) (by rfl) (by rfl) he)) rfl rfl rfl rfl,
 .mt ⟨[sl 9 (.pe (svR (.one (I e))) 1)], []⟩ [] none (by kernel_rfl) (by rfl) (mt_val (val_load (s := .one (I e)) ht rfl (by rfl) (by rfl) (by rfl) (by rfl) (by rfl))) rfl rfl rfl rfl,
 .mt ⟨[sl 1 (.ptr 0 0)], [.box [LS intT cl] 37 true]⟩ [] none (by kernel_rfl) (by rfl) (mt_ev ht (by kernel_rfl)) rfl rfl rfl rfl,
 .mt ⟨[sl 0 (I q)], []⟩ [] none (by kernel_rfl) (by rfl) (mt_ev ht (by kernel_rfl)) rfl rfl rfl rfl,
 .mt ⟨[sl 11 (LS intT cl), sl 12 (I q)], []⟩ [] none (by kernel_rfl) (by rfl) (mt_val (val_index (T := intT) (l := cl) (i := q) ht rfl (by rfl) (by rfl) (by rfl) (by rfl) (by rfl) (by rfl) he_2)) rfl rfl rfl rfl,
 .mt ⟨[sl 13 (.pe (svR (.one (I e_2))) 1)], []⟩ [] none (by kernel_rfl) (by rfl) (mt_val (val_load (s := .one (I e_2)) ht rfl (by rfl) (by rfl) (by rfl) (by rfl) (by rfl))) rfl rfl rfl rfl,
 .mt ⟨[sl 10 (I e), sl 14 (I e_2)], []⟩ [] none (by kernel_rfl) (by rfl) (mt_castB hb_2 (mt_ev ht (by kernel_rfl))) rfl rfl rfl rfl,
 .mt ⟨[sl 15 (B false)], []⟩ [] none (by kernel_rfl) (by rfl) (mt_ev ht (by kernel_rfl)) rfl rfl rfl rfl,
 .skip ⟨[sl 16 (B false)], []⟩ (by kernel_rfl) (by rfl) rfl rfl rfl rfl,
 .skip ⟨[sl 16 (B false)], []⟩ (by kernel_rfl) (by rfl) rfl rfl rfl rfl,
 .skip ⟨[sl 16 (B false)], []⟩ (by kernel_rfl) (by rfl) rfl rfl rfl rfl,
 .skip ⟨[sl 16 (B false)], []⟩ (by kernel_rfl) (by rfl) rfl rfl rfl rfl,
 .skip ⟨[sl 16 (B false)], []⟩ (by kernel_rfl) (by rfl) rfl rfl rfl rfl,
 .mt ⟨[sl 16 (B false), (21, .tup [])], []⟩ [] none (by kernel_rfl) (by rfl) (mt_ev ht (by kernel_rfl)) rfl rfl rfl rfl,
 .mt ⟨[sl 22 (B false)], []⟩ [] none (by kernel_rfl) (by rfl) (mt_ev ht (by kernel_rfl)) rfl rfl rfl rfl,
 .skip ⟨[sl 23 (B false)], []⟩ (by kernel_rfl) (by rfl) rfl rfl rfl rfl,
 .skip ⟨[sl 23 (B false)], []⟩ (by kernel_rfl) (by rfl) rfl rfl rfl rfl,
 .skip ⟨[sl 23 (B false)], []⟩ (by kernel_rfl) (by rfl) rfl rfl rfl rfl,
 .skip ⟨[sl 23 (B false)], []⟩ (by kernel_rfl) (by rfl) rfl rfl rfl rfl,
 .skip ⟨[sl 23 (B false)], []⟩ (by kernel_rfl) (by rfl) rfl rfl rfl rfl,
 .mt ⟨[sl 23 (B false), (28, .tup [])], []⟩ [] none (by kernel_rfl) (by rfl) (mt_ev ht (by kernel_rfl)) rfl rfl rfl rfl,
 .mt ⟨[sl 29 (B false)], []⟩ [] none (by kernel_rfl) (by rfl) (mt_ev ht (by kernel_rfl)) rfl rfl rfl rfl,
 trivial⟩
 exact En.at (I := fun zz => J zz) (T := fun zz => ⟨[sl 6 (B zz)], [.gone, .gone, .gone, .gone]⟩) false h (by kernel_rfl)
 intro x6 h
 replace h := hJ _ h
 show En c ⟨[sl 6 (B x6)], [.gone, .gone, .gone, .gone]⟩ _
 refine En.ret ?_
 exact En.back ht x6 h (by kernel_rfl) rfl
theorem en70 : ∀ args w, (callFunc 70 args).run Try.prog w = .ok (.enter 70 args) w := enters_of Try.func70 (by kernel_rfl) rfl
def r2B (cl : List Int) (p : Int) (g : ApiGraph) (al : Int × Int → Bool) (q : Int) : Bool := (cl.getD p.toNat 0 == cl.getD q.toNat 0) && (ansB g p q al && ansB g q p al)
def r2Dom (cl : List Int) (p : Int) (g : ApiGraph) (dom : Int × Int → Prop) (q : Int) : Prop := inC cl (p, q) ∧ ansPre g dom
theorem samR2_ct (q : Int) (cl : (List Int)) (p : Int) (g : ApiGraph) (domal : ((Int × Int) → Prop)) (al : ((Int × Int) → Bool)) (hp : r2Dom cl p g domal q)  : Ct 70 [.sv (.one (I q)), .sv (.one (.ptr 0 0)), .sv (.one (.ptr 1 0)), .sv (.one (.ptr 2 0)), .sv (.one (.ptr 3 0))] [.box [LS intT cl] 37 true, .box [I p] 3 true, .box [I g.fLetters, I g.fPlaces, LS ApiArrow.ty g.fArrows] 24 true, .box [.rd (fvR (fun (x : (Int × Int)) => [.sv (.one (I x.1)), .sv (.one (I x.2))]) (fun (r : Bool) => .sv (.one (B r))) domal al)] 136 true] (fun (_ : Unit) => True) (fun _ => .sv (.one (B (r2B cl p g al q)))) := by
 refine (samR2_walk q cl p g domal al (fun res_ => res_ = (r2B cl p g al q)) ?_).fun
 unfold samR2_vc
 obtain ⟨⟨⟨h1, h2⟩, h3, h4⟩, h5⟩ := hp
 refine ⟨fun b => b = r2B cl p g al q, ⟨_, idx_of 0 h1 h2, _, idx_of 0 h3 h4, fun h => ⟨h5, fun h' => ⟨h5, ?_⟩, fun h' => ?_⟩, fun h => ?_⟩, fun _ h => h⟩
 ·show _ = _; unfold r2B; rw [show (cl.getD p.toNat 0 == cl.getD q.toNat 0) = true from h, h']; rfl
 ·show _ = _; unfold r2B; rw [show (cl.getD p.toNat 0 == cl.getD q.toNat 0) = true from h, h']; rfl
 ·show _ = _; unfold r2B; rw [show (cl.getD p.toNat 0 == cl.getD q.toNat 0) = false from h]; rfl
def samMax_vc (l : (List Int)) (Q : Int → Prop) : Prop :=
 l.length ≤ 9223372036854775807 →
 (IfP (decide ((l.length : Int) < 1)) (False) (∃ e, idx l 0 = some e ∧
 ∃ (Inv : Int → Int → Prop) (mu : Int → Int → Nat), Inv e 1 ∧
 ∀ (x3 : Int) (x4 : Int) , Inv x3 x4 → (IfP (decide (x4 < (l.length : Int))) (∃ e_2, idx l x4 = some e_2 ∧
 (Inv (if e_2 > x3 then e_2 else x3) (wr (x4 + 1)) ∧ mu (if e_2 > x3 then e_2 else x3) (wr (x4 + 1)) < mu x3 x4)) (Q x3))))
theorem samMax_walk (l : (List Int)) (Q : Int → Prop) (h : samMax_vc l Q) : Ct 72 [.sv (.one (LS intT l))] [] Q (fun (r : Int) => .sv (.one (I r))) := by
 have ht := tab_ok
 refine Ct.body Try.func72 rfl rfl rfl rfl (fun c hn => ?_)
 unfold samMax_vc at h
 refine En.lenL 0 (by rfl) (fun hl => ?_)
 replace h := h hl
 clear hl
 refine En.seq ?_
 refine En.region ?_
 refine WL.run ht hn 1 ⟨[sl 0 (LS intT l)], []⟩ (by kernel_rfl) ?_
 refine WL.nil ?_
 refine En.seq ?_
 refine En.seq ?_
 refine En.region ?_
 refine WL.run ht hn 3 ⟨[sl 0 (LS intT l), sl 7 (B (decide ((l.length : Int) < 1)))], []⟩ (by kernel_rfl) ?_
 refine WL.nil ?_
 refine En.cond (b := (decide ((l.length : Int) < 1))) (by kernel_rfl) (fun hb => ?_) (fun hb => ?_)
 replace h := h.1 hb
 exact h.elim
 replace h := h.2 hb
 refine En.skip ?_
 refine En.seq ?_
 refine En.region ?_
 refine WL.run ht hn 1 ⟨[sl 0 (LS intT l), sl 9 (LS intT l)], []⟩ (by kernel_rfl) ?_
 obtain ⟨e, he, h⟩ := h
 refine WL.val hn (by rfl) (val_index (T := intT) (l := l) (i := 0) ht rfl (by rfl) (by rfl) (by rfl) (by rfl) (by rfl) (by rfl) he) (by rfl) ?_
 refine WL.val hn (by rfl) (val_load (s := .one (I e)) ht rfl (by rfl) (by rfl) (by rfl) (by rfl) (by rfl)) (by rfl) ?_
 refine WL.run ht hn 1 ⟨[sl 0 (LS intT l), sl 3 (I e)], []⟩ (by kernel_rfl) ?_
 refine WL.nil ?_
 refine En.seq ?_
 refine En.seq ?_
 refine En.region ?_
 refine WL.run ht hn 1 ⟨[sl 0 (LS intT l), sl 3 (I e), sl 4 (I 1)], []⟩ (by kernel_rfl) ?_
 refine WL.nil ?_
 refine En.block ?_
 obtain ⟨Inv, mu, h0, hI⟩ := h
 refine En.loop (σ := Int × Int) (fun zz => Inv zz.1 zz.2) (fun zz => mu zz.1 zz.2) (fun zz => ⟨[sl 0 (LS intT l), sl 3 (I zz.1), sl 4 (I zz.2)], []⟩) (e, 1) h0 (sub_ok (by kernel_rfl)) ?_
 rintro ⟨x3, x4⟩ h
 replace h := hI _ _ h
 show En c ⟨[sl 0 (LS intT l), sl 3 (I x3), sl 4 (I x4)], []⟩ _
 refine En.seq ?_
 refine En.seq ?_
 refine En.region ?_
 refine WL.run ht hn 4 ⟨[sl 0 (LS intT l), sl 3 (I x3), sl 4 (I x4), sl 15 (B (decide (x4 < (l.length : Int))))], []⟩ (by kernel_rfl) ?_
 refine WL.nil ?_
 refine En.cond (b := (decide (x4 < (l.length : Int)))) (by kernel_rfl) (fun hb => ?_) (fun hb => ?_)
 replace h := h.1 hb
 refine En.skip ?_
 refine En.seq ?_
 refine En.block ?_
 refine En.region ?_
 refine WL.run ht hn 3 ⟨[sl 0 (LS intT l), sl 4 (I x4), sl 18 (I x3), sl 19 (LS intT l), sl 20 (I x4)], []⟩ (by kernel_rfl) ?_
 obtain ⟨e_2, he_2, h⟩ := h
 refine WL.val hn (by rfl) (val_index (T := intT) (l := l) (i := x4) ht rfl (by rfl) (by rfl) (by rfl) (by rfl) (by rfl) (by rfl) he_2) (by rfl) ?_
 refine WL.val hn (by rfl) (val_load (s := .one (I e_2)) ht rfl (by rfl) (by rfl) (by rfl) (by rfl) (by rfl)) (by rfl) ?_
 refine WL.run ht hn 2 ⟨[sl 0 (LS intT l), sl 3 (I (if e_2 > x3 then e_2 else x3)), sl 4 (I x4)], []⟩ (by kernel_rfl) ?_
 refine WL.nil ?_
 refine En.region ?_
 refine WL.run ht hn 3 ⟨[sl 0 (LS intT l), sl 3 (I (if e_2 > x3 then e_2 else x3)), sl 4 (I (wr (x4 + 1)))], []⟩ (by kernel_rfl) ?_
 refine WL.nil ?_
 exact En.at (I := fun zz => Inv zz.1 zz.2 ∧ mu zz.1 zz.2 < mu x3 x4) (T := fun zz => ⟨[sl 0 (LS intT l), sl 3 (I zz.1), sl 4 (I zz.2)], []⟩) ((if e_2 > x3 then e_2 else x3), (wr (x4 + 1))) h (by kernel_rfl)
 replace h := h.2 hb
 refine En.exit rfl ?_
 refine En.seq ?_
 refine En.region ?_
 refine WL.run ht hn 2 ⟨[sl 2 (I x3)], []⟩ (by kernel_rfl) ?_
 refine WL.nil ?_
 refine En.ret ?_
 exact En.back ht x3 h (by kernel_rfl) rfl
theorem en72 : ∀ args w, (callFunc 72 args).run Try.prog w = .ok (.enter 72 args) w := enters_of Try.func72 (by kernel_rfl) rfl
def mxI (a b : Int) : Int := if b > a then b else a
def maxL (l : List Int) : Int := (l.drop 1).foldl mxI (l.getD 0 0)
theorem mx_fold : ∀ (l : List Int) (a : Int), a ≤ l.foldl mxI a ∧ (∀ x ∈ l, x ≤ l.foldl mxI a) ∧ (l.foldl mxI a = a ∨ l.foldl mxI a ∈ l)
 | [], a => ⟨Int.le_refl _, (fun x hx => by cases hx), .inl rfl⟩
 | b :: l, a => by
  obtain ⟨h1, h2, h3⟩ := mx_fold l (mxI a b)
  have h4 : a ≤ mxI a b ∧ b ≤ mxI a b ∧ (mxI a b = a ∨ mxI a b = b) := by unfold mxI; split <;> omega
  rw [List.foldl_cons]
  refine ⟨by omega, fun x hx => ?_, ?_⟩
  ·rcases List.mem_cons.1 hx with rfl | hx
   ·omega
   ·exact h2 x hx
  ·rcases h3 with h3 | h3
   ·rw [h3]
    rcases h4.2.2 with h5 | h5
    ·exact .inl h5
    ·rw [h5]; exact .inr List.mem_cons_self
   ·exact .inr (List.mem_cons_of_mem _ h3)
theorem maxL_is {l : List Int} (h : 0 < l.length) : (∀ x ∈ l, x ≤ maxL l) ∧ maxL l ∈ l := by
 cases l with
 | nil => simp at h
 | cons a l =>
  obtain ⟨h1, h2, h3⟩ := mx_fold l a
  show (∀ x ∈ a :: l, x ≤ l.foldl mxI a) ∧ l.foldl mxI a ∈ a :: l
  refine ⟨fun x hx => ?_, ?_⟩
  ·rcases List.mem_cons.1 hx with rfl | hx
   ·exact h1
   ·exact h2 x hx
  ·rcases h3 with h3 | h3
   ·rw [h3]; exact List.mem_cons_self
   ·exact List.mem_cons_of_mem _ h3
theorem max_onto {n m : Nat} {l : List Int} (h : Onto n m l) (hn : 0 < n) : maxL l = (m : Int) - 1 ∧ 0 < m := by
 have hm := h.pos hn
 obtain ⟨h1, h2⟩ := maxL_is (l := l) (by rw [h.len]; exact hn)
 obtain ⟨p, hp, e⟩ := h.onto (m - 1) (by omega)
 have h3 := h1 _ (getD_mem (z := 0) (show p < l.length by rw [h.len]; exact hp))
 obtain ⟨q, hq, e2⟩ := List.getElem_of_mem h2
 have h4 := h.range q (by rw [← h.len]; exact hq)
 have e3 : l.getD q 0 = maxL l := by rw [← e2]; simp [hq]
 omega
theorem samMax_ct (l : (List Int)) (hp : 0 < l.length)  : Ct 72 [.sv (.one (LS intT l))] [] (fun (_ : Unit) => True) (fun _ => .sv (.one (I (maxL l)))) := by
 refine (samMax_walk l (fun res_ => res_ = (maxL l)) ?_).fun
 unfold samMax_vc
 intro _
 refine ⟨fun h => by have := of_decide_eq_true h; omega, fun _ => ⟨_, idx_getS 0 hp, fun a i => ∃ k : Nat, i = k ∧ 1 ≤ k ∧ k ≤ l.length ∧ (l.drop k).foldl mxI a = maxL l, fun _ i => l.length - i.toNat, ⟨1, rfl, by omega, by omega, rfl⟩, ?_⟩⟩
 rintro a i ⟨k, rfl, h1, hk, he⟩
 refine ⟨fun hb => ?_, fun hb => ?_⟩
 ·have hlt := dlt hb
  rw [List.drop_eq_getElem_cons hlt] at he
  exact ⟨_, idx_at hlt, ⟨k + 1, wsucc (by omega), by omega, hlt, he⟩, mu_up hlt (by omega)⟩
 ·rw [List.drop_eq_nil_of_le (dge hb)] at he
  exact he
def samRounds_vc (g : ApiGraph) (Q : (List (List Int)) → Prop) : Prop :=
 g.fArrows.length ≤ 9223372036854775807 →
 (makeOk g.fPlaces g.fPlaces 8 ∧
 ∃ (Inv : (List (List Int)) → Prop) (mu : (List (List Int)) → Nat), Inv ([(List.replicate (g.fPlaces).toNat (0 : Int))] : (List (List Int))) ∧
 ∀ (l2 : (List (List Int))) , Inv l2 → (∃ e, idx l2 (wr ((l2.length : Int) - 1)) = some e ∧
 makeOk g.fPlaces g.fPlaces 8 ∧
 ∃ (Inv_2 : Int → (List Int) → (List Int) → Prop) (mu_2 : Int → (List Int) → (List Int) → Nat), Inv_2 0 (List.replicate (g.fPlaces).toNat (0 : Int)) ([] : (List Int)) ∧
 ∀ (x26 : Int) (l5 : (List Int)) (l8 : (List Int)) , Inv_2 x26 l5 l8 → (IfP (decide (x26 < ((List.replicate (g.fPlaces).toNat (0 : Int)).length : Int))) ((∀ x_ ∈ l8, (r2Dom e x26 g (inC e)) x_) ∧
 ∃ J : Int → (List Int) → Prop, (IfP (decide ((idxTo (r2B e x26 g (alikeC e)) l8) < 0)) (capOk l8.length (([x26] : (List Int)) : (List Int)).length 8 ∧
 J (l8.length : Int) (l8 ++ ([x26] : (List Int)))) (J (idxTo (r2B e x26 g (alikeC e)) l8) l8)) ∧
 (∀ (x9 : Int) (l8_2 : (List Int)), J x9 l8_2 → ∃ e_2, idx l5 x26 = some e_2 ∧
 (Inv_2 (wr (x26 + 1)) (l5.set (x26).toNat x9) l8_2 ∧ mu_2 (wr (x26 + 1)) (l5.set (x26).toNat x9) l8_2 < mu_2 x26 l5 l8))) ((0 < (l5).length) ∧
 (0 < (e).length) ∧
 IfP ((maxL l5) == (maxL e)) (Q l2) (capOk l2.length (([l5] : (List (List Int))) : (List (List Int))).length 24 ∧
 (Inv (l2 ++ ([l5] : (List (List Int)))) ∧ mu (l2 ++ ([l5] : (List (List Int)))) < mu l2))))))
theorem samRounds_walk (g : ApiGraph) (Q : (List (List Int)) → Prop) (h : samRounds_vc g Q) : Ct 31 [.sv (.agg [I g.fLetters, I g.fPlaces, LS ApiArrow.ty g.fArrows])] [] Q (fun (r : (List (List Int))) => .sv (.one (LS (lsT intT) r))) := by
 have ht := tab_ok
 refine Ct.body Try.func31 rfl rfl rfl rfl (fun c hn => ?_)
 unfold samRounds_vc at h
 refine En.lenA 0 2 (by rfl) (by rfl) (fun hl => ?_)
 replace h := h hl
 clear hl
 refine En.seq ?_
 refine En.region ?_
 refine WL.run ht hn 2 ⟨[sl 1 (.ptr 0 0)], [.box (ApiGraph.cl g) 24 false]⟩ (by kernel_rfl) ?_
 refine WL.nil ?_
 refine En.seq ?_
 refine En.region ?_
 refine WL.run ht hn 2 ⟨[sl 1 (.ptr 0 0), sl 11 (I g.fPlaces)], [.box (ApiGraph.cl g) 24 false]⟩ (by kernel_rfl) ?_
 have hp := h.1
 replace h := h.2
 refine WL.mt0 (K := []) (p := some (1, rowI 3 intT (List.replicate (g.fPlaces).toNat (0 : Int)))) hn (by rfl) (mt_make (T := intT) (0 : Int) (zv := (.int .i64 0)) 1 (l := g.fPlaces) (cp := g.fPlaces) ht rfl (by rfl) (by rfl) (by rfl) (by rfl) (by decide) (by rfl) (by rfl) hp.1 hp.2.1 hp.2.2 (hp.le (by decide)) rfl (fun _ => ⟨rfl, trivial⟩)) (by rfl) (by rfl) (by rfl) ?_
 refine WL.seal (T := intT) (l := (List.replicate (g.fPlaces).toNat (0 : Int))) (e := 3) 1 rfl ?_
 refine WL.run ht hn 0 ⟨[sl 1 (.ptr 0 0), sl 11 (I g.fPlaces), sl 12 (LS intT (List.replicate (g.fPlaces).toNat (0 : Int)))], [.box (ApiGraph.cl g) 24 false, .gone]⟩ (by kernel_rfl) ?_
 refine WL.mt0 (K := []) (p := some (2, rowI 37 (lsT intT) ([(List.replicate (g.fPlaces).toNat (0 : Int))] : (List (List Int))))) hn (by rfl) (mt_lit (T := (lsT intT)) ([(List.replicate (g.fPlaces).toNat (0 : Int))] : (List (List Int))) (mt_bsl 2 (r := cellsOf (lsT intT) ([(List.replicate (g.fPlaces).toNat (0 : Int))] : (List (List Int)))) ht rfl (by rfl) (by rfl) (by rfl) (by kernel_rfl) (by rfl)) (fun _ h => by cases h) (fun _ => rfl) (fun _ => rfl) (by rfl) (Nat.le_of_ble_eq_true rfl)) (by rfl) (by rfl) (by rfl) ?_
 refine WL.run ht hn 1 ⟨[sl 1 (.ptr 0 0), sl 3 (.own 2)], [.box (ApiGraph.cl g) 24 false, .gone, rowI 37 (lsT intT) ([(List.replicate (g.fPlaces).toNat (0 : Int))] : (List (List Int)))]⟩ (by kernel_rfl) ?_
 refine WL.nil ?_
 refine En.block ?_
 obtain ⟨Inv, mu, h0_2, hI_2⟩ := h
 refine En.loop (σ := (List (List Int))) (fun zz => Inv zz) (fun zz => mu zz) (fun zz => ⟨[sl 1 (.ptr 0 0), sl 3 (.own 2)], [.box (ApiGraph.cl g) 24 false, .gone, rowI 37 (lsT intT) zz]⟩) ([(List.replicate (g.fPlaces).toNat (0 : Int))] : (List (List Int))) h0_2 (sub_ok (by kernel_rfl)) ?_
 intro l2 h
 replace h := hI_2 _ h
 show En c ⟨[sl 1 (.ptr 0 0), sl 3 (.own 2)], [.box (ApiGraph.cl g) 24 false, .gone, rowI 37 (lsT intT) l2]⟩ _
 refine En.block ?_
 refine En.seq ?_
 refine En.region ?_
 refine WL.run ht hn 4 ⟨[sl 1 (.ptr 0 0), sl 3 (.own 2), sl 14 (.own 2), sl 17 (I (wr ((l2.length : Int) - 1)))], [.box (ApiGraph.cl g) 24 false, .gone, rowI 37 (lsT intT) l2]⟩ (by kernel_rfl) ?_
 obtain ⟨e, he, h⟩ := h
 refine WL.val hn (by rfl) (val_indexO (T := (lsT intT)) (l := l2) (k := (wr ((l2.length : Int) - 1))) ht rfl (by rfl) (by rfl) (by rfl) (by rfl) (by decide) (by rfl) (by rfl) (by rfl) he) (by rfl) ?_
 refine WL.val hn (by rfl) (val_loadO (T := (lsT intT)) (l := l2) (y := e) ht rfl (by rfl) (by rfl) (by rfl) (by rfl) (by rfl) (idx_some he).2.2 (by rfl)) (by rfl) ?_
 refine WL.run ht hn 2 ⟨[sl 1 (.ptr 0 0), sl 3 (.own 2), sl 4 (.ptr 3 0)], [.box (ApiGraph.cl g) 24 false, .gone, rowI 37 (lsT intT) l2, .box [LS intT e] 37 false]⟩ (by kernel_rfl) ?_
 refine WL.nil ?_
 refine En.seq ?_
 refine En.region ?_
 refine WL.run ht hn 3 ⟨[sl 1 (.ptr 0 0), sl 3 (.own 2), sl 4 (.ptr 3 0), sl 5 (.ptr 4 0)], [.box (ApiGraph.cl g) 24 false, .gone, rowI 37 (lsT intT) l2, .box [LS intT e] 37 false, .box [.fn 68 [3]] 136 false]⟩ (by kernel_rfl) ?_
 refine WL.nil ?_
 refine En.seq ?_
 refine En.region ?_
 refine WL.run ht hn 2 ⟨[sl 1 (.ptr 0 0), sl 3 (.own 2), sl 4 (.ptr 3 0), sl 5 (.ptr 4 0), sl 22 (I g.fPlaces)], [.box (ApiGraph.cl g) 24 false, .gone, rowI 37 (lsT intT) l2, .box [LS intT e] 37 false, .box [.fn 68 [3]] 136 false]⟩ (by kernel_rfl) ?_
 have hp := h.1
 replace h := h.2
 refine WL.mt0 (K := []) (p := some (5, rowI 3 intT (List.replicate (g.fPlaces).toNat (0 : Int)))) hn (by rfl) (mt_make (T := intT) (0 : Int) (zv := (.int .i64 0)) 5 (l := g.fPlaces) (cp := g.fPlaces) ht rfl (by rfl) (by rfl) (by rfl) (by rfl) (by decide) (by rfl) (by rfl) hp.1 hp.2.1 hp.2.2 (hp.le (by decide)) rfl (fun _ => ⟨rfl, trivial⟩)) (by rfl) (by rfl) (by rfl) ?_
 refine WL.run ht hn 1 ⟨[sl 1 (.ptr 0 0), sl 3 (.own 2), sl 4 (.ptr 3 0), sl 5 (.ptr 4 0), sl 6 (.own 5)], [.box (ApiGraph.cl g) 24 false, .gone, rowI 37 (lsT intT) l2, .box [LS intT e] 37 false, .box [.fn 68 [3]] 136 false, rowI 3 intT (List.replicate (g.fPlaces).toNat (0 : Int))]⟩ (by kernel_rfl) ?_
 refine WL.nil ?_
 refine En.seq ?_
 refine En.region ?_
 refine WL.run ht hn 1 ⟨[sl 1 (.ptr 0 0), sl 3 (.own 2), sl 4 (.ptr 3 0), sl 5 (.ptr 4 0), sl 6 (.own 5), sl 7 (.v (.slice none 0 0))], [.box (ApiGraph.cl g) 24 false, .gone, rowI 37 (lsT intT) l2, .box [LS intT e] 37 false, .box [.fn 68 [3]] 136 false, rowI 3 intT (List.replicate (g.fPlaces).toNat (0 : Int))]⟩ (by kernel_rfl) ?_
 refine WL.nil ?_
 refine En.seq ?_
 refine En.seq ?_
 refine En.region ?_
 refine WL.run ht hn 3 ⟨[sl 1 (.ptr 0 0), sl 3 (.own 2), sl 4 (.ptr 3 0), sl 5 (.ptr 4 0), sl 6 (.own 5), sl 7 (.v (.slice none 0 0)), sl 25 (I ((List.replicate (g.fPlaces).toNat (0 : Int)).length : Int)), sl 26 (I 0)], [.box (ApiGraph.cl g) 24 false, .gone, rowI 37 (lsT intT) l2, .box [LS intT e] 37 false, .box [.fn 68 [3]] 136 false, rowI 3 intT (List.replicate (g.fPlaces).toNat (0 : Int))]⟩ (by kernel_rfl) ?_
 refine WL.nil ?_
 refine En.block ?_
 refine En.rowNil 7 8 3 intT (by rfl) (by rfl) ?_
 obtain ⟨Inv_2, mu_2, h0, hI⟩ := h
 refine En.loop (σ := Int × (List Int) × (List Int)) (fun zz => Inv_2 zz.1 zz.2.1 zz.2.2) (fun zz => mu_2 zz.1 zz.2.1 zz.2.2) (fun zz => ⟨[sl 1 (.ptr 0 0), sl 3 (.own 2), sl 4 (.ptr 3 0), sl 5 (.ptr 4 0), sl 6 (.own 5), sl 7 (.own 8), sl 25 (I ((List.replicate (g.fPlaces).toNat (0 : Int)).length : Int)), sl 26 (I zz.1)], [.box (ApiGraph.cl g) 24 false, .gone, rowI 37 (lsT intT) l2, .box [LS intT e] 37 false, .box [.fn 68 [3]] 136 false, rowI 3 intT zz.2.1, .gone, .gone, rowI 3 intT zz.2.2]⟩) (0, (List.replicate (g.fPlaces).toNat (0 : Int)), ([] : (List Int))) h0 (sub_ok (by kernel_rfl)) ?_
 rintro ⟨x26, l5, l8⟩ h
 replace h := hI _ _ _ h
 show En c ⟨[sl 1 (.ptr 0 0), sl 3 (.own 2), sl 4 (.ptr 3 0), sl 5 (.ptr 4 0), sl 6 (.own 5), sl 7 (.own 8), sl 25 (I ((List.replicate (g.fPlaces).toNat (0 : Int)).length : Int)), sl 26 (I x26)], [.box (ApiGraph.cl g) 24 false, .gone, rowI 37 (lsT intT) l2, .box [LS intT e] 37 false, .box [.fn 68 [3]] 136 false, rowI 3 intT l5, .gone, .gone, rowI 3 intT l8]⟩ _
 refine En.seq ?_
 refine En.region ?_
 refine WL.run ht hn 1 ⟨[sl 1 (.ptr 0 0), sl 3 (.own 2), sl 4 (.ptr 3 0), sl 5 (.ptr 4 0), sl 6 (.own 5), sl 7 (.own 8), sl 25 (I ((List.replicate (g.fPlaces).toNat (0 : Int)).length : Int)), sl 26 (I x26), sl 27 (B (decide (x26 < ((List.replicate (g.fPlaces).toNat (0 : Int)).length : Int))))], [.box (ApiGraph.cl g) 24 false, .gone, rowI 37 (lsT intT) l2, .box [LS intT e] 37 false, .box [.fn 68 [3]] 136 false, rowI 3 intT l5, .gone, .gone, rowI 3 intT l8]⟩ (by kernel_rfl) ?_
 refine WL.nil ?_
 refine En.seq ?_
 refine En.cond (b := (decide (x26 < ((List.replicate (g.fPlaces).toNat (0 : Int)).length : Int)))) (by kernel_rfl) (fun hb => ?_) (fun hb => ?_)
 replace h := h.1 hb
 refine En.skip ?_
 refine En.seq ?_
 refine En.block ?_
 refine En.seq ?_
 refine En.region ?_
 refine WL.run ht hn 3 ⟨[sl 1 (.ptr 0 0), sl 3 (.own 2), sl 4 (.ptr 3 0), sl 5 (.ptr 4 0), sl 6 (.own 5), sl 7 (.own 8), sl 8 (.ptr 9 0), sl 25 (I ((List.replicate (g.fPlaces).toNat (0 : Int)).length : Int)), sl 26 (I x26)], [.box (ApiGraph.cl g) 24 false, .gone, rowI 37 (lsT intT) l2, .box [LS intT e] 37 false, .box [.fn 68 [3]] 136 false, rowI 3 intT l5, .gone, .gone, rowI 3 intT l8, .box [I x26] 3 false]⟩ (by kernel_rfl) ?_
 refine WL.nil ?_
 refine En.seq ?_
 refine En.region ?_
 refine WL.run ht hn 2 ⟨[sl 1 (.ptr 0 0), sl 3 (.own 2), sl 4 (.ptr 3 0), sl 5 (.ptr 4 0), sl 6 (.own 5), sl 7 (.own 8), sl 8 (.ptr 9 0), sl 25 (I ((List.replicate (g.fPlaces).toNat (0 : Int)).length : Int)), sl 26 (I x26), sl 29 (.own 8), sl 30 (.fn 70 [3, 9, 0, 4])], [.box (ApiGraph.cl g) 24 false, .gone, rowI 37 (lsT intT) l2, .box [LS intT e] 37 false, .box [.fn 68 [3]] 136 false, rowI 3 intT l5, .gone, .gone, rowI 3 intT l8, .box [I x26] 3 false]⟩ (by kernel_rfl) ?_
 have hp := h.1
 replace h := h.2
 refine WL.mt0 (K := []) (p := none) hn (by rfl) (mt_lend (T := intT) (l := l8) 8 (by rfl) (by rfl) (mt_lendF [3] (by rfl) (by rfl) (mt_lendB (.rd (fvR (fun (x_ : (Int × Int)) => [.sv (.one (I x_.1)), .sv (.one (I x_.2))]) (fun (r : Bool) => .sv (.one (B r))) (inC e) (alikeC e))) 4 0 (by rfl) (by rfl) (fv_at (fv_of (M := [.box [LS intT e] 37 true]) (caps := [3]) (fun x_ hx => samR1_ct x_.1 x_.2 e hx) en68 rfl (by kernel_rfl) (by rfl) (fun _ => rfl))) (mt_lendF [9, 0, 4] (by rfl) (by rfl) (mt_ghost 30 (o1 (.rd (fvR (fun (x_ : Int) => [.sv (.one (I x_))]) (fun (r : Bool) => .sv (.one (B r))) (r2Dom e x26 g (inC e)) (r2B e x26 g (alikeC e))))) (by rfl) (fv_of (M := [.box [LS intT e] 37 true, .box [I x26] 3 true, .box (ApiGraph.cl g) 24 true, .box [.rd (fvR (fun (x_ : (Int × Int)) => [.sv (.one (I x_.1)), .sv (.one (I x_.2))]) (fun (r : Bool) => .sv (.one (B r))) (inC e) (alikeC e))] 136 true]) (caps := [3, 9, 0, 4]) (fun x_ hx => samR2_ct x_ e x26 g (inC e) (alikeC e) hx) en70 rfl (by kernel_rfl) (by rfl) (fun _ => rfl)) (mt_call (indexInt_ct l8 (r2Dom e x26 g (inC e)) (r2B e x26 g (alikeC e)) hp) en69 (caps := []) [] rfl (by rfl) (by kernel_rfl) (by kernel_rfl) (by rfl) (by rfl) (by rfl))))))) (by rfl) (by rfl) (by rfl) ?_
 refine WL.run ht hn 1 ⟨[sl 1 (.ptr 0 0), sl 3 (.own 2), sl 4 (.ptr 3 0), sl 5 (.ptr 4 0), sl 6 (.own 5), sl 7 (.own 8), sl 8 (.ptr 9 0), sl 9 (I (idxTo (r2B e x26 g (alikeC e)) l8)), sl 25 (I ((List.replicate (g.fPlaces).toNat (0 : Int)).length : Int)), sl 26 (I x26)], [.box (ApiGraph.cl g) 24 false, .gone, rowI 37 (lsT intT) l2, .box [LS intT e] 37 false, .box [.fn 68 [3]] 136 false, rowI 3 intT l5, .gone, .gone, rowI 3 intT l8, .box [I x26] 3 false]⟩ (by kernel_rfl) ?_
 refine WL.nil ?_
 obtain ⟨J, h, hJ⟩ := h
 refine En.seqJ (σ := Int × (List Int)) (fun zz => J zz.1 zz.2) (fun zz => ⟨[sl 1 (.ptr 0 0), sl 3 (.own 2), sl 4 (.ptr 3 0), sl 5 (.ptr 4 0), sl 6 (.own 5), sl 7 (.own 8), sl 8 (.ptr 9 0), sl 9 (I zz.1), sl 25 (I ((List.replicate (g.fPlaces).toNat (0 : Int)).length : Int)), sl 26 (I x26)], [.box (ApiGraph.cl g) 24 false, .gone, rowI 37 (lsT intT) l2, .box [LS intT e] 37 false, .box [.fn 68 [3]] 136 false, rowI 3 intT l5, .gone, .gone, rowI 3 intT zz.2, .box [I x26] 3 false]⟩) ?_ ?_
 refine En.seq ?_
 refine En.region ?_
 refine WL.run ht hn 2 ⟨[sl 1 (.ptr 0 0), sl 3 (.own 2), sl 4 (.ptr 3 0), sl 5 (.ptr 4 0), sl 6 (.own 5), sl 7 (.own 8), sl 8 (.ptr 9 0), sl 9 (I (idxTo (r2B e x26 g (alikeC e)) l8)), sl 25 (I ((List.replicate (g.fPlaces).toNat (0 : Int)).length : Int)), sl 26 (I x26), sl 33 (B (decide ((idxTo (r2B e x26 g (alikeC e)) l8) < 0)))], [.box (ApiGraph.cl g) 24 false, .gone, rowI 37 (lsT intT) l2, .box [LS intT e] 37 false, .box [.fn 68 [3]] 136 false, rowI 3 intT l5, .gone, .gone, rowI 3 intT l8, .box [I x26] 3 false]⟩ (by kernel_rfl) ?_
 refine WL.nil ?_
 refine En.cond (b := (decide ((idxTo (r2B e x26 g (alikeC e)) l8) < 0))) (by kernel_rfl) (fun hb => ?_) (fun hb => ?_)
 replace h := h.1 hb
 refine En.seq ?_
 refine En.region ?_
 refine WL.run ht hn 3 ⟨[sl 1 (.ptr 0 0), sl 3 (.own 2), sl 4 (.ptr 3 0), sl 5 (.ptr 4 0), sl 6 (.own 5), sl 7 (.own 8), sl 8 (.ptr 9 0), sl 9 (I (l8.length : Int)), sl 25 (I ((List.replicate (g.fPlaces).toNat (0 : Int)).length : Int)), sl 26 (I x26)], [.box (ApiGraph.cl g) 24 false, .gone, rowI 37 (lsT intT) l2, .box [LS intT e] 37 false, .box [.fn 68 [3]] 136 false, rowI 3 intT l5, .gone, .gone, rowI 3 intT l8, .box [I x26] 3 false]⟩ (by kernel_rfl) ?_
 refine WL.nil ?_
 refine En.region ?_
 refine WL.run ht hn 2 ⟨[sl 1 (.ptr 0 0), sl 3 (.own 2), sl 4 (.ptr 3 0), sl 5 (.ptr 4 0), sl 6 (.own 5), sl 8 (.ptr 9 0), sl 9 (I (l8.length : Int)), sl 25 (I ((List.replicate (g.fPlaces).toNat (0 : Int)).length : Int)), sl 26 (I x26), sl 36 (.own 8), sl 37 (I x26)], [.box (ApiGraph.cl g) 24 false, .gone, rowI 37 (lsT intT) l2, .box [LS intT e] 37 false, .box [.fn 68 [3]] 136 false, rowI 3 intT l5, .gone, .gone, rowI 3 intT l8, .box [I x26] 3 false]⟩ (by kernel_rfl) ?_
 refine WL.mt0 (K := []) (p := some (10, rowI 3 intT ([x26] : (List Int)))) hn (by rfl) (mt_lit (T := intT) ([x26] : (List Int)) (mt_bsl 10 (r := cellsOf intT ([x26] : (List Int))) ht rfl (by rfl) (by rfl) (by rfl) (by kernel_rfl) (by rfl)) (fun _ h => by cases h) (fun _ => rfl) (fun _ => rfl) (by rfl) (Nat.le_of_ble_eq_true rfl)) (by rfl) (by rfl) (by rfl) ?_
 refine WL.seal (T := intT) (l := ([x26] : (List Int))) (e := 3) 10 rfl ?_
 refine WL.run ht hn 0 ⟨[sl 1 (.ptr 0 0), sl 3 (.own 2), sl 4 (.ptr 3 0), sl 5 (.ptr 4 0), sl 6 (.own 5), sl 8 (.ptr 9 0), sl 9 (I (l8.length : Int)), sl 25 (I ((List.replicate (g.fPlaces).toNat (0 : Int)).length : Int)), sl 26 (I x26), sl 36 (.own 8), sl 37 (I x26), sl 38 (LS intT ([x26] : (List Int)))], [.box (ApiGraph.cl g) 24 false, .gone, rowI 37 (lsT intT) l2, .box [LS intT e] 37 false, .box [.fn 68 [3]] 136 false, rowI 3 intT l5, .gone, .gone, rowI 3 intT l8, .box [I x26] 3 false, .gone]⟩ (by kernel_rfl) ?_
 have hp := h.1
 replace h := h.2
 refine WL.mt (S2 := ⟨[sl 1 (.ptr 0 0), sl 3 (.own 2), sl 4 (.ptr 3 0), sl 5 (.ptr 4 0), sl 6 (.own 5), sl 8 (.ptr 9 0), sl 9 (I (l8.length : Int)), sl 25 (I ((List.replicate (g.fPlaces).toNat (0 : Int)).length : Int)), sl 26 (I x26), sl 37 (I x26), sl 38 (LS intT ([x26] : (List Int)))], [.box (ApiGraph.cl g) 24 false, .gone, rowI 37 (lsT intT) l2, .box [LS intT e] 37 false, .box [.fn 68 [3]] 136 false, rowI 3 intT l5, .gone, .gone, rowI 3 intT l8, .box [I x26] 3 false, .gone]⟩) (K := [8]) (p := some (8, rowI 3 intT (l8 ++ ([x26] : (List Int))))) hn (by rfl) (mt_append (T := intT) (l := l8) (es := ([x26] : (List Int))) ht rfl (by rfl) (by rfl) (by rfl) (by rfl) (by decide) (by rfl) (by rfl) (srcLS (T := intT) (es := ([x26] : (List Int))) (fun _ h => by cases h) (by decide) (by rfl)) (by exact hp) (by exact hp.le (by decide))) (by kernel_rfl) (by rfl) (by rfl) (by rfl) ?_
 refine WL.run ht hn 1 ⟨[sl 1 (.ptr 0 0), sl 3 (.own 2), sl 4 (.ptr 3 0), sl 5 (.ptr 4 0), sl 6 (.own 5), sl 7 (.own 8), sl 8 (.ptr 9 0), sl 9 (I (l8.length : Int)), sl 25 (I ((List.replicate (g.fPlaces).toNat (0 : Int)).length : Int)), sl 26 (I x26)], [.box (ApiGraph.cl g) 24 false, .gone, rowI 37 (lsT intT) l2, .box [LS intT e] 37 false, .box [.fn 68 [3]] 136 false, rowI 3 intT l5, .gone, .gone, rowI 3 intT (l8 ++ ([x26] : (List Int))), .box [I x26] 3 false, .gone]⟩ (by kernel_rfl) ?_
 refine WL.nil ?_
 exact En.at (I := fun zz => J zz.1 zz.2) (T := fun zz => ⟨[sl 1 (.ptr 0 0), sl 3 (.own 2), sl 4 (.ptr 3 0), sl 5 (.ptr 4 0), sl 6 (.own 5), sl 7 (.own 8), sl 8 (.ptr 9 0), sl 9 (I zz.1), sl 25 (I ((List.replicate (g.fPlaces).toNat (0 : Int)).length : Int)), sl 26 (I x26)], [.box (ApiGraph.cl g) 24 false, .gone, rowI 37 (lsT intT) l2, .box [LS intT e] 37 false, .box [.fn 68 [3]] 136 false, rowI 3 intT l5, .gone, .gone, rowI 3 intT zz.2, .box [I x26] 3 false]⟩) ((l8.length : Int), (l8 ++ ([x26] : (List Int)))) h (by kernel_rfl)
 replace h := h.2 hb
 refine En.skip ?_
 exact En.at (I := fun zz => J zz.1 zz.2) (T := fun zz => ⟨[sl 1 (.ptr 0 0), sl 3 (.own 2), sl 4 (.ptr 3 0), sl 5 (.ptr 4 0), sl 6 (.own 5), sl 7 (.own 8), sl 8 (.ptr 9 0), sl 9 (I zz.1), sl 25 (I ((List.replicate (g.fPlaces).toNat (0 : Int)).length : Int)), sl 26 (I x26)], [.box (ApiGraph.cl g) 24 false, .gone, rowI 37 (lsT intT) l2, .box [LS intT e] 37 false, .box [.fn 68 [3]] 136 false, rowI 3 intT l5, .gone, .gone, rowI 3 intT zz.2, .box [I x26] 3 false]⟩) ((idxTo (r2B e x26 g (alikeC e)) l8), l8) h (by kernel_rfl)
 rintro ⟨x9, l8_2⟩ h
 replace h := hJ _ _ h
 show En c ⟨[sl 1 (.ptr 0 0), sl 3 (.own 2), sl 4 (.ptr 3 0), sl 5 (.ptr 4 0), sl 6 (.own 5), sl 7 (.own 8), sl 8 (.ptr 9 0), sl 9 (I x9), sl 25 (I ((List.replicate (g.fPlaces).toNat (0 : Int)).length : Int)), sl 26 (I x26)], [.box (ApiGraph.cl g) 24 false, .gone, rowI 37 (lsT intT) l2, .box [LS intT e] 37 false, .box [.fn 68 [3]] 136 false, rowI 3 intT l5, .gone, .gone, rowI 3 intT l8_2, .box [I x26] 3 false]⟩ _
 refine En.region ?_
 refine WL.run ht hn 3 ⟨[sl 1 (.ptr 0 0), sl 3 (.own 2), sl 4 (.ptr 3 0), sl 5 (.ptr 4 0), sl 6 (.own 5), sl 7 (.own 8), sl 25 (I ((List.replicate (g.fPlaces).toNat (0 : Int)).length : Int)), sl 26 (I x26), sl 40 (.own 5), sl 41 (I x26), sl 42 (I x9)], [.box (ApiGraph.cl g) 24 false, .gone, rowI 37 (lsT intT) l2, .box [LS intT e] 37 false, .box [.fn 68 [3]] 136 false, rowI 3 intT l5, .gone, .gone, rowI 3 intT l8_2, .gone]⟩ (by kernel_rfl) ?_
 obtain ⟨e_2, he_2, h⟩ := h
 refine WL.val hn (by rfl) (val_indexO (T := intT) (l := l5) (k := x26) ht rfl (by rfl) (by rfl) (by rfl) (by rfl) (by decide) (by rfl) (by rfl) (by rfl) he_2) (by rfl) ?_
 refine WL.storeO (T := intT) (l := l5) (y := x9) ht hn (by rfl) rfl (by rfl) (by rfl) (fun _ h => by cases h) (by rfl) (by rfl) (idx_lt he_2) (by rfl) (by rfl) (by rfl) (by rfl) ?_
 refine WL.nil ?_
 refine En.region ?_
 refine WL.run ht hn 2 ⟨[sl 1 (.ptr 0 0), sl 3 (.own 2), sl 4 (.ptr 3 0), sl 5 (.ptr 4 0), sl 6 (.own 5), sl 7 (.own 8), sl 25 (I ((List.replicate (g.fPlaces).toNat (0 : Int)).length : Int)), sl 26 (I (wr (x26 + 1)))], [.box (ApiGraph.cl g) 24 false, .gone, rowI 37 (lsT intT) l2, .box [LS intT e] 37 false, .box [.fn 68 [3]] 136 false, rowI 3 intT (l5.set (x26).toNat x9), .gone, .gone, rowI 3 intT l8_2, .gone]⟩ (by kernel_rfl) ?_
 refine WL.nil ?_
 exact En.at (I := fun zz => Inv_2 zz.1 zz.2.1 zz.2.2 ∧ mu_2 zz.1 zz.2.1 zz.2.2 < mu_2 x26 l5 l8) (T := fun zz => ⟨[sl 1 (.ptr 0 0), sl 3 (.own 2), sl 4 (.ptr 3 0), sl 5 (.ptr 4 0), sl 6 (.own 5), sl 7 (.own 8), sl 25 (I ((List.replicate (g.fPlaces).toNat (0 : Int)).length : Int)), sl 26 (I zz.1)], [.box (ApiGraph.cl g) 24 false, .gone, rowI 37 (lsT intT) l2, .box [LS intT e] 37 false, .box [.fn 68 [3]] 136 false, rowI 3 intT zz.2.1, .gone, .gone, rowI 3 intT zz.2.2]⟩) ((wr (x26 + 1)), (l5.set (x26).toNat x9), l8_2) h (by kernel_rfl)
 replace h := h.2 hb
 refine En.exit rfl ?_
 refine En.seq ?_
 refine En.seq ?_
 have hp_2 := h.1
 replace h := h.2
 have hp_3 := h.1
 replace h := h.2
 refine En.regionA ⟨[sl 1 (.ptr 0 0), sl 3 (.own 2), sl 4 (.ptr 3 0), sl 6 (.own 5)], [.sv (.one (.own 5)), .sv (.one (I (maxL l5))), .sv (.one (LS intT e)), .sv (.one (I (maxL e))), .sv (.one (B ((maxL l5) == (maxL e))))], [⟨.box (ApiGraph.cl g) 24 false, none, none, none⟩, ⟨.gone, none, none, none⟩, ⟨rowI 37 (lsT intT) l2, none, none, none⟩, ⟨.box [LS intT e] 37 false, none, none, none⟩, ⟨.gone, none, none, none⟩, ⟨rowI 3 intT l5, none, none, none⟩, ⟨.gone, none, none, none⟩, ⟨.gone, none, none, none⟩, ⟨.gone, none, none, none⟩]⟩ ⟨[sl 1 (.ptr 0 0), sl 3 (.own 2), sl 6 (.own 5), sl 49 (B ((maxL l5) == (maxL e)))], [.box (ApiGraph.cl g) 24 false, .gone, rowI 37 (lsT intT) l2, .gone, .gone, rowI 3 intT l5, .gone, .gone, .gone]⟩ (by kernel_rfl) hn (by kernel_rfl) (by rfl) (by kernel_rfl) ?_ (by kernel_rfl) ?_
 exact ⟨.mt ⟨[sl 6 (.own 5)], []⟩ [] none (by kernel_rfl) (by rfl) (mt_ev ht (by kernel_rfl)) rfl rfl rfl rfl,
 .mt ⟨[sl 45 (.own 5)], [.gone, .gone, .gone, .gone, .gone, rowI 3 intT l5]⟩ [] none (by kernel_rfl) (by rfl) (mt_lend (T := intT) (l := l5) 5 (by rfl) (by rfl) (mt_call (samMax_ct l5 hp_2) en72 (caps := []) [] rfl (by rfl) (by kernel_rfl) (by kernel_rfl) (by rfl) (by rfl) (by rfl))) rfl rfl rfl rfl,
 .mt ⟨[sl 4 (.ptr 3 0)], [.gone, .gone, .gone, .box [LS intT e] 37 false]⟩ [] none (by kernel_rfl) (by rfl) (mt_ev ht (by kernel_rfl)) rfl rfl rfl rfl,
 .mt ⟨[sl 47 (LS intT e)], []⟩ [] none (by kernel_rfl) (by rfl) (mt_call (samMax_ct e hp_3) en72 (caps := []) [] rfl (by rfl) (by kernel_rfl) (by kernel_rfl) (by rfl) (by rfl) (by rfl)) rfl rfl rfl rfl,
 .mt ⟨[sl 46 (I (maxL l5)), sl 48 (I (maxL e))], []⟩ [] none (by kernel_rfl) (by rfl) (mt_ev ht (by kernel_rfl)) rfl rfl rfl rfl,
 trivial⟩
 refine En.cond (b := ((maxL l5) == (maxL e))) (by kernel_rfl) (fun hb => ?_) (fun hb => ?_)
 replace h := h.1 hb
 refine En.seq ?_
 refine En.region ?_
 refine WL.run ht hn 2 ⟨[sl 2 (.own 2)], [.gone, .gone, rowI 37 (lsT intT) l2, .gone, .gone, .gone, .gone, .gone, .gone]⟩ (by kernel_rfl) ?_
 refine WL.nil ?_
 refine En.ret ?_
 refine En.seal (T := (lsT intT)) (l := l2) (e := 37) 2 rfl ?_
 exact En.back ht l2 h (by kernel_rfl) rfl
 replace h := h.2 hb
 refine En.skip ?_
 refine En.region ?_
 refine WL.run ht hn 2 ⟨[sl 1 (.ptr 0 0), sl 51 (.own 2), sl 52 (.own 5)], [.box (ApiGraph.cl g) 24 false, .gone, rowI 37 (lsT intT) l2, .gone, .gone, rowI 3 intT l5, .gone, .gone, .gone]⟩ (by kernel_rfl) ?_
 refine WL.seal (T := intT) (l := l5) (e := 3) 5 rfl ?_
 refine WL.run ht hn 0 ⟨[sl 1 (.ptr 0 0), sl 51 (.own 2), sl 52 (LS intT l5)], [.box (ApiGraph.cl g) 24 false, .gone, rowI 37 (lsT intT) l2, .gone, .gone, .gone, .gone, .gone, .gone]⟩ (by kernel_rfl) ?_
 refine WL.mt0 (K := []) (p := some (9, rowI 37 (lsT intT) ([l5] : (List (List Int))))) hn (by rfl) (mt_lit (T := (lsT intT)) ([l5] : (List (List Int))) (mt_bsl 9 (r := cellsOf (lsT intT) ([l5] : (List (List Int)))) ht rfl (by rfl) (by rfl) (by rfl) (by kernel_rfl) (by rfl)) (fun _ h => by cases h) (fun _ => rfl) (fun _ => rfl) (by rfl) (Nat.le_of_ble_eq_true rfl)) (by rfl) (by rfl) (by rfl) ?_
 refine WL.seal (T := (lsT intT)) (l := ([l5] : (List (List Int)))) (e := 37) 9 rfl ?_
 refine WL.run ht hn 0 ⟨[sl 1 (.ptr 0 0), sl 51 (.own 2), sl 52 (LS intT l5), sl 53 (LS (lsT intT) ([l5] : (List (List Int))))], [.box (ApiGraph.cl g) 24 false, .gone, rowI 37 (lsT intT) l2, .gone, .gone, .gone, .gone, .gone, .gone, .gone]⟩ (by kernel_rfl) ?_
 have hp := h.1
 replace h := h.2
 refine WL.mt (S2 := ⟨[sl 1 (.ptr 0 0), sl 52 (LS intT l5), sl 53 (LS (lsT intT) ([l5] : (List (List Int))))], [.box (ApiGraph.cl g) 24 false, .gone, rowI 37 (lsT intT) l2, .gone, .gone, .gone, .gone, .gone, .gone, .gone]⟩) (K := [2]) (p := some (2, rowI 37 (lsT intT) (l2 ++ ([l5] : (List (List Int)))))) hn (by rfl) (mt_append (T := (lsT intT)) (l := l2) (es := ([l5] : (List (List Int)))) ht rfl (by rfl) (by rfl) (by rfl) (by rfl) (by decide) (by rfl) (by rfl) (srcLS (T := (lsT intT)) (es := ([l5] : (List (List Int)))) (fun _ h => by cases h) (by decide) (by rfl)) (by exact hp) (by exact hp.le (by decide))) (by kernel_rfl) (by rfl) (by rfl) (by rfl) ?_
 refine WL.run ht hn 1 ⟨[sl 1 (.ptr 0 0), sl 3 (.own 2)], [.box (ApiGraph.cl g) 24 false, .gone, rowI 37 (lsT intT) (l2 ++ ([l5] : (List (List Int)))), .gone, .gone, .gone, .gone, .gone, .gone, .gone]⟩ (by kernel_rfl) ?_
 refine WL.nil ?_
 exact En.at (I := fun zz => Inv zz ∧ mu zz < mu l2) (T := fun zz => ⟨[sl 1 (.ptr 0 0), sl 3 (.own 2)], [.box (ApiGraph.cl g) 24 false, .gone, rowI 37 (lsT intT) zz]⟩) (l2 ++ ([l5] : (List (List Int)))) h (by kernel_rfl)
theorem en31 : ∀ args w, (callFunc 31 args).run Try.prog w = .ok (.enter 31 args) w := enters_of Try.func31 (by kernel_rfl) rfl
theorem alikeC_iff {c : List Int} {y : Int × Int} : alikeC c y = true ↔ c.getD y.1.toNat 0 = c.getD y.2.toNat 0 := beq_iff_eq
theorem ansB_iff {g : ApiGraph} {p q : Int} {ok : Int × Int → Bool} : ansB g p q ok = true ↔ ∀ x ∈ g.fArrows, x.fFrom = p → ∃ y ∈ g.fArrows, y.fFrom = q ∧ y.fLetter = x.fLetter ∧ ok (x.fTo, y.fTo) = true := by
 unfold ansB
 rw [List.all_eq_true]
 refine ⟨fun h x hx hp => ?_, fun h x hx => ?_⟩
 ·have := h x hx
  rw [show (x.fFrom == p) = true from beq_iff_eq.2 hp, Bool.true_and, Bool.not_not] at this
  obtain ⟨y, hy, h2⟩ := List.any_eq_true.1 this
  unfold ansOne at h2
  rw [Bool.and_eq_true, Bool.and_eq_true, beq_iff_eq, beq_iff_eq] at h2
  exact ⟨y, hy, h2⟩
 ·by_cases hp : x.fFrom = p
  ·obtain ⟨y, hy, h2⟩ := h x hx hp
   have : g.fArrows.any (ansOne q x ok) = true := List.any_eq_true.2 ⟨y, hy, by unfold ansOne; rw [Bool.and_eq_true, Bool.and_eq_true, beq_iff_eq, beq_iff_eq]; exact h2⟩
   rw [this]
   simp
  ·rw [show (x.fFrom == p) = false from beq_eq_false_iff_ne.2 hp]
   rfl
def StepS (g : ApiGraph) (cl : List Int) (p q : Nat) : Prop := r2B cl (p : Int) g (alikeC cl) (q : Int) = true
theorem StepS.iff {g : ApiGraph} {cl : List Int} {p q : Nat} : StepS g cl p q ↔ cl.getD p 0 = cl.getD q 0 ∧ ansB g p q (alikeC cl) = true ∧ ansB g q p (alikeC cl) = true := by
 unfold StepS r2B
 rw [Bool.and_eq_true, Bool.and_eq_true, beq_iff_eq]
 rfl
theorem ans_refl {g : ApiGraph} {cl : List Int} (p : Int) : ansB g p p (alikeC cl) = true := ansB_iff.2 fun x hx e => ⟨x, hx, e, rfl, alikeC_iff.2 rfl⟩
theorem ans_trans {g : ApiGraph} {cl : List Int} {p q r : Int} (h1 : ansB g p q (alikeC cl) = true) (h2 : ansB g q r (alikeC cl) = true) : ansB g p r (alikeC cl) = true := ansB_iff.2 fun x hx e => by
 obtain ⟨y, hy, e1, e2, e3⟩ := ansB_iff.1 h1 x hx e
 obtain ⟨z, hz, e4, e5, e6⟩ := ansB_iff.1 h2 y hy e1
 exact ⟨z, hz, e4, e5.trans e2, alikeC_iff.2 ((alikeC_iff.1 e3).trans (alikeC_iff.1 e6))⟩
theorem StepS.refl {g : ApiGraph} {cl : List Int} (p : Nat) : StepS g cl p p := StepS.iff.2 ⟨rfl, ans_refl _, ans_refl _⟩
theorem StepS.symm {g : ApiGraph} {cl : List Int} {p q : Nat} (h : StepS g cl p q) : StepS g cl q p := by
 obtain ⟨h1, h2, h3⟩ := StepS.iff.1 h
 exact StepS.iff.2 ⟨h1.symm, h3, h2⟩
theorem StepS.trans {g : ApiGraph} {cl : List Int} {p q r : Nat} (h : StepS g cl p q) (h' : StepS g cl q r) : StepS g cl p r := by
 obtain ⟨h1, h2, h3⟩ := StepS.iff.1 h
 obtain ⟨k1, k2, k3⟩ := StepS.iff.1 h'
 exact StepS.iff.2 ⟨h1.trans k1, ans_trans h2 k2, ans_trans k3 h3⟩
def BisR (g : ApiGraph) (R : Nat → Nat → Prop) : Prop := ∀ p q, R p q → R q p ∧ ∀ x ∈ g.fArrows, x.fFrom = (p : Int) → ∃ y ∈ g.fArrows, y.fFrom = (q : Int) ∧ y.fLetter = x.fLetter ∧ R x.fTo.toNat y.fTo.toNat
def CoarseC (g : ApiGraph) (cl : List Int) : Prop := ∀ R, BisR g R → ∀ p q, p < g.fPlaces.toNat → q < g.fPlaces.toNat → R p q → cl.getD p 0 = cl.getD q 0
theorem bis_ans {g : ApiGraph} {cl : List Int} (hg : GraphOk g) {R : Nat → Nat → Prop} (hR : BisR g R) (hc : CoarseC g cl) {p q : Nat} (h : R p q) : ansB g p q (alikeC cl) = true := ansB_iff.2 fun x hx e => by
 obtain ⟨y, hy, h1, h2, h3⟩ := (hR p q h).2 x hx e
 have ax := hg.arr x hx
 have ay := hg.arr y hy
 exact ⟨y, hy, h1, h2, alikeC_iff.2 (hc R hR _ _ (by omega) (by omega) h3)⟩
theorem CoarseC.step {g : ApiGraph} {cl next : List Int} {m : Nat} (hg : GraphOk g) (h : CoarseC g cl) (hR : RoundR g.fPlaces.toNat (StepS g cl) next m) : CoarseC g next := fun R hB p q hp hq e => (hR.same p q hp hq).2 (StepS.iff.2 ⟨h R hB p q hp hq e, bis_ans hg hB h e, bis_ans hg hB h (hB p q e).1⟩)
structure StableC (g : ApiGraph) (cl : List Int) : Prop where
 coarse : CoarseC g cl
 len : cl.length = g.fPlaces.toNat
 same : ∀ p q, p < g.fPlaces.toNat → q < g.fPlaces.toNat → cl.getD p 0 = cl.getD q 0 → StepS g cl p q
def RoundsQ (g : ApiGraph) (l : List (List Int)) : Prop := 0 < l.length ∧ l.length ≤ 12 ∧ StableC g (l.getD (l.length - 1) [])
theorem idxTo_casesS {α : Type} (p : α → Bool) (l : List α) (z : α) : (∃ k : Nat, idxTo p l = (k : Int) ∧ k < l.length ∧ p (l.getD k z) = true) ∨ (idxTo p l = -1 ∧ ∀ x ∈ l, p x = false) := by
 unfold idxTo
 cases h : l.findIdx? p with
 | none =>
  rw [List.findIdx?_eq_none_iff] at h
  exact .inr ⟨rfl, fun x hx => by simpa using h x hx⟩
 | some k =>
  obtain ⟨hk, hp, _⟩ := List.findIdx?_eq_some_iff_getElem.1 h
  exact .inl ⟨k, rfl, hk, by rw [show l.getD k z = l[k] from by simp [hk]]; exact hp⟩
theorem samRounds_ok (g : ApiGraph) (hp : GraphOk g) : samRounds_vc g (RoundsQ g) := by
 unfold samRounds_vc
 intro _
 have hpl := hp.pl
 obtain ⟨n, hn⟩ : ∃ n, g.fPlaces.toNat = n := ⟨_, rfl⟩
 have hpre : ∀ e : List Int, e.length = n → ansPre g (inC e) := fun e he x hx y hy => by
  have h1 := hp.arr x hx
  have h2 := hp.arr y hy
  exact ⟨⟨by simp only; omega, by simp only; omega⟩, ⟨by simp only; omega, by simp only; omega⟩⟩
 rw [hn]
 refine ⟨⟨by omega, by omega, by omega⟩, fun l => ∃ m : Nat, 0 < l.length ∧ l.length ≤ m ∧ m ≤ n ∧ Onto n m (l.getD (l.length - 1) []) ∧ CoarseC g (l.getD (l.length - 1) []), fun l => n + 1 - (maxL (l.getD (l.length - 1) [])).toNat, ⟨1, by simp, by simp, by omega, ⟨by simp, fun p hp => ?_, fun j hj => ⟨0, by omega, ?_⟩⟩, fun R _ p q hp hq _ => ?_⟩, ?_⟩
 ·simp [List.getD_eq_getElem?_getD, List.getElem?_replicate, hp]
 ·have : j = 0 := by omega
  subst this
  simp [List.getD_eq_getElem?_getD, List.getElem?_replicate, show 0 < n by omega]
 ·rw [hn] at hp hq
  simp [List.getD_eq_getElem?_getD, List.getElem?_replicate, hp, hq]
 rintro l ⟨m, hl0, hlm, hmn, hO, hCo⟩
 have hidx : idx l (wr ((l.length : Int) - 1)) = some (l.getD (l.length - 1) []) := by
  rw [wr_in (by omega) (by omega), show (l.length : Int) - 1 = ((l.length - 1 : Nat) : Int) by omega]
  exact idx_getS [] (by omega)
 refine ⟨_, hidx, ⟨by omega, by omega, by omega⟩, ?_⟩
 generalize he : l.getD (l.length - 1) [] = cls at hO hCo ⊢
 have hcl := hO.len
 obtain ⟨hmx, hm0⟩ := max_onto hO (by omega)
 refine ⟨fun i next firsts => ∃ k : Nat, i = k ∧ k ≤ n ∧ FirstsInv n (StepS g cls) k firsts next, fun i _ _ => n - i.toNat, ⟨0, rfl, Nat.zero_le _, FirstsInv.start (by simp)⟩, ?_⟩
 rintro i next firsts ⟨k, rfl, hk, hF⟩
 have hfs := hF.size
 rw [List.length_replicate]
 refine ⟨fun hb => ?_, fun hb => ?_⟩
 ·have hlt := dlt hb
  have hfr : ∀ x ∈ firsts, ∃ r : Nat, r < k ∧ x = (r : Int) := fun x hx => by
   obtain ⟨j, hj, rfl⟩ := List.getElem_of_mem hx
   obtain ⟨r, h1, h2, _⟩ := hF.first j hj
   rw [show firsts.getD j 0 = firsts[j] from by simp [hj]] at h2
   exact ⟨r, h1, h2⟩
  refine ⟨fun x hx => ?_, fun x9 l7 => FirstsInv n (StepS g cls) (k + 1) l7 (next.set k x9), ?_, ?_⟩
  ·obtain ⟨r, h1, rfl⟩ := hfr x hx
   exact ⟨⟨⟨by simp only; omega, by simp only; omega⟩, ⟨by simp only; omega, by simp only; omega⟩⟩, hpre _ hcl⟩
  ·have hlf := hF.len
   rcases idxTo_casesS (r2B cls (k : Int) g (alikeC cls)) firsts 0 with ⟨j, h1, h2, h3⟩ | ⟨h1, h2⟩
   ·rw [h1]
    refine ⟨fun h => absurd (of_decide_eq_true h) (by omega), fun _ => hF.known hlt h2 ?_⟩
    obtain ⟨r, h4, h5⟩ := hfr _ (getD_mem (z := 0) h2)
    rw [h5] at h3 ⊢
    rw [Int.toNat_natCast]
    exact StepS.symm h3
   ·rw [h1]
    refine ⟨fun _ => ⟨capOk_of (by simp only [List.length_cons, List.length_nil]; omega), hF.new hlt (fun q _ => StepS.refl q) (fun _ _ _ _ h => h.symm) fun j hj hR => ?_⟩, fun h => absurd h (by decide)⟩
    have h4 := h2 _ (getD_mem (z := 0) hj)
    obtain ⟨r, h5, h6⟩ := hfr _ (getD_mem (z := 0) hj)
    rw [h6] at h4 hR
    rw [Int.toNat_natCast] at hR
    have h7 : r2B cls (k : Int) g (alikeC cls) (r : Int) = true := hR.symm
    rw [h7] at h4
    cases h4
  ·intro x9 l7 hF2
   have hlf := hF.len
   refine ⟨_, idx_getS 0 (by omega), ⟨k + 1, wsucc (by omega), hlt, by rw [Int.toNat_natCast]; exact hF2⟩, mu_up hlt (by omega)⟩
 ·have hke : k = n := by have := dge hb; omega
  subst hke
  have hR := hF.done (fun _ _ _ _ h => h.symm) (fun _ _ _ _ _ _ h h2 => h.trans h2)
  have href : ∀ p q, p < k → q < k → next.getD p 0 = next.getD q 0 → cls.getD p 0 = cls.getD q 0 := fun p q hp hq e => (StepS.iff.1 ((hR.same p q hp hq).1 e)).1
  have hle := hR.toOnto.le hO href
  obtain ⟨hmx2, _⟩ := max_onto hR.toOnto (by omega)
  have hnl := hR.len
  refine ⟨by omega, by omega, fun h => ?_, fun h => ?_⟩
  ·have h : firsts.length = m := by
    have := beq_iff_eq.1 h
    omega
   have hO' := hR.toOnto
   rw [h] at hO'
   refine ⟨hl0, by omega, ?_⟩
   rw [he]
   exact ⟨hCo, by rw [hcl, hn], fun p q hp hq e => (hR.same p q (by omega) (by omega)).1 (hO'.stay hO href (by omega) (by omega) e)⟩
  ·have h : firsts.length ≠ m := fun e => by
    have : maxL next = maxL cls := by omega
    rw [this] at h
    simp at h
   have hlast : (l ++ [next]).getD ((l ++ [next]).length - 1) [] = next := by
    rw [List.length_append]
    exact getD_app
   refine ⟨capOk_of (by simp only [List.length_cons, List.length_nil]; omega), ⟨firsts.length, by simp, ?_, hR.size, ?_, ?_⟩, ?_⟩
   ·rw [List.length_append]; simp only [List.length_cons, List.length_nil]; omega
   ·rw [hlast]; exact hR.toOnto
   ·rw [hlast]; rw [← hn] at hR; exact hCo.step hp hR
   ·show k + 1 - (maxL ((l ++ [next]).getD ((l ++ [next]).length - 1) [])).toNat < k + 1 - (maxL (l.getD (l.length - 1) [])).toNat
    rw [hlast, he]
    have := hR.size
    omega
theorem samRounds_ct (g : ApiGraph) (hp : GraphOk g) : Ct 31 [.sv (.agg [I g.fLetters, I g.fPlaces, LS ApiArrow.ty g.fArrows])] [] (RoundsQ g) (fun (r : (List (List Int))) => .sv (.one (LS (lsT intT) r))) := samRounds_walk g (RoundsQ g) (samRounds_ok g hp)
def samClasses_vc (g : ApiGraph) (Q : ((List Int) × Int) → Prop) : Prop :=
 g.fArrows.length ≤ 9223372036854775807 →
 (IfP ((samErr g) != 0) (Q ([], (samErr g))) ((GraphOk g) ∧
 ∀ r : (List (List Int)), (RoundsQ g) r →
 (∃ e, idx r (wr ((r.length : Int) - 1)) = some e ∧
 (e.length * 8 ≤ 140737488355328) ∧
 Q ((e), 0))))
theorem samClasses_walk (g : ApiGraph) (Q : ((List Int) × Int) → Prop) (h : samClasses_vc g Q) : Ct 13 [.sv (.agg [I g.fLetters, I g.fPlaces, LS ApiArrow.ty g.fArrows])] [] Q (fun (r : ((List Int) × Int)) => .tup [.one (LS intT r.1), .one (I r.2)]) := by
 have ht := tab_ok
 refine Ct.body Try.func13 rfl rfl rfl rfl (fun c hn => ?_)
 unfold samClasses_vc at h
 refine En.lenA 0 2 (by rfl) (by rfl) (fun hl => ?_)
 replace h := h hl
 clear hl
 refine En.seq ?_
 refine En.region ?_
 refine WL.run ht hn 3 ⟨[sl 1 (.ptr 0 0)], [.box (ApiGraph.cl g) 24 false]⟩ (by kernel_rfl) ?_
 refine WL.nil ?_
 refine En.seq ?_
 refine En.seq ?_
 refine En.region ?_
 refine WL.run ht hn 1 ⟨[sl 1 (.ptr 0 0), (6, .sv (.agg (ApiGraph.cl g)))], [.box (ApiGraph.cl g) 24 false]⟩ (by kernel_rfl) ?_
 refine WL.mt0 (K := []) (p := none) hn (by rfl) (mt_call (samCheck_ct g) en20 (caps := []) [] rfl (by rfl) (by kernel_rfl) (by kernel_rfl) (by rfl) (by rfl) (by rfl)) (by rfl) (by rfl) (by rfl) ?_
 refine WL.run ht hn 1 ⟨[sl 1 (.ptr 0 0), sl 4 (I (samErr g))], [.box (ApiGraph.cl g) 24 false]⟩ (by kernel_rfl) ?_
 refine WL.nil ?_
 refine En.seq ?_
 refine En.region ?_
 refine WL.run ht hn 2 ⟨[sl 1 (.ptr 0 0), sl 4 (I (samErr g)), sl 9 (B ((samErr g) != 0))], [.box (ApiGraph.cl g) 24 false]⟩ (by kernel_rfl) ?_
 refine WL.nil ?_
 refine En.cond (b := ((samErr g) != 0)) (by kernel_rfl) (fun hb => ?_) (fun hb => ?_)
 replace h := h.1 hb
 refine En.seq ?_
 refine En.region ?_
 refine WL.run ht hn 3 ⟨[sl 2 (.v (.slice none 0 0)), sl 3 (I (samErr g))], [.gone]⟩ (by kernel_rfl) ?_
 refine WL.nil ?_
 refine En.ret ?_
 refine En.nilLS 2 intT (by rfl) ?_
 exact En.back ht ([], (samErr g)) h (by kernel_rfl) rfl
 replace h := h.2 hb
 refine En.skip ?_
 refine En.seq ?_
 refine En.region ?_
 refine WL.run ht hn 1 ⟨[(11, .sv (.agg (ApiGraph.cl g)))], [.gone]⟩ (by kernel_rfl) ?_
 have hp := h.1
 replace h := h.2
 refine WL.mtQ (Q := RoundsQ g) (x := fun (r : (List (List Int))) => .sv (.one (LS (lsT intT) r))) (p := fun _ => none) hn (by rfl) (mtq_call (samRounds_ct g hp) en31 (caps := []) [] rfl (by rfl) (by kernel_rfl) (by kernel_rfl) (by rfl) (fun _ => rfl) (by rfl)) (fun r hr_2 => ⟨by rfl, _, by rfl, ?_⟩)
 replace h := h r hr_2
 refine WL.run ht hn 1 ⟨[sl 5 (LS (lsT intT) r)], [.gone]⟩ (by kernel_rfl) ?_
 refine WL.nil ?_
 refine En.seq ?_
 refine En.region ?_
 refine WL.run ht hn 4 ⟨[sl 13 (LS (lsT intT) r), sl 16 (I (wr ((r.length : Int) - 1)))], [.gone]⟩ (by kernel_rfl) ?_
 obtain ⟨e, he, h⟩ := h
 refine WL.val hn (by rfl) (val_index (T := (lsT intT)) (l := r) (i := (wr ((r.length : Int) - 1))) ht rfl (by rfl) (by rfl) (by rfl) (by rfl) (by rfl) (by rfl) he) (by rfl) ?_
 refine WL.val hn (by rfl) (val_load (s := .one (LS intT e)) ht rfl (by rfl) (by rfl) (by rfl) (by rfl) (by rfl)) (by rfl) ?_
 have hp := h.1
 replace h := h.2
 refine WL.mt0 (K := []) (p := some (1, rowI 3 intT (e))) hn (by rfl) (mt_callI 1 (cloneInt_ct e hp) en30 (caps := []) [] rfl rfl (by rfl) (by kernel_rfl) (by kernel_rfl) (by rfl) (by rfl)) (by rfl) (by rfl) (by rfl) ?_
 refine WL.run ht hn 2 ⟨[sl 2 (.own 1), sl 3 (I 0)], [.gone, rowI 3 intT (e)]⟩ (by kernel_rfl) ?_
 refine WL.nil ?_
 refine En.ret ?_
 refine En.seal (T := intT) (l := (e)) (e := 3) 1 rfl ?_
 exact En.back ht ((e), 0) h (by kernel_rfl) rfl
theorem en13 : ∀ args w, (callFunc 13 args).run Try.prog w = .ok (.enter 13 args) w := enters_of Try.func13 (by kernel_rfl) rfl
def ClassesQ (g : ApiGraph) (r : List Int × Int) : Prop := r.2 = samErr g ∧ (samErr g = 0 → StableC g r.1)
theorem samClasses_ok (g : ApiGraph) : samClasses_vc g (ClassesQ g) := by
 unfold samClasses_vc
 intro _
 refine ⟨fun h => ⟨rfl, fun e => ?_⟩, fun h => ?_⟩
 ·rw [e] at h; cases h
 ·have h0 : samErr g = 0 := by simpa using h
  refine ⟨samErr_ok h0, fun r ⟨h1, h2, h3⟩ => ?_⟩
  have hn := (samErr_ok h0).pl
  have hl := h3.len
  refine ⟨r.getD (r.length - 1) [], ?_, by omega, h0.symm, fun _ => h3⟩
  rw [wr_in (by omega) (by omega), show (r.length : Int) - 1 = ((r.length - 1 : Nat) : Int) by omega]
  exact idx_getS [] (by omega)
theorem samClasses_ct (g : ApiGraph) : Ct 13 [.sv (.agg [I g.fLetters, I g.fPlaces, LS ApiArrow.ty g.fArrows])] [] (ClassesQ g) (fun (r : ((List Int) × Int)) => .tup [.one (LS intT r.1), .one (I r.2)]) := samClasses_walk g (ClassesQ g) (samClasses_ok g)
end Go.Proofs.Ytiejmeedkhkfgaa


namespace Go.Proofs.Ytiejmeedkhkfgaa
open Go.RowKit Go.MapKept
set_option linter.unusedSimpArgs false
set_option linter.unusedVariables false
set_option maxRecDepth 100000
def mul64_vc (x : Int) (y : Int) (Q : (Int × Int) → Prop) : Prop :=
 Q ((IntKind.wrap .u64 ((IntKind.wrap .u64 ((IntKind.wrap .u64 ((Int.fdiv x (2 ^ (min 32 64))) * (Int.fdiv y (2 ^ (min 32 64))))) + (Int.fdiv (IntKind.wrap .u64 ((IntKind.wrap .u64 ((Int.fdiv x (2 ^ (min 32 64))) * (bitsI .and .u64 y 4294967295))) + (Int.fdiv (IntKind.wrap .u64 ((bitsI .and .u64 x 4294967295) * (bitsI .and .u64 y 4294967295))) (2 ^ (min 32 64))))) (2 ^ (min 32 64))))) + (Int.fdiv (IntKind.wrap .u64 ((bitsI .and .u64 (IntKind.wrap .u64 ((IntKind.wrap .u64 ((Int.fdiv x (2 ^ (min 32 64))) * (bitsI .and .u64 y 4294967295))) + (Int.fdiv (IntKind.wrap .u64 ((bitsI .and .u64 x 4294967295) * (bitsI .and .u64 y 4294967295))) (2 ^ (min 32 64))))) 4294967295) + (IntKind.wrap .u64 ((bitsI .and .u64 x 4294967295) * (Int.fdiv y (2 ^ (min 32 64))))))) (2 ^ (min 32 64))))), (IntKind.wrap .u64 (x * y)))
noncomputable abbrev qmul640 (x : Int) (y : Int) := (IntKind.wrap .u64 ((IntKind.wrap .u64 ((Int.fdiv x (2 ^ (min 32 64))) * (bitsI .and .u64 y 4294967295))) + (Int.fdiv (IntKind.wrap .u64 ((bitsI .and .u64 x 4294967295) * (bitsI .and .u64 y 4294967295))) (2 ^ (min 32 64)))))
noncomputable abbrev qmul641 (x : Int) (y : Int) := (IntKind.wrap .u64 ((IntKind.wrap .u64 ((IntKind.wrap .u64 ((Int.fdiv x (2 ^ (min 32 64))) * (Int.fdiv y (2 ^ (min 32 64))))) + (Int.fdiv (qmul640 x y) (2 ^ (min 32 64))))) + (Int.fdiv (IntKind.wrap .u64 ((bitsI .and .u64 (qmul640 x y) 4294967295) + (IntKind.wrap .u64 ((bitsI .and .u64 x 4294967295) * (Int.fdiv y (2 ^ (min 32 64))))))) (2 ^ (min 32 64)))))
noncomputable abbrev qmul642 (x : Int) := (bitsI .and .u64 x 4294967295)
noncomputable abbrev qmul643 (x : Int) := (Int.fdiv x (2 ^ (min 32 64)))
noncomputable abbrev qmul644 (y : Int) := (Int.fdiv y (2 ^ (min 32 64)))
theorem mul64_walk (x : Int) (y : Int) (Q : (Int × Int) → Prop) (h : mul64_vc x y Q) : Ct 138 [.sv (.one (.v (.int .u64 x))), .sv (.one (.v (.int .u64 y)))] [] Q (fun (r : (Int × Int)) => .tup [.one (.v (.int .u64 r.1)), .one (.v (.int .u64 r.2))]) := by
 have ht := tab_ok
 refine Ct.body Try.func138 rfl rfl rfl rfl (fun c hn => ?_)
 unfold mul64_vc at h
 refine En.seq ?_
 refine En.region ?_
 refine WL.run ht hn 2 ⟨[sl 0 (.v (.int .u64 x)), sl 1 (.v (.int .u64 y))], []⟩ (by kernel_rfl) ?_
 refine WL.nil ?_
 refine En.seq ?_
 refine En.region ?_
 refine WL.run ht hn 3 ⟨[sl 0 (.v (.int .u64 x)), sl 1 (.v (.int .u64 y)), sl 6 (.v (.int .u64 (qmul642 x)))], []⟩ (by kernel_rfl) ?_
 refine WL.nil ?_
 refine En.seq ?_
 refine En.region ?_
 refine WL.run ht hn 3 ⟨[sl 0 (.v (.int .u64 x)), sl 1 (.v (.int .u64 y)), sl 6 (.v (.int .u64 (qmul642 x))), sl 7 (.v (.int .u64 (qmul643 x)))], []⟩ (by kernel_rfl) ?_
 refine WL.nil ?_
 refine En.seq ?_
 refine En.region ?_
 refine WL.run ht hn 3 ⟨[sl 0 (.v (.int .u64 x)), sl 1 (.v (.int .u64 y)), sl 6 (.v (.int .u64 (qmul642 x))), sl 7 (.v (.int .u64 (qmul643 x))), sl 8 (.v (.int .u64 (bitsI .and .u64 y 4294967295)))], []⟩ (by kernel_rfl) ?_
 refine WL.nil ?_
 refine En.seq ?_
 refine En.region ?_
 refine WL.run ht hn 3 ⟨[sl 0 (.v (.int .u64 x)), sl 1 (.v (.int .u64 y)), sl 6 (.v (.int .u64 (qmul642 x))), sl 7 (.v (.int .u64 (qmul643 x))), sl 8 (.v (.int .u64 (bitsI .and .u64 y 4294967295))), sl 9 (.v (.int .u64 (qmul644 y)))], []⟩ (by kernel_rfl) ?_
 refine WL.nil ?_
 refine En.seq ?_
 refine En.region ?_
 refine WL.run ht hn 4 ⟨[sl 0 (.v (.int .u64 x)), sl 1 (.v (.int .u64 y)), sl 6 (.v (.int .u64 (qmul642 x))), sl 7 (.v (.int .u64 (qmul643 x))), sl 8 (.v (.int .u64 (bitsI .and .u64 y 4294967295))), sl 9 (.v (.int .u64 (qmul644 y))), sl 10 (.v (.int .u64 (IntKind.wrap .u64 ((qmul642 x) * (bitsI .and .u64 y 4294967295)))))], []⟩ (by kernel_rfl) ?_
 refine WL.nil ?_
 refine En.seq ?_
 refine En.region ?_
 refine WL.run ht hn 7 ⟨[sl 0 (.v (.int .u64 x)), sl 1 (.v (.int .u64 y)), sl 6 (.v (.int .u64 (qmul642 x))), sl 7 (.v (.int .u64 (qmul643 x))), sl 9 (.v (.int .u64 (qmul644 y))), sl 11 (.v (.int .u64 (qmul640 x y)))], []⟩ (by kernel_rfl) ?_
 refine WL.nil ?_
 refine En.seq ?_
 refine En.region ?_
 refine WL.run ht hn 3 ⟨[sl 0 (.v (.int .u64 x)), sl 1 (.v (.int .u64 y)), sl 6 (.v (.int .u64 (qmul642 x))), sl 7 (.v (.int .u64 (qmul643 x))), sl 9 (.v (.int .u64 (qmul644 y))), sl 11 (.v (.int .u64 (qmul640 x y))), sl 12 (.v (.int .u64 (bitsI .and .u64 (qmul640 x y) 4294967295)))], []⟩ (by kernel_rfl) ?_
 refine WL.nil ?_
 refine En.seq ?_
 refine En.region ?_
 refine WL.run ht hn 3 ⟨[sl 0 (.v (.int .u64 x)), sl 1 (.v (.int .u64 y)), sl 6 (.v (.int .u64 (qmul642 x))), sl 7 (.v (.int .u64 (qmul643 x))), sl 9 (.v (.int .u64 (qmul644 y))), sl 12 (.v (.int .u64 (bitsI .and .u64 (qmul640 x y) 4294967295))), sl 13 (.v (.int .u64 (Int.fdiv (qmul640 x y) (2 ^ (min 32 64)))))], []⟩ (by kernel_rfl) ?_
 refine WL.nil ?_
 refine En.seq ?_
 refine En.region ?_
 refine WL.run ht hn 6 ⟨[sl 0 (.v (.int .u64 x)), sl 1 (.v (.int .u64 y)), sl 7 (.v (.int .u64 (qmul643 x))), sl 9 (.v (.int .u64 (qmul644 y))), sl 12 (.v (.int .u64 (IntKind.wrap .u64 ((bitsI .and .u64 (qmul640 x y) 4294967295) + (IntKind.wrap .u64 ((qmul642 x) * (qmul644 y))))))), sl 13 (.v (.int .u64 (Int.fdiv (qmul640 x y) (2 ^ (min 32 64)))))], []⟩ (by kernel_rfl) ?_
 refine WL.nil ?_
 refine En.seq ?_
 refine En.region ?_
 refine WL.run ht hn 9 ⟨[sl 0 (.v (.int .u64 x)), sl 1 (.v (.int .u64 y)), sl 4 (.v (.int .u64 (qmul641 x y)))], []⟩ (by kernel_rfl) ?_
 refine WL.nil ?_
 refine En.seq ?_
 refine En.region ?_
 refine WL.run ht hn 4 ⟨[sl 4 (.v (.int .u64 (qmul641 x y))), sl 5 (.v (.int .u64 (IntKind.wrap .u64 (x * y))))], []⟩ (by kernel_rfl) ?_
 refine WL.nil ?_
 refine En.ret ?_
 exact En.back ht ((qmul641 x y), (IntKind.wrap .u64 (x * y))) h (by kernel_rfl) rfl
theorem en138 : ∀ args w, (callFunc 138 args).run Try.prog w = .ok (.enter 138 args) w := enters_of Try.func138 (by kernel_rfl) rfl
theorem wr_u64 {a : Int} (h1 : 0 ≤ a) (h2 : a < 18446744073709551616) : IntKind.wrap .u64 a = a := by
 show a % 18446744073709551616 = a
 exact Int.emod_eq_of_lt h1 h2
theorem and_mask {x : Int} (h1 : 0 ≤ x) (h2 : x < 4294967296) : bitsI .and .u64 x 4294967295 = x := by
 obtain ⟨m, rfl⟩ : ∃ m : Nat, x = m := ⟨x.toNat, by omega⟩
 have h := (bits_nat .u64 63 (by decide) (fun a h0 ha => wr_u64 h0 (by omega)) m 4294967295 (by omega) (by decide)).1
 have h3 : m &&& 4294967295 = m % 2 ^ 32 := Nat.and_two_pow_sub_one_eq_mod m 32
 rw [h3, Nat.mod_eq_of_lt (by omega)] at h
 exact h
theorem shr_small {x : Int} (h1 : 0 ≤ x) (h2 : x < 4294967296) : Int.fdiv x (2 ^ (min 32 64)) = 0 := by
 rw [show ((2 : Int) ^ (min 32 64)) = 4294967296 from rfl, Int.fdiv_eq_ediv_of_nonneg _ (by omega)]
 exact Int.ediv_eq_zero_of_lt h1 h2
theorem mul64_ct (x : Int) (y : Int) (hp : (0 ≤ x ∧ x < 4294967296) ∧ 0 ≤ y ∧ y < 4294967296) (hq : x * y < 4294967296) : Ct 138 [.sv (.one (.v (.int .u64 x))), .sv (.one (.v (.int .u64 y)))] [] (fun (_ : Unit) => True) (fun _ => .tup [.one (.v (.int .u64 ((0, IntKind.wrap .u64 (x * y))).1)), .one (.v (.int .u64 ((0, IntKind.wrap .u64 (x * y))).2))]) := by
 refine (mul64_walk x y (fun res_ => res_ = ((0, IntKind.wrap .u64 (x * y)))) ?_).fun
 unfold mul64_vc
 obtain ⟨⟨h1, h2⟩, h3, h4⟩ := hp
 have hxy : 0 ≤ x * y := Int.mul_nonneg h1 h3
 have hle : x * y < 4294967296 := hq
 rw [and_mask h1 h2, and_mask h3 (by omega), shr_small h1 h2, shr_small h3 (by omega)]
 simp only [Int.zero_mul, Int.mul_zero, Int.zero_add, Int.add_zero]
 rw [show IntKind.wrap .u64 0 = 0 from rfl]
 simp only [Int.zero_add, Int.add_zero]
 rw [wr_u64 hxy (by omega), shr_small hxy hle]
 rfl
theorem mul64_ct2 (x y : Int) (hp : ((0 ≤ x ∧ x < 4294967296) ∧ 0 ≤ y ∧ y < 4294967296) ∧ x * y < 4294967296) : Ct 138 [.sv (.one (.v (.int .u64 x))), .sv (.one (.v (.int .u64 y)))] [] (fun (_ : Unit) => True) (fun _ => .tup [.one (.v (.int .u64 0)), .one (.v (.int .u64 (IntKind.wrap .u64 (x * y))))]) := mul64_ct x y hp.1 hp.2
def mulU_vc (x : Int) (y : Int) (Q : (Int × Int) → Prop) : Prop :=
 (((0 ≤ x ∧ x < 4294967296) ∧ 0 ≤ y ∧ y < 4294967296) ∧ x * y < 4294967296) ∧
 Q ((((0 : Int), IntKind.wrap .u64 (x * y))).1, (((0 : Int), IntKind.wrap .u64 (x * y))).2)
theorem mulU_walk (x : Int) (y : Int) (Q : (Int × Int) → Prop) (h : mulU_vc x y Q) : Ct 112 [.sv (.one (.v (.int .u64 x))), .sv (.one (.v (.int .u64 y)))] [] Q (fun (r : (Int × Int)) => .tup [.one (.v (.int .u64 r.1)), .one (.v (.int .u64 r.2))]) := by
 have ht := tab_ok
 refine Ct.body Try.func112 rfl rfl rfl rfl (fun c hn => ?_)
 unfold mulU_vc at h
 refine En.seq ?_
 refine En.region ?_
 refine WL.run ht hn 2 ⟨[sl 0 (.v (.int .u64 x)), sl 1 (.v (.int .u64 y))], []⟩ (by kernel_rfl) ?_
 refine WL.nil ?_
 refine En.seq ?_
 refine En.cond (b := false) (by kernel_rfl) (fun hb => ?_) (fun hb => ?_)
 cases hb
 refine En.skip ?_
 refine En.seq ?_
 refine En.region ?_
 refine WL.run ht hn 2 ⟨[sl 23 (.v (.int .u64 x)), sl 24 (.v (.int .u64 y))], []⟩ (by kernel_rfl) ?_
 have hp := h.1
 replace h := h.2
 refine WL.mt0 (K := []) (p := none) hn (by rfl) (mt_call (mul64_ct2 x y hp) en138 (caps := []) [] rfl (by rfl) (by kernel_rfl) (by kernel_rfl) (by rfl) (by rfl) (by rfl)) (by rfl) (by rfl) (by rfl) ?_
 refine WL.run ht hn 5 ⟨[sl 8 (.v (.int .u64 (((0 : Int), IntKind.wrap .u64 (x * y))).1)), sl 9 (.v (.int .u64 (((0 : Int), IntKind.wrap .u64 (x * y))).2))], []⟩ (by kernel_rfl) ?_
 refine WL.nil ?_
 refine En.seq ?_
 refine En.region ?_
 refine WL.run ht hn 4 ⟨[sl 4 (.v (.int .u64 (((0 : Int), IntKind.wrap .u64 (x * y))).1)), sl 5 (.v (.int .u64 (((0 : Int), IntKind.wrap .u64 (x * y))).2))], []⟩ (by kernel_rfl) ?_
 refine WL.nil ?_
 refine En.ret ?_
 exact En.back ht ((((0 : Int), IntKind.wrap .u64 (x * y))).1, (((0 : Int), IntKind.wrap .u64 (x * y))).2) h (by kernel_rfl) rfl
theorem en112 : ∀ args w, (callFunc 112 args).run Try.prog w = .ok (.enter 112 args) w := enters_of Try.func112 (by kernel_rfl) rfl
theorem mulU_ct (x : Int) (y : Int) (hp : ((0 ≤ x ∧ x < 4294967296) ∧ 0 ≤ y ∧ y < 4294967296) ∧ x * y < 4294967296) : Ct 112 [.sv (.one (.v (.int .u64 x))), .sv (.one (.v (.int .u64 y)))] [] (fun (_ : Unit) => True) (fun _ => .tup [.one (.v (.int .u64 ((0, IntKind.wrap .u64 (x * y))).1)), .one (.v (.int .u64 ((0, IntKind.wrap .u64 (x * y))).2))]) := by
 refine (mulU_walk x y (fun res_ => res_ = ((0, IntKind.wrap .u64 (x * y)))) ?_).fun
 unfold mulU_vc
 exact ⟨hp, rfl⟩
def repB_vc (l : (List Bool)) (n : Int) (Q : (List Bool) → Prop) : Prop :=
 l.length ≤ 9223372036854775807 →
 (IfP (decide (n < 0)) (False) ((((0 ≤ (IntKind.wrap .u64 (l.length : Int)) ∧ (IntKind.wrap .u64 (l.length : Int)) < 4294967296) ∧ 0 ≤ (IntKind.wrap .u64 n) ∧ (IntKind.wrap .u64 n) < 4294967296) ∧ (IntKind.wrap .u64 (l.length : Int)) * (IntKind.wrap .u64 n) < 4294967296) ∧
 IfP ((decide ((((0 : Int), IntKind.wrap .u64 ((IntKind.wrap .u64 (l.length : Int)) * (IntKind.wrap .u64 n)))).1 > 0)) || (decide ((((0 : Int), IntKind.wrap .u64 ((IntKind.wrap .u64 (l.length : Int)) * (IntKind.wrap .u64 n)))).2 > 9223372036854775807))) (False) (makeOk (wr (((0 : Int), IntKind.wrap .u64 ((IntKind.wrap .u64 (l.length : Int)) * (IntKind.wrap .u64 n)))).2) (wr (((0 : Int), IntKind.wrap .u64 ((IntKind.wrap .u64 (l.length : Int)) * (IntKind.wrap .u64 n)))).2) 1 ∧
 ∃ (Inv : Int → (List Bool) → Prop) (mu : Int → (List Bool) → Nat), Inv (((min l.length (List.replicate ((wr (((0 : Int), IntKind.wrap .u64 ((IntKind.wrap .u64 (l.length : Int)) * (IntKind.wrap .u64 n)))).2)).toNat false).length) : Nat) : Int) ((List.replicate ((wr (((0 : Int), IntKind.wrap .u64 ((IntKind.wrap .u64 (l.length : Int)) * (IntKind.wrap .u64 n)))).2)).toNat false).take 0 ++ l.take (min l.length (List.replicate ((wr (((0 : Int), IntKind.wrap .u64 ((IntKind.wrap .u64 (l.length : Int)) * (IntKind.wrap .u64 n)))).2)).toNat false).length) ++ (List.replicate ((wr (((0 : Int), IntKind.wrap .u64 ((IntKind.wrap .u64 (l.length : Int)) * (IntKind.wrap .u64 n)))).2)).toNat false).drop (0 + (min l.length (List.replicate ((wr (((0 : Int), IntKind.wrap .u64 ((IntKind.wrap .u64 (l.length : Int)) * (IntKind.wrap .u64 n)))).2)).toNat false).length))) ∧
 ∀ (x8 : Int) (l0 : (List Bool)) , Inv x8 l0 → (IfP (decide (x8 < (l0.length : Int))) (partOk x8 (l0.length : Int) l0.length ∧
 partOk 0 x8 l0.length ∧
 (Inv (wr (x8 + (((min ((l0.drop ((0 : Int).toNat)).take ((x8 : Int).toNat - (0 : Int).toNat)).length (((l0.length : Int) : Int).toNat - (x8 : Int).toNat)) : Nat) : Int))) (l0.take ((x8 : Int).toNat) ++ ((l0.drop ((0 : Int).toNat)).take ((x8 : Int).toNat - (0 : Int).toNat)).take (min ((l0.drop ((0 : Int).toNat)).take ((x8 : Int).toNat - (0 : Int).toNat)).length (((l0.length : Int) : Int).toNat - (x8 : Int).toNat)) ++ l0.drop (((x8 : Int).toNat) + (min ((l0.drop ((0 : Int).toNat)).take ((x8 : Int).toNat - (0 : Int).toNat)).length (((l0.length : Int) : Int).toNat - (x8 : Int).toNat)))) ∧ mu (wr (x8 + (((min ((l0.drop ((0 : Int).toNat)).take ((x8 : Int).toNat - (0 : Int).toNat)).length (((l0.length : Int) : Int).toNat - (x8 : Int).toNat)) : Nat) : Int))) (l0.take ((x8 : Int).toNat) ++ ((l0.drop ((0 : Int).toNat)).take ((x8 : Int).toNat - (0 : Int).toNat)).take (min ((l0.drop ((0 : Int).toNat)).take ((x8 : Int).toNat - (0 : Int).toNat)).length (((l0.length : Int) : Int).toNat - (x8 : Int).toNat)) ++ l0.drop (((x8 : Int).toNat) + (min ((l0.drop ((0 : Int).toNat)).take ((x8 : Int).toNat - (0 : Int).toNat)).length (((l0.length : Int) : Int).toNat - (x8 : Int).toNat)))) < mu x8 l0)) (Q l0)))))
noncomputable abbrev qrepB0 (l : (List Bool)) (n : Int) := (List.replicate ((wr (((0 : Int), IntKind.wrap .u64 ((IntKind.wrap .u64 (l.length : Int)) * (IntKind.wrap .u64 n)))).2)).toNat false)
noncomputable abbrev qrepB1 (l : (List Bool)) := (IntKind.wrap .u64 (l.length : Int))
noncomputable abbrev qrepB2 (l : (List Bool)) (n : Int) := (decide ((((0 : Int), IntKind.wrap .u64 ((qrepB1 l) * (IntKind.wrap .u64 n)))).1 > 0))
noncomputable abbrev qrepB3 (l : (List Bool)) (n : Int) := (decide ((((0 : Int), IntKind.wrap .u64 ((qrepB1 l) * (IntKind.wrap .u64 n)))).2 > 9223372036854775807))
noncomputable abbrev qrepB4 (l : (List Bool)) (n : Int) := (min l.length (qrepB0 l n).length)
theorem repB_walk (l : (List Bool)) (n : Int) (Q : (List Bool) → Prop) (h : repB_vc l n Q) : CtJ 77 [.sv (.one (LS boolT l)), .sv (.one (I n))] [] Q (fun (r : (List Bool)) => rowI 4 boolT r) := by
 have ht := tab_ok
 refine CtJ.body Try.func77 rfl rfl rfl rfl (fun c hn hmay => ?_)
 unfold repB_vc at h
 refine En.lenL 0 (by rfl) (fun hl => ?_)
 replace h := h hl
 clear hl
 refine En.seq ?_
 refine En.region ?_
 refine WL.run ht hn 1 ⟨[sl 0 (LS boolT l), sl 1 (I n)], []⟩ (by kernel_rfl) ?_
 refine WL.nil ?_
 refine En.seq ?_
 refine En.seq ?_
 refine En.region ?_
 refine WL.run ht hn 2 ⟨[sl 0 (LS boolT l), sl 1 (I n), sl 10 (B (decide (n < 0)))], []⟩ (by kernel_rfl) ?_
 refine WL.nil ?_
 refine En.cond (b := (decide (n < 0))) (by kernel_rfl) (fun hb => ?_) (fun hb => ?_)
 replace h := h.1 hb
 exact h.elim
 replace h := h.2 hb
 refine En.skip ?_
 refine En.seq ?_
 refine En.region ?_
 refine WL.run ht hn 5 ⟨[sl 0 (LS boolT l), sl 15 (.v (.int .u64 (qrepB1 l))), sl 17 (.v (.int .u64 (IntKind.wrap .u64 n)))], []⟩ (by kernel_rfl) ?_
 have hp := h.1
 replace h := h.2
 refine WL.mt0 (K := []) (p := none) hn (by rfl) (mt_call (mulU_ct (qrepB1 l) (IntKind.wrap .u64 n) hp) en112 (caps := []) [] rfl (by rfl) (by kernel_rfl) (by kernel_rfl) (by rfl) (by rfl) (by rfl)) (by rfl) (by rfl) (by rfl) ?_
 refine WL.run ht hn 5 ⟨[sl 0 (LS boolT l), sl 5 (.v (.int .u64 (((0 : Int), IntKind.wrap .u64 ((qrepB1 l) * (IntKind.wrap .u64 n)))).1)), sl 6 (.v (.int .u64 (((0 : Int), IntKind.wrap .u64 ((qrepB1 l) * (IntKind.wrap .u64 n)))).2))], []⟩ (by kernel_rfl) ?_
 refine WL.nil ?_
 refine En.seq ?_
 refine En.seq ?_
 refine En.region ?_
 refine WL.run ht hn 3 ⟨[sl 0 (LS boolT l), sl 6 (.v (.int .u64 (((0 : Int), IntKind.wrap .u64 ((qrepB1 l) * (IntKind.wrap .u64 n)))).2)), sl 23 (B (qrepB2 l n))], []⟩ (by kernel_rfl) ?_
 refine WL.thru ⟨[sl 0 (LS boolT l), sl 6 (.v (.int .u64 (((0 : Int), IntKind.wrap .u64 ((qrepB1 l) * (IntKind.wrap .u64 n)))).2)), sl 26 (B ((qrepB2 l n) || (qrepB3 l n)))], []⟩ ?_ ?_
 refine splitB (qrepB2 l n) (fun hb0 => ?_) (fun hb0 => ?_)
 refine WL.setB 23 hb0 (by kernel_rfl) ?_
 refine WL.run ht hn 3 ⟨[sl 0 (LS boolT l), sl 6 (.v (.int .u64 (((0 : Int), IntKind.wrap .u64 ((qrepB1 l) * (IntKind.wrap .u64 n)))).2)), sl 26 (B true)], []⟩ (by kernel_rfl) ?_
 exact WL.nil (sub_ok (by simp only [hb0]; kernel_rfl))
 refine WL.setB 23 hb0 (by kernel_rfl) ?_
 refine WL.run ht hn 3 ⟨[sl 0 (LS boolT l), sl 6 (.v (.int .u64 (((0 : Int), IntKind.wrap .u64 ((qrepB1 l) * (IntKind.wrap .u64 n)))).2)), sl 26 (B (qrepB3 l n))], []⟩ (by kernel_rfl) ?_
 exact WL.nil (sub_ok (by simp only [hb0]; kernel_rfl))
 refine En.cond (b := ((qrepB2 l n) || (qrepB3 l n))) (by kernel_rfl) (fun hb => ?_) (fun hb => ?_)
 replace h := h.1 hb
 exact h.elim
 replace h := h.2 hb
 refine En.skip ?_
 refine En.seq ?_
 refine En.region ?_
 refine WL.run ht hn 2 ⟨[sl 0 (LS boolT l), sl 29 (I (wr (((0 : Int), IntKind.wrap .u64 ((qrepB1 l) * (IntKind.wrap .u64 n)))).2))], []⟩ (by kernel_rfl) ?_
 have hp := h.1
 replace h := h.2
 refine WL.mt0 (K := []) (p := some (0, rowI 4 boolT (qrepB0 l n))) hn (by rfl) (mt_make (T := boolT) false (zv := (.bool false)) 0 (l := (wr (((0 : Int), IntKind.wrap .u64 ((qrepB1 l) * (IntKind.wrap .u64 n)))).2)) (cp := (wr (((0 : Int), IntKind.wrap .u64 ((qrepB1 l) * (IntKind.wrap .u64 n)))).2)) ht rfl (by rfl) (by rfl) (by rfl) (by rfl) (by decide) (by rfl) (by rfl) hp.1 hp.2.1 hp.2.2 (hp.le (by decide)) rfl (fun _ => ⟨rfl, trivial⟩)) (by rfl) (by rfl) (by rfl) ?_
 refine WL.run ht hn 1 ⟨[sl 0 (LS boolT l), sl 7 (.own 0)], [rowI 4 boolT (qrepB0 l n)]⟩ (by kernel_rfl) ?_
 refine WL.nil ?_
 refine En.seq ?_
 refine En.region ?_
 refine WL.run ht hn 2 ⟨[sl 7 (.own 0), sl 31 (.own 0), sl 32 (LS boolT l)], [rowI 4 boolT (qrepB0 l n)]⟩ (by kernel_rfl) ?_
 refine WL.me hn (by rfl) (me_copy (T := boolT) (L := (qrepB0 l n)) (es := l) (i := 0) (lo := 0) (m := (qrepB0 l n).length) rfl (fun _ h => by cases h) ht rfl (by rfl) (by rfl) (by rfl) (by rfl) (by rfl) (dstOwn (T := boolT) (l := (qrepB0 l n)) (by rfl) (by rfl)) (srcLS (T := boolT) (es := l) (fun _ h => by cases h) (by decide) (by rfl)) (Nat.le_of_eq (Nat.zero_add _))) (by rfl) rfl rfl (by rfl) ?_
 refine WL.sub ⟨[sl 7 (.own 0), sl 31 (.own 0), sl 32 (LS boolT l), sl 33 (I (((qrepB4 l n) : Nat) : Int))], [rowI 4 boolT ((qrepB0 l n).take 0 ++ l.take (qrepB4 l n) ++ (qrepB0 l n).drop (0 + (qrepB4 l n)))]⟩ (by kernel_rfl) ?_
 refine WL.run ht hn 1 ⟨[sl 7 (.own 0), sl 8 (I (((qrepB4 l n) : Nat) : Int))], [rowI 4 boolT ((qrepB0 l n).take 0 ++ l.take (qrepB4 l n) ++ (qrepB0 l n).drop (0 + (qrepB4 l n)))]⟩ (by kernel_rfl) ?_
 refine WL.nil ?_
 refine En.seq ?_
 refine En.block ?_
 obtain ⟨Inv, mu, h0, hI⟩ := h
 refine En.loop (σ := Int × (List Bool)) (fun zz => Inv zz.1 zz.2) (fun zz => mu zz.1 zz.2) (fun zz => ⟨[sl 7 (.own 0), sl 8 (I zz.1)], [rowI 4 boolT zz.2]⟩) ((((qrepB4 l n) : Nat) : Int), ((qrepB0 l n).take 0 ++ l.take (qrepB4 l n) ++ (qrepB0 l n).drop (0 + (qrepB4 l n)))) h0 (sub_ok (by kernel_rfl)) ?_
 rintro ⟨x8, l0⟩ h
 replace h := hI _ _ h
 show En c ⟨[sl 7 (.own 0), sl 8 (I x8)], [rowI 4 boolT l0]⟩ _
 refine En.seq ?_
 refine En.seq ?_
 refine En.region ?_
 refine WL.run ht hn 4 ⟨[sl 7 (.own 0), sl 8 (I x8), sl 37 (B (decide (x8 < (l0.length : Int))))], [rowI 4 boolT l0]⟩ (by kernel_rfl) ?_
 refine WL.nil ?_
 refine En.cond (b := (decide (x8 < (l0.length : Int)))) (by kernel_rfl) (fun hb => ?_) (fun hb => ?_)
 replace h := h.1 hb
 refine En.skip ?_
 refine En.block ?_
 have hp_2 := h.1
 replace h := h.2
 have hp_3 := h.1
 replace h := h.2
 refine En.regionA ⟨[sl 7 (.own 0), sl 8 (I x8)], [.sv (.one (I x8)), .sv (.one (.own 0)), .sv (.one (I x8)), .sv (.one (.vw 0 ((x8 : Int).toNat) (((l0.length : Int) : Int).toNat - (x8 : Int).toNat) 1)), .sv (.one (.own 0)), .sv (.one (I x8)), .sv (.one (.vw 0 ((0 : Int).toNat) ((x8 : Int).toNat - (0 : Int).toNat) 1)), .sv (.one (I (((min ((l0.drop ((0 : Int).toNat)).take ((x8 : Int).toNat - (0 : Int).toNat)).length (((l0.length : Int) : Int).toNat - (x8 : Int).toNat)) : Nat) : Int))), .sv (.one (I (wr (x8 + (((min ((l0.drop ((0 : Int).toNat)).take ((x8 : Int).toNat - (0 : Int).toNat)).length (((l0.length : Int) : Int).toNat - (x8 : Int).toNat)) : Nat) : Int))))), .sv (.one (I (wr (x8 + (((min ((l0.drop ((0 : Int).toNat)).take ((x8 : Int).toNat - (0 : Int).toNat)).length (((l0.length : Int) : Int).toNat - (x8 : Int).toNat)) : Nat) : Int)))))], [⟨rowI 4 boolT l0, none, none, some (7, rowI 4 boolT (l0.take ((x8 : Int).toNat) ++ ((l0.drop ((0 : Int).toNat)).take ((x8 : Int).toNat - (0 : Int).toNat)).take (min ((l0.drop ((0 : Int).toNat)).take ((x8 : Int).toNat - (0 : Int).toNat)).length (((l0.length : Int) : Int).toNat - (x8 : Int).toNat)) ++ l0.drop (((x8 : Int).toNat) + (min ((l0.drop ((0 : Int).toNat)).take ((x8 : Int).toNat - (0 : Int).toNat)).length (((l0.length : Int) : Int).toNat - (x8 : Int).toNat)))))⟩]⟩ ⟨[sl 7 (.own 0), sl 8 (I (wr (x8 + (((min ((l0.drop ((0 : Int).toNat)).take ((x8 : Int).toNat - (0 : Int).toNat)).length (((l0.length : Int) : Int).toNat - (x8 : Int).toNat)) : Nat) : Int))))], [rowI 4 boolT (l0.take ((x8 : Int).toNat) ++ ((l0.drop ((0 : Int).toNat)).take ((x8 : Int).toNat - (0 : Int).toNat)).take (min ((l0.drop ((0 : Int).toNat)).take ((x8 : Int).toNat - (0 : Int).toNat)).length (((l0.length : Int) : Int).toNat - (x8 : Int).toNat)) ++ l0.drop (((x8 : Int).toNat) + (min ((l0.drop ((0 : Int).toNat)).take ((x8 : Int).toNat - (0 : Int).toNat)).length (((l0.length : Int) : Int).toNat - (x8 : Int).toNat))))]⟩ (by kernel_rfl) hn (by kernel_rfl) (by rfl) (by kernel_rfl) ?_ (by kernel_rfl) ?_
 exact ⟨.mt ⟨[sl 8 (I x8)], []⟩ [] none (by kernel_rfl) (by rfl) (mt_ev ht (by kernel_rfl)) rfl rfl rfl rfl,
 .mt ⟨[sl 7 (.own 0)], []⟩ [] none (by kernel_rfl) (by rfl) (mt_ev ht (by kernel_rfl)) rfl rfl rfl rfl,
 .mt ⟨[sl 8 (I x8)], []⟩ [] none (by kernel_rfl) (by rfl) (mt_ev ht (by kernel_rfl)) rfl rfl rfl rfl,
 .mt ⟨[sl 39 (.own 0), sl 40 (I x8)], [rowI 4 boolT l0]⟩ [] none (by kernel_rfl) (by rfl) (mt_val (val_view (T := boolT) (l := l0) (lv := x8) (hv := (l0.length : Int)) ht rfl (by rfl) (by rfl) (by rfl) (by rfl) (by rfl) (by rfl) (by rfl) (by rfl) hp_2)) rfl rfl rfl rfl,
 .mt ⟨[sl 7 (.own 0)], []⟩ [] none (by kernel_rfl) (by rfl) (mt_ev ht (by kernel_rfl)) rfl rfl rfl rfl,
 .mt ⟨[sl 8 (I x8)], []⟩ [] none (by kernel_rfl) (by rfl) (mt_ev ht (by kernel_rfl)) rfl rfl rfl rfl,
 .mt ⟨[sl 42 (.own 0), sl 43 (I x8)], [rowI 4 boolT l0]⟩ [] none (by kernel_rfl) (by rfl) (mt_val (val_view (T := boolT) (l := l0) (lv := 0) (hv := x8) ht rfl (by rfl) (by rfl) (by rfl) (by rfl) (by rfl) (by rfl) (by rfl) (by rfl) hp_3)) rfl rfl rfl rfl,
 .me ⟨[sl 41 (.vw 0 ((x8 : Int).toNat) (((l0.length : Int) : Int).toNat - (x8 : Int).toNat) 1), sl 44 (.vw 0 ((0 : Int).toNat) ((x8 : Int).toNat - (0 : Int).toNat) 1)], [rowI 4 boolT l0]⟩ [(0, rowI 4 boolT (l0.take ((x8 : Int).toNat) ++ ((l0.drop ((0 : Int).toNat)).take ((x8 : Int).toNat - (0 : Int).toNat)).take (min ((l0.drop ((0 : Int).toNat)).take ((x8 : Int).toNat - (0 : Int).toNat)).length (((l0.length : Int) : Int).toNat - (x8 : Int).toNat)) ++ l0.drop (((x8 : Int).toNat) + (min ((l0.drop ((0 : Int).toNat)).take ((x8 : Int).toNat - (0 : Int).toNat)).length (((l0.length : Int) : Int).toNat - (x8 : Int).toNat)))))] (by kernel_rfl) (by rfl) (me_copy (T := boolT) (L := l0) (es := ((l0.drop ((0 : Int).toNat)).take ((x8 : Int).toNat - (0 : Int).toNat))) (i := 0) (lo := ((x8 : Int).toNat)) (m := (((l0.length : Int) : Int).toNat - (x8 : Int).toNat)) rfl (fun _ h => by cases h) ht rfl (by rfl) (by rfl) (by rfl) (by rfl) (by rfl) (dstVw (by rfl)) (srcVw (T := boolT) (l := l0) rfl (fun _ h => by cases h) (by rfl) (by rfl) (view_le hp_3)) (view_le hp_2)) rfl rfl rfl ⟨⟨_, rfl, rfl, rfl, rfl, rfl⟩, trivial⟩,
 .mt ⟨[sl 38 (I x8), sl 45 (I (((min ((l0.drop ((0 : Int).toNat)).take ((x8 : Int).toNat - (0 : Int).toNat)).length (((l0.length : Int) : Int).toNat - (x8 : Int).toNat)) : Nat) : Int))], []⟩ [] none (by kernel_rfl) (by rfl) (mt_ev ht (by kernel_rfl)) rfl rfl rfl rfl,
 .mt ⟨[sl 46 (I (wr (x8 + (((min ((l0.drop ((0 : Int).toNat)).take ((x8 : Int).toNat - (0 : Int).toNat)).length (((l0.length : Int) : Int).toNat - (x8 : Int).toNat)) : Nat) : Int))))], []⟩ [] none (by kernel_rfl) (by rfl) (mt_ev ht (by kernel_rfl)) rfl rfl rfl rfl,
 trivial⟩
 exact En.at (I := fun zz => Inv zz.1 zz.2 ∧ mu zz.1 zz.2 < mu x8 l0) (T := fun zz => ⟨[sl 7 (.own 0), sl 8 (I zz.1)], [rowI 4 boolT zz.2]⟩) ((wr (x8 + (((min ((l0.drop ((0 : Int).toNat)).take ((x8 : Int).toNat - (0 : Int).toNat)).length (((l0.length : Int) : Int).toNat - (x8 : Int).toNat)) : Nat) : Int))), (l0.take ((x8 : Int).toNat) ++ ((l0.drop ((0 : Int).toNat)).take ((x8 : Int).toNat - (0 : Int).toNat)).take (min ((l0.drop ((0 : Int).toNat)).take ((x8 : Int).toNat - (0 : Int).toNat)).length (((l0.length : Int) : Int).toNat - (x8 : Int).toNat)) ++ l0.drop (((x8 : Int).toNat) + (min ((l0.drop ((0 : Int).toNat)).take ((x8 : Int).toNat - (0 : Int).toNat)).length (((l0.length : Int) : Int).toNat - (x8 : Int).toNat))))) h (by kernel_rfl)
 replace h := h.2 hb
 refine En.exit rfl ?_
 refine En.seq ?_
 refine En.region ?_
 refine WL.run ht hn 2 ⟨[sl 4 (.own 0)], [rowI 4 boolT l0]⟩ (by kernel_rfl) ?_
 refine WL.nil ?_
 refine En.ret ?_
 exact En.backJ (itf := fun l => rowI 4 boolT l) hmay (by rfl) (by rfl) rfl rfl h
theorem en77 : ∀ args w, (callFunc 77 args).run Try.prog w = .ok (.enter 77 args) w := enters_of Try.func77 (by kernel_rfl) rfl
theorem rep_step {k m : Nat} (b : Bool) (hk : k < m) : (List.replicate k b ++ List.replicate (m - k) false).take k ++ (List.replicate k b).take (min k (m - k)) ++ (List.replicate k b ++ List.replicate (m - k) false).drop (k + min k (m - k)) = List.replicate (k + min k (m - k)) b ++ List.replicate (m - (k + min k (m - k))) false := by
 rw [List.take_left' (by simp), List.take_replicate, List.drop_append, List.drop_eq_nil_of_le (by simp), List.nil_append, List.drop_replicate, List.length_replicate, Nat.min_eq_left (Nat.min_le_left _ _), List.replicate_append_replicate]
 congr 2
 omega
theorem repB_ct (l : List Bool) (n : Int) (hp : l.length = 1 ∧ 0 ≤ n ∧ n < 2147483648) : CtI 77 [.sv (.one (LS boolT l)), .sv (.one (I n))] [] (rowI 4 boolT (List.replicate n.toNat (l.headD false))) := by
 refine (repB_walk l n (fun r => r = List.replicate n.toNat (l.headD false)) ?_).fun
 obtain ⟨h1, h0, h2⟩ := hp
 obtain ⟨b, rfl⟩ : ∃ b, l = [b] := by
  match l, h1 with
  | [b], _ => exact ⟨b, rfl⟩
 unfold repB_vc
 intro _
 obtain ⟨m, rfl⟩ : ∃ m : Nat, n = m := ⟨n.toNat, by omega⟩
 have hw : IntKind.wrap .u64 (((1 : Nat) : Int)) = 1 := rfl
 have hu : IntKind.wrap .u64 (m : Int) = m := wr_u64 h0 (by omega)
 simp only [List.length_cons, List.length_nil, Nat.zero_add, hw, hu, Int.one_mul, wr_in (show -9223372036854775808 ≤ (m : Int) by omega) (show (m : Int) ≤ 9223372036854775807 by omega), List.headD_cons, List.length_replicate, Int.toNat_natCast]
 refine ⟨fun h => absurd (of_decide_eq_true h) (by omega), fun _ => ⟨⟨⟨⟨by omega, by omega⟩, by omega, by omega⟩, by omega⟩, fun h => ?_, fun _ => ⟨⟨by omega, by omega, by omega⟩, ?_⟩⟩⟩
 ·simp at h
  omega
 refine ⟨fun x l0 => ∃ k : Nat, x = k ∧ k ≤ m ∧ (0 < k ∨ m = 0) ∧ l0 = List.replicate k b ++ List.replicate (m - k) false, fun x _ => m - x.toNat, ⟨min 1 m, rfl, by omega, by omega, ?_⟩, ?_⟩
 ·by_cases hm : m = 0
  ·subst hm; rfl
  ·rw [Nat.min_eq_left (show 1 ≤ m by omega), List.take_zero, List.nil_append]
   simp
 ·rintro x l0 ⟨k, rfl, hk, hk0, rfl⟩
  have hlen : (List.replicate k b ++ List.replicate (m - k) false).length = m := by simp; omega
  refine ⟨fun hb => ?_, fun hb => ?_⟩
  ·have hlt : k < m := by have := of_decide_eq_true hb; rw [hlen] at this; omega
   simp only [hlen, Int.toNat_natCast, Int.toNat_zero, Nat.sub_zero, List.drop_zero]
   refine ⟨⟨by omega, by omega, by omega⟩, ⟨by omega, by omega, by omega⟩, ?_⟩
   have ht : (List.replicate k b ++ List.replicate (m - k) false).take k = List.replicate k b := List.take_left' (by simp)
   rw [ht, List.length_replicate]
   have hs := rep_step b hlt
   rw [ht] at hs
   rw [hs]
   refine ⟨⟨k + min k (m - k), ?_, by omega, by omega, rfl⟩, ?_⟩
   ·rw [wr_in (by omega) (by omega)]
    omega
   ·rw [wr_in (by omega) (by omega)]
    omega
  ·have : k = m := by have := of_decide_eq_false hb; rw [hlen] at this; omega
   subst this
   simp
end Go.Proofs.Ytiejmeedkhkfgaa


namespace Go.Proofs.Ytiejmeedkhkfgaa
open Go.RowKit Go.MapKept
set_option linter.unusedSimpArgs false
set_option linter.unusedVariables false
set_option maxRecDepth 100000
def slcR {α : Type} (T : Ty α) (l : List α) : Rd := ⟨fun g v => slRead T l g v ∧ ∃ ao, v = .slice ao l.length l.length, fun g g' v hg ⟨h1, h2⟩ => ⟨(slR T l).mono g g' v hg h1, h2⟩⟩
theorem run_append_lim {w : World} {t ty e : Nat} {ti te : TI} (hu : Try.prog.underlying t = some (.slice e)) (hte : TI.ok e te) (hs : 0 < te.size) {v : Value} {n : Nat} {xs : List Value} (hx : SrcRow w te.size v n xs) (hcap : ∃ ao, v = .slice ao n n)
  {vx : Value} {m : Nat} {news : List Value} (hm : 0 < m) (hsrc : SrcRow w te.size vx m news) (h63 : n + m ≤ maxLen) (hbytes : (n + m) * te.bytes ≤ 140737488355328) :
  ∃ v' w', (Builtin.append_ #[t, t] ty #[v, vx]).run Try.prog w = .ok v' w' ∧ w'.ownsAt e te.size v' (n + m) (xs ++ news) ∧ w.grownBy w' none ∧ ∀ b, v'.ownBlock = some b → w.heap.size ≤ b := by
 obtain ⟨ao, cp, rfl, hnil, hlx, hcx, h1x⟩ := hx
 obtain ⟨_, hc⟩ := hcap
 cases hc
 cases ao with
 | none =>
  obtain ⟨rfl, _⟩ := hnil rfl
  obtain rfl : xs = [] := List.eq_nil_of_length_eq_zero (by simpa using hlx)
  obtain ⟨v', w', r1, r2, r3, r4⟩ := run_append_src (w := w) (ty := ty) (ti := ti) hu hte hs (World.ownsAt_nil w e te.size) hsrc h63 hbytes
  refine ⟨v', w', r1, r2, by simpa [Value.ownBlock] using r3, fun b hb => ?_⟩
  rcases r4 with r4 | r4
  ·rw [r4] at hb
   cases hb
  ·rw [r4] at hb
   cases hb
   exact Nat.le_refl _
 | some a0 =>
  obtain ⟨x, z, h1, h2, h3, h4, h5⟩ := hte.parts
  have hzs : z.cells.size = te.size := by rw [← Array.length_toList, h5, hte.zs]
  obtain ⟨ao, c, rfl, hnil2, hl, hcells, hone⟩ := hsrc
  cases ao with
  | none =>
   obtain ⟨_, rfl⟩ := hnil2 rfl
   cases hm
  | some ad =>
   have fix : ∀ {a0 : Addr} {l : List Value}, (∀ j u, l[j]? = some u → ∃ b o, some a0 = some ⟨b, o, none⟩ ∧ w.cell? ⟨b, o + j, none⟩ = some u) → ∀ j u, l[j]? = some u → w.cell? (a0.add j) = some u := fun h j u hj => by
    obtain ⟨b, o, e1, e2⟩ := h j u hj
    cases e1
    rw [svs_add]
    exact e2
   obtain ⟨v', w', r1, r2, r3⟩ := run_append_arg_grows (P := Try.prog) w t ty e x z te.size te.bytes hu h1 h2 h3 h4 hzs hs a0 n n xs hlx (fix hcx) ad m c news hl (fix hcells) (by omega) h63 hbytes
   refine ⟨v', w', r1, r2.at, r3, fun b hb => ?_⟩
   rcases r2.2 with ⟨rfl, _⟩ | ⟨gb, cap, cur, rfl, hg, _⟩
   ·cases hb
   ·cases hb
    exact hg
section
variable {c : Cfg} {S S1 : St} {a : Act} {w : World} {g : Gh} {hs : Nat → Value} {tab : Tab} {n : Nat} {o : Oper} {ops : Array Oper} {rest L : List Oper} {N : Po}
theorem val_sliceC {α : Type} {T : Ty α} {l : List α} {t el m : Nat} {ti te : TI} {x q r : Operand} (ht : tab.ok) (ho : o.op = .slice t x none (some q) (some r)) (h1 : tab t = some ti) (h2 : ti.sl = some el) (h3 : tab el = some te) (h4 : te.size = T.s)
  (hx : evX S.F x = some (.sv (.one (.sl (slR T l) m)))) (hq : evK S.F q = some (.int .i64 l.length)) (hr : evK S.F r = some (.int .i64 l.length)) : Val c S o (.sv (.one (.sl (slcR T l) l.length))) := fun a w g hs h => by
 have hu := slT_some ((ht t ti h1).sl.trans h2)
 obtain ⟨⟨hrd, ao, cap, e1⟩, _⟩ := evX_ok h hx
 have hr' : slRead T l g (a.eval x) := hrd
 rw [e1] at hr'
 have hr2 := hr'
 obtain ⟨ao', n'', cap', k1, k2, k3, k4, k5, k6⟩ := hr2
 cases k1
 subst k2
 have htk := hr'.take (lo := 0) (hi := l.length) (by omega) (by omega)
 have hb : (Instr.sliceBounds true l.length cap none (some (a.eval q)) (some (a.eval r))).run Try.prog w = .ok (0, l.length, l.length) w := by
  unfold Instr.sliceBounds
  simp only [Sem.run_bind, Sem.run_pure, Result.andThen_ok, Instr.sliceBound, evK_ok h hq, evK_ok h hr, asIntOf]
  rw [if_pos (by omega)]
  simp
 have hrun : ∃ ao2, (execOp a.eval o).run Try.prog w = .ok (.value (.slice ao2 l.length l.length)) w ∧ (∀ b of, ao = some ⟨b, of, none⟩ → ao2 = some ⟨b, of, none⟩) ∧ (ao = none → ao2 = none) := by
  have : execOp a.eval o = (do pure (.value (← Instr.sliceAt t (a.eval x) none (some (a.eval q)) (some (a.eval r)))) : Sem Next) := by unfold execOp; rw [ho]; rfl
  rw [this]
  cases ao with
  | none =>
   refine ⟨none, run_val ?_, fun _ _ e => (by cases e), fun _ => rfl⟩
   simp only [Instr.sliceAt, Instr.slice, Sem.run_bind, run_underlying hu, Result.andThen_ok, e1, hb, (ht el te h3).run_size, Sem.run_pure]
   simp
  | some b0 =>
   refine ⟨if l.length = 0 then some b0 else (some b0).map (·.add (0 * te.size)), run_val ?_, fun b of e => ?_, fun e => (by cases e)⟩
   ·simp only [Instr.sliceAt, Instr.slice, Sem.run_bind, run_underlying hu, Result.andThen_ok, e1, hb, (ht el te h3).run_size, Sem.run_pure, Nat.sub_zero]
   ·cases e
    split
    ·rfl
    ·simp [Addr.add]
 obtain ⟨ao2, hrun, hs1, hs2⟩ := hrun
 refine ⟨_, hrun, ⟨⟨⟨ao2, l.length, l.length, rfl, rfl, Nat.le_refl _, by omega, fun e => ?_, fun q y hy => ?_⟩, ao2, rfl⟩, ao2, l.length, rfl⟩, trivial⟩
 ·cases ao with
  | none => have := k5 rfl; omega
  | some b0 =>
   by_cases hl : l = []
   ·rw [hl]; rfl
   ·obtain ⟨b, of, u, j1, _⟩ := k6 0 (l[0]'(by have := List.length_pos_iff.2 hl; omega)) (by simp)
    have := (hs1 b of j1).symm.trans e
    cases this
 ·obtain ⟨b, of, u, j1, j2⟩ := k6 q y hy
  exact ⟨b, of, u, hs1 b of j1, j2⟩
theorem mt_appendC {α : Type} {T : Ty α} {l es : List α} {p m : Nat} {x y : Operand} {t e : Nat} {ti te : TI} (ht : tab.ok) (ho : o.op = .call ⟨.builtin .append, #[x, y], #[t, t]⟩) (h1 : tab t = some ti) (h2 : ti.sl = some e) (h3 : tab e = some te) (h4 : te.size = T.s) (h5 : 0 < T.s) (hT : T.solid)
  (hx : evX S.F x = some (.sv (.one (.sl (slcR T l) m)))) (hsrc : SrcOk c S y T es) (he : 0 < es.length) (hb : (l.length + es.length) * te.bytes ≤ 140737488355328) (hb2 : l.length + es.length ≤ 140737488355328) : MT c S o (.sv (.one (.own p))) [] (some (p, rowI e T (l ++ es))) := fun a w g hs h N Z hN => by
 have hu := slT_some ((ht t ti h1).sl.trans h2)
 obtain ⟨⟨⟨hrd, hcap⟩, _⟩, _⟩ := evX_ok h hx
 obtain ⟨cs, r1, r2⟩ := src_LS hT h5 h.base.pers hrd
 obtain ⟨cs', r3, r4⟩ := hsrc a w g hs h
 rw [← h4] at r1 r3 h5
 obtain ⟨v', w', k1, k2, k3, k4⟩ := run_append_lim (w := w) (ty := o.type) (ti := ti) hu (ht e te h3) h5 r1 hcap he r3 (by simp only [maxLen]; omega) hb
 unfold Oper.wp
 have hrun : (execOp a.eval o).run Try.prog w = .ok (.value v') w' := by
  have : execOp a.eval o = (do pure (.value (← Builtin.append_ #[t, t] o.type #[a.eval x, a.eval y])) : Sem Next) := by
   unfold execOp
   rw [ho]
   simp [resolve, invoke, builtin]
  rw [this]
  exact run_valW k1
 rw [hrun]
 have hsl' := ownsRow_slice k2
 have k3' : ∀ b, b < w.heap.size → w'.heap[b]? = w.heap[b]? := fun b hb => k3.block b hb (by simp)
 refine hN v' w' g v' ⟨k3.os, k3.tape, k3.output, k3.size, fun b hb _ => k3' b hb, Gh.le.refl g, fun b o e => .inl e, fun b o e => (k3' b (h.base.pers.lt e)).trans (h.base.pers b o e)⟩ ⟨?_, ?_⟩ ⟨⟨cs ++ cs', ?_, r2.append r4⟩, fun b hb => ?_⟩
 ·show v' = (if p = p then v' else hs p)
  rw [if_pos rfl]
 ·obtain ⟨ao, m, cap, rfl⟩ := hsl'
  trivial
 ·rw [List.length_append, ← h4]
  exact k2
 ·rw [Blk_slice hsl'] at hb
  have hge := k4 b hb
  have := k2.lt b hb
  refine ⟨this.2, fun _ => ?_, .inl hge⟩
  cases hgb : g b with
  | none => rfl
  | some o => have := h.base.pers.lt hgb; omega
end
end Go.Proofs.Ytiejmeedkhkfgaa

