/- Lemmas towards the statement: mirrors of functions, and plain laws. No condition. -/
import Derived.Laws.CopyRow
import Derived.Laws.IdiomCopy
import Derived.Test.YtapnmjeadbhffaaPackSameOrder3

/- Contracts of package same: graphs, and classes of places. No condition. -/
namespace Go.Proofs.Ytapnmjeadbhffaa
open Go.RowKit Go.MapKept
set_option linter.unusedSimpArgs false
set_option linter.unusedVariables false
set_option maxRecDepth 100000

def isNan_vc (x : Int) (Q : Bool → Prop) : Prop :=
  Q (x != x)
theorem isNan_walk (x : Int) (Q : Bool → Prop) (h : isNan_vc x Q) : Ct 223 [.sv (.one (I x))] [] Q (fun (r : Bool) => .sv (.one (B r))) := by
  have ht := tab_ok
  refine Ct.body Try.func223 rfl rfl rfl rfl (fun c hn => ?_)
  unfold isNan_vc at h
  refine En.seq ?_
  refine En.region ?_
  refine WL.run ht hn 1 ⟨[(0, .sv (.one (I x)))], []⟩ (by kernel_rfl) ?_
  refine WL.nil ?_
  refine En.seq ?_
  refine En.region ?_
  refine WL.run ht hn 4 ⟨[(2, .sv (.one (B (x != x))))], []⟩ (by kernel_rfl) ?_
  refine WL.nil ?_
  refine En.ret ?_
  exact En.back ht (x != x) h (by kernel_rfl) rfl
theorem en223 : ∀ args w, (callFunc 223 args).run Try.prog w = .ok (.enter 223 args) w := enters_of Try.func223 (by kernel_rfl) rfl
theorem isNan_ct (x : Int)  : Ct 223 [.sv (.one (I x))] [] (fun (_ : Unit) => True) (fun _ => .sv (.one (B (false)))) := by
  refine (isNan_walk x (fun res_ => res_ = (false)) ?_).fun
  unfold isNan_vc
  simp
def cmpC_vc (x : Int) (y : Int) (Q : Int → Prop) : Prop :=
  IfP (false) (IfP (false) (Q 0) (Q (-1))) (IfP (false) (Q 1) (IfP (decide (x < y)) (Q (-1)) (IfP (decide (x > y)) (Q 1) (Q 0))))
theorem cmpC_walk (x : Int) (y : Int) (Q : Int → Prop) (h : cmpC_vc x y Q) : Ct 190 [.sv (.one (I x)), .sv (.one (I y))] [] Q (fun (r : Int) => .sv (.one (I r))) := by
  have ht := tab_ok
  refine Ct.body Try.func190 rfl rfl rfl rfl (fun c hn => ?_)
  unfold cmpC_vc at h
  refine En.seq ?_
  refine En.region ?_
  refine WL.run ht hn 1 ⟨[(0, .sv (.one (I x))), (1, .sv (.one (I y)))], []⟩ (by kernel_rfl) ?_
  refine WL.nil ?_
  refine En.seq ?_
  refine En.region ?_
  refine WL.run ht hn 1 ⟨[(0, .sv (.one (I x))), (1, .sv (.one (I y))), (7, .sv (.one (I x)))], []⟩ (by kernel_rfl) ?_
  refine WL.mt0 (K := []) (p := none) hn (by rfl) (mt_call (isNan_ct x) en223 (caps := []) [] rfl (by rfl) (by kernel_rfl) (by kernel_rfl) (by rfl) (by rfl) (by rfl)) (by rfl) (by rfl) (by rfl) ?_
  refine WL.run ht hn 1 ⟨[(0, .sv (.one (I x))), (1, .sv (.one (I y))), (5, .sv (.one (B (false))))], []⟩ (by kernel_rfl) ?_
  refine WL.nil ?_
  refine En.seq ?_
  refine En.region ?_
  refine WL.run ht hn 1 ⟨[(0, .sv (.one (I x))), (1, .sv (.one (I y))), (5, .sv (.one (B (false)))), (9, .sv (.one (I y)))], []⟩ (by kernel_rfl) ?_
  refine WL.mt0 (K := []) (p := none) hn (by rfl) (mt_call (isNan_ct y) en223 (caps := []) [] rfl (by rfl) (by kernel_rfl) (by kernel_rfl) (by rfl) (by rfl) (by rfl)) (by rfl) (by rfl) (by rfl) ?_
  refine WL.run ht hn 1 ⟨[(0, .sv (.one (I x))), (1, .sv (.one (I y))), (5, .sv (.one (B (false)))), (6, .sv (.one (B (false))))], []⟩ (by kernel_rfl) ?_
  refine WL.nil ?_
  refine En.seq ?_
  refine En.seq ?_
  refine En.region ?_
  refine WL.run ht hn 1 ⟨[(0, .sv (.one (I x))), (1, .sv (.one (I y))), (6, .sv (.one (B (false)))), (11, .sv (.one (B (false))))], []⟩ (by kernel_rfl) ?_
  refine WL.nil ?_
  refine En.cond (b := (false)) (by kernel_rfl) (fun hb => ?_) (fun hb => ?_)
  · replace h := h.1 hb
    refine En.seq ?_
    refine En.seq ?_
    refine En.region ?_
    refine WL.run ht hn 1 ⟨[(12, .sv (.one (B (false))))], []⟩ (by kernel_rfl) ?_
    refine WL.nil ?_
    refine En.cond (b := (false)) (by kernel_rfl) (fun hb => ?_) (fun hb => ?_)
    · replace h := h.1 hb
      refine En.seq ?_
      refine En.region ?_
      refine WL.run ht hn 1 ⟨[(4, .sv (.one (I 0)))], []⟩ (by kernel_rfl) ?_
      refine WL.nil ?_
      refine En.ret ?_
      exact En.back ht 0 h (by kernel_rfl) rfl
    · replace h := h.2 hb
      refine En.skip ?_
      refine En.seq ?_
      refine En.region ?_
      refine WL.run ht hn 1 ⟨[(4, .sv (.one (I (-1))))], []⟩ (by kernel_rfl) ?_
      refine WL.nil ?_
      refine En.ret ?_
      exact En.back ht (-1) h (by kernel_rfl) rfl
  · replace h := h.2 hb
    refine En.skip ?_
    refine En.seq ?_
    refine En.seq ?_
    refine En.region ?_
    refine WL.run ht hn 1 ⟨[(0, .sv (.one (I x))), (1, .sv (.one (I y))), (13, .sv (.one (B (false))))], []⟩ (by kernel_rfl) ?_
    refine WL.nil ?_
    refine En.cond (b := (false)) (by kernel_rfl) (fun hb => ?_) (fun hb => ?_)
    · replace h := h.1 hb
      refine En.seq ?_
      refine En.region ?_
      refine WL.run ht hn 1 ⟨[(4, .sv (.one (I 1)))], []⟩ (by kernel_rfl) ?_
      refine WL.nil ?_
      refine En.ret ?_
      exact En.back ht 1 h (by kernel_rfl) rfl
    · replace h := h.2 hb
      refine En.skip ?_
      refine En.seq ?_
      refine En.seq ?_
      refine En.region ?_
      refine WL.run ht hn 3 ⟨[(0, .sv (.one (I x))), (1, .sv (.one (I y))), (16, .sv (.one (B (decide (x < y)))))], []⟩ (by kernel_rfl) ?_
      refine WL.nil ?_
      refine En.cond (b := (decide (x < y))) (by kernel_rfl) (fun hb => ?_) (fun hb => ?_)
      · replace h := h.1 hb
        refine En.seq ?_
        refine En.region ?_
        refine WL.run ht hn 1 ⟨[(4, .sv (.one (I (-1))))], []⟩ (by kernel_rfl) ?_
        refine WL.nil ?_
        refine En.ret ?_
        exact En.back ht (-1) h (by kernel_rfl) rfl
      · replace h := h.2 hb
        refine En.skip ?_
        refine En.seq ?_
        refine En.seq ?_
        refine En.region ?_
        refine WL.run ht hn 3 ⟨[(19, .sv (.one (B (decide (x > y)))))], []⟩ (by kernel_rfl) ?_
        refine WL.nil ?_
        refine En.cond (b := (decide (x > y))) (by kernel_rfl) (fun hb => ?_) (fun hb => ?_)
        · replace h := h.1 hb
          refine En.seq ?_
          refine En.region ?_
          refine WL.run ht hn 1 ⟨[(4, .sv (.one (I 1)))], []⟩ (by kernel_rfl) ?_
          refine WL.nil ?_
          refine En.ret ?_
          exact En.back ht 1 h (by kernel_rfl) rfl
        · replace h := h.2 hb
          refine En.skip ?_
          refine En.seq ?_
          refine En.region ?_
          refine WL.run ht hn 1 ⟨[(4, .sv (.one (I 0)))], []⟩ (by kernel_rfl) ?_
          refine WL.nil ?_
          refine En.ret ?_
          exact En.back ht 0 h (by kernel_rfl) rfl
theorem en190 : ∀ args w, (callFunc 190 args).run Try.prog w = .ok (.enter 190 args) w := enters_of Try.func190 (by kernel_rfl) rfl
def cmpI (x y : Int) : Int := if x < y then -1 else if x > y then 1 else 0
theorem cmpC_ct (x : Int) (y : Int)  : Ct 190 [.sv (.one (I x)), .sv (.one (I y))] [] (fun (_ : Unit) => True) (fun _ => .sv (.one (I (cmpI x y)))) := by
  refine (cmpC_walk x y (fun res_ => res_ = (cmpI x y)) ?_).fun
  unfold cmpC_vc cmpI
  refine ⟨fun h => Bool.noConfusion h, fun _ => ⟨fun h => Bool.noConfusion h, fun _ => ⟨fun h => ?_, fun h => ⟨fun h2 => ?_, fun h2 => ?_⟩⟩⟩⟩
  · have h := of_decide_eq_true h; rw [if_pos h]
  · have h := of_decide_eq_false h; have h2 := of_decide_eq_true h2; rw [if_neg h, if_pos h2]
  · have h := of_decide_eq_false h; have h2 := of_decide_eq_false h2; rw [if_neg h, if_neg h2]
def cmpOr_vc (l : (List Int)) (Q : Int → Prop) : Prop :=
  l.length ≤ 9223372036854775807 →
  (∃ (Inv : Int → Prop) (mu : Int → Nat), Inv 0 ∧
  ∀ (x8 : Int) , Inv x8 → (IfP (decide (x8 < (l.length : Int))) (∃ e, idx l x8 = some e ∧
  IfP (e != 0) (Q e) ((Inv (wr (x8 + 1)) ∧ mu (wr (x8 + 1)) < mu x8))) (Q 0)))
theorem cmpOr_walk (l : (List Int)) (Q : Int → Prop) (h : cmpOr_vc l Q) : Ct 189 [.sv (.one (LS intT l))] [] Q (fun (r : Int) => .sv (.one (I r))) := by
  have ht := tab_ok
  refine Ct.body Try.func189 rfl rfl rfl rfl (fun c hn => ?_)
  unfold cmpOr_vc at h
  refine En.lenL 0 (by rfl) (fun hl => ?_)
  replace h := h hl
  clear hl
  refine En.seq ?_
  refine En.region ?_
  refine WL.run ht hn 1 ⟨[(0, .sv (.one (LS intT l)))], []⟩ (by kernel_rfl) ?_
  refine WL.nil ?_
  refine En.seq ?_
  refine En.region ?_
  refine WL.run ht hn 1 ⟨[(0, .sv (.one (LS intT l))), (3, .sv (.one (I 0)))], []⟩ (by kernel_rfl) ?_
  refine WL.nil ?_
  refine En.seq ?_
  refine En.seq ?_
  refine En.region ?_
  refine WL.run ht hn 3 ⟨[(3, .sv (.one (I 0))), (6, .sv (.one (LS intT l))), (7, .sv (.one (I (l.length : Int)))), (8, .sv (.one (I 0)))], []⟩ (by kernel_rfl) ?_
  refine WL.nil ?_
  refine En.block ?_
  obtain ⟨Inv, mu, h0, hI⟩ := h
  refine En.loop (σ := Int) (fun zz => Inv zz) (fun zz => mu zz) (fun zz => ⟨[(3, .sv (.one (I 0))), (6, .sv (.one (LS intT l))), (7, .sv (.one (I (l.length : Int)))), (8, .sv (.one (I zz)))], []⟩) 0 h0 (sub_ok (by kernel_rfl)) ?_
  intro x8 h
  replace h := hI _ h
  show En c ⟨[(3, .sv (.one (I 0))), (6, .sv (.one (LS intT l))), (7, .sv (.one (I (l.length : Int)))), (8, .sv (.one (I x8)))], []⟩ _
  refine En.seq ?_
  refine En.region ?_
  refine WL.run ht hn 1 ⟨[(3, .sv (.one (I 0))), (6, .sv (.one (LS intT l))), (7, .sv (.one (I (l.length : Int)))), (8, .sv (.one (I x8))), (9, .sv (.one (B (decide (x8 < (l.length : Int))))))], []⟩ (by kernel_rfl) ?_
  refine WL.nil ?_
  refine En.seq ?_
  refine En.cond (b := (decide (x8 < (l.length : Int)))) (by kernel_rfl) (fun hb => ?_) (fun hb => ?_)
  · replace h := h.1 hb
    refine En.skip ?_
    refine En.seq ?_
    refine En.block ?_
    refine En.seq ?_
    refine En.region ?_
    obtain ⟨e, he, h⟩ := h
    refine WL.val hn (by rfl) (val_index (T := intT) (l := l) (i := x8) ht rfl (by rfl) (by rfl) (by rfl) (by rfl) (by rfl) (by rfl) he) (by rfl) ?_
    refine WL.val hn (by rfl) (val_load (s := .one (I e)) ht rfl (by rfl) (by rfl) (by rfl) (by rfl) (by rfl)) (by rfl) ?_
    refine WL.run ht hn 1 ⟨[(3, .sv (.one (I 0))), (5, .sv (.one (I e))), (6, .sv (.one (LS intT l))), (7, .sv (.one (I (l.length : Int)))), (8, .sv (.one (I x8)))], []⟩ (by kernel_rfl) ?_
    refine WL.nil ?_
    refine En.seq ?_
    refine En.region ?_
    refine WL.run ht hn 3 ⟨[(3, .sv (.one (I 0))), (5, .sv (.one (I e))), (6, .sv (.one (LS intT l))), (7, .sv (.one (I (l.length : Int)))), (8, .sv (.one (I x8))), (14, .sv (.one (B (e != 0))))], []⟩ (by kernel_rfl) ?_
    refine WL.nil ?_
    refine En.cond (b := (e != 0)) (by kernel_rfl) (fun hb => ?_) (fun hb => ?_)
    · replace h := h.1 hb
      refine En.seq ?_
      refine En.region ?_
      refine WL.run ht hn 2 ⟨[(2, .sv (.one (I e)))], []⟩ (by kernel_rfl) ?_
      refine WL.nil ?_
      refine En.ret ?_
      exact En.back ht e h (by kernel_rfl) rfl
    · replace h := h.2 hb
      refine En.skip ?_
      refine En.region ?_
      refine WL.run ht hn 2 ⟨[(3, .sv (.one (I 0))), (6, .sv (.one (LS intT l))), (7, .sv (.one (I (l.length : Int)))), (8, .sv (.one (I (wr (x8 + 1)))))], []⟩ (by kernel_rfl) ?_
      refine WL.nil ?_
      exact En.at (I := fun zz => Inv zz ∧ mu zz < mu x8) (T := fun zz => ⟨[(3, .sv (.one (I 0))), (6, .sv (.one (LS intT l))), (7, .sv (.one (I (l.length : Int)))), (8, .sv (.one (I zz)))], []⟩) (wr (x8 + 1)) h (by kernel_rfl)
  · replace h := h.2 hb
    refine En.exit rfl ?_
    refine En.seq ?_
    refine En.region ?_
    refine WL.run ht hn 2 ⟨[(2, .sv (.one (I 0)))], []⟩ (by kernel_rfl) ?_
    refine WL.nil ?_
    refine En.ret ?_
    exact En.back ht 0 h (by kernel_rfl) rfl
theorem en189 : ∀ args w, (callFunc 189 args).run Try.prog w = .ok (.enter 189 args) w := enters_of Try.func189 (by kernel_rfl) rfl
def firstNZ : List Int → Int
  | [] => 0
  | x :: l => if x != 0 then x else firstNZ l
theorem firstNZ_drop {l : List Int} {k : Nat} (h : k < l.length) : firstNZ (l.drop k) = if l[k] != 0 then l[k] else firstNZ (l.drop (k + 1)) := by
  rw [List.drop_eq_getElem_cons h, firstNZ]
theorem cmpOr_ct (l : (List Int))  : Ct 189 [.sv (.one (LS intT l))] [] (fun (_ : Unit) => True) (fun _ => .sv (.one (I (firstNZ l)))) := by
  refine (cmpOr_walk l (fun res_ => res_ = (firstNZ l)) ?_).fun
  unfold cmpOr_vc
  intro _
  refine ⟨fun i => ∃ k : Nat, i = k ∧ k ≤ l.length ∧ firstNZ (l.drop k) = firstNZ l, fun i => l.length - i.toNat, ⟨0, rfl, Nat.zero_le _, rfl⟩, ?_⟩
  rintro i ⟨k, rfl, hk, he⟩
  refine ⟨fun hb => ?_, fun hb => ?_⟩
  · have hlt := dlt hb
    rw [firstNZ_drop hlt] at he
    refine ⟨_, idx_at hlt, fun h => ?_, fun h => ⟨⟨k + 1, wsucc (by omega), hlt, ?_⟩, mu_up hlt (by omega)⟩⟩
    · rw [if_pos h] at he
      exact he
    · rw [if_neg (by rw [h]; decide)] at he
      exact he
  · rw [List.drop_eq_nil_of_le (dge hb)] at he
    exact he
def samOrd_vc (x : ApiArrow) (y : ApiArrow) (Q : Int → Prop) : Prop :=
  Q (firstNZ ([(cmpI x.fFrom y.fFrom), (cmpI x.fLetter y.fLetter), (cmpI x.fTo y.fTo)] : (List Int)))
theorem samOrd_walk (x : ApiArrow) (y : ApiArrow) (Q : Int → Prop) (h : samOrd_vc x y Q) : Ct 121 [.sv (.agg [I x.fFrom, I x.fLetter, I x.fTo]), .sv (.agg [I y.fFrom, I y.fLetter, I y.fTo])] [] Q (fun (r : Int) => .sv (.one (I r))) := by
  have ht := tab_ok
  refine Ct.body Try.func121 rfl rfl rfl rfl (fun c hn => ?_)
  unfold samOrd_vc at h
  refine En.seq ?_
  refine En.region ?_
  refine WL.run ht hn 3 ⟨[(2, .sv (.one (.ptr 0 0))), (3, .sv (.one (.ptr 1 0)))], [.box [I x.fFrom, I x.fLetter, I x.fTo] 52 false, .box [I y.fFrom, I y.fLetter, I y.fTo] 52 false]⟩ (by kernel_rfl) ?_
  refine WL.nil ?_
  refine En.seq ?_
  refine En.regionA ⟨[(2, .sv (.one (.ptr 0 0))), (3, .sv (.one (.ptr 1 0)))], [.sv (.one (.ptr 0 0)), .sv (.one (I x.fFrom)), .sv (.one (.ptr 1 0)), .sv (.one (I y.fFrom)), .sv (.one (I (cmpI x.fFrom y.fFrom))), .sv (.one (.ptr 0 1)), .sv (.one (I x.fLetter)), .sv (.one (.ptr 1 1)), .sv (.one (I y.fLetter)), .sv (.one (I (cmpI x.fLetter y.fLetter))), .sv (.one (.ptr 0 2)), .sv (.one (I x.fTo)), .sv (.one (.ptr 1 2)), .sv (.one (I y.fTo)), .sv (.one (I (cmpI x.fTo y.fTo))), .sv (.one (.own 2)), .sv (.one (I (firstNZ ([(cmpI x.fFrom y.fFrom), (cmpI x.fLetter y.fLetter), (cmpI x.fTo y.fTo)] : (List Int))))), .sv (.one (I (firstNZ ([(cmpI x.fFrom y.fFrom), (cmpI x.fLetter y.fLetter), (cmpI x.fTo y.fTo)] : (List Int)))))], [⟨.box [I x.fFrom, I x.fLetter, I x.fTo] 52 false, none, none, none⟩, ⟨.box [I y.fFrom, I y.fLetter, I y.fTo] 52 false, none, none, none⟩, ⟨rowI 3 intT ([(cmpI x.fFrom y.fFrom), (cmpI x.fLetter y.fLetter), (cmpI x.fTo y.fTo)] : (List Int)), some 15, none, none⟩]⟩ ⟨[(4, .sv (.one (I (firstNZ ([(cmpI x.fFrom y.fFrom), (cmpI x.fLetter y.fLetter), (cmpI x.fTo y.fTo)] : (List Int))))))], [.gone, .gone, .gone]⟩ (by kernel_rfl) hn (by kernel_rfl) (by rfl) (by kernel_rfl) ?_ (by kernel_rfl) ?_
  · exact ⟨.mt ⟨[(2, .sv (.one (.ptr 0 0)))], []⟩ [] none (by kernel_rfl) (by rfl) (mt_ev ht (by kernel_rfl)) rfl rfl rfl rfl,
    .mt ⟨[(5, .sv (.one (.ptr 0 0)))], [.box [I x.fFrom, I x.fLetter, I x.fTo] 52 false]⟩ [] none (by kernel_rfl) (by rfl) (mt_ev ht (by kernel_rfl)) rfl rfl rfl rfl,
    .mt ⟨[(3, .sv (.one (.ptr 1 0)))], []⟩ [] none (by kernel_rfl) (by rfl) (mt_ev ht (by kernel_rfl)) rfl rfl rfl rfl,
    .mt ⟨[(7, .sv (.one (.ptr 1 0)))], [.gone, .box [I y.fFrom, I y.fLetter, I y.fTo] 52 false]⟩ [] none (by kernel_rfl) (by rfl) (mt_ev ht (by kernel_rfl)) rfl rfl rfl rfl,
    .mt ⟨[(6, .sv (.one (I x.fFrom))), (8, .sv (.one (I y.fFrom)))], []⟩ [] none (by kernel_rfl) (by rfl) (mt_call (cmpC_ct x.fFrom y.fFrom) en190 (caps := []) [] rfl (by rfl) (by kernel_rfl) (by kernel_rfl) (by rfl) (by rfl) (by rfl)) rfl rfl rfl rfl,
    .mt ⟨[(2, .sv (.one (.ptr 0 0)))], []⟩ [] none (by kernel_rfl) (by rfl) (mt_ev ht (by kernel_rfl)) rfl rfl rfl rfl,
    .mt ⟨[(10, .sv (.one (.ptr 0 1)))], [.box [I x.fFrom, I x.fLetter, I x.fTo] 52 false]⟩ [] none (by kernel_rfl) (by rfl) (mt_ev ht (by kernel_rfl)) rfl rfl rfl rfl,
    .mt ⟨[(3, .sv (.one (.ptr 1 0)))], []⟩ [] none (by kernel_rfl) (by rfl) (mt_ev ht (by kernel_rfl)) rfl rfl rfl rfl,
    .mt ⟨[(12, .sv (.one (.ptr 1 1)))], [.gone, .box [I y.fFrom, I y.fLetter, I y.fTo] 52 false]⟩ [] none (by kernel_rfl) (by rfl) (mt_ev ht (by kernel_rfl)) rfl rfl rfl rfl,
    .mt ⟨[(11, .sv (.one (I x.fLetter))), (13, .sv (.one (I y.fLetter)))], []⟩ [] none (by kernel_rfl) (by rfl) (mt_call (cmpC_ct x.fLetter y.fLetter) en190 (caps := []) [] rfl (by rfl) (by kernel_rfl) (by kernel_rfl) (by rfl) (by rfl) (by rfl)) rfl rfl rfl rfl,
    .mt ⟨[(2, .sv (.one (.ptr 0 0)))], []⟩ [] none (by kernel_rfl) (by rfl) (mt_ev ht (by kernel_rfl)) rfl rfl rfl rfl,
    .mt ⟨[(15, .sv (.one (.ptr 0 2)))], [.box [I x.fFrom, I x.fLetter, I x.fTo] 52 false]⟩ [] none (by kernel_rfl) (by rfl) (mt_ev ht (by kernel_rfl)) rfl rfl rfl rfl,
    .mt ⟨[(3, .sv (.one (.ptr 1 0)))], []⟩ [] none (by kernel_rfl) (by rfl) (mt_ev ht (by kernel_rfl)) rfl rfl rfl rfl,
    .mt ⟨[(17, .sv (.one (.ptr 1 2)))], [.gone, .box [I y.fFrom, I y.fLetter, I y.fTo] 52 false]⟩ [] none (by kernel_rfl) (by rfl) (mt_ev ht (by kernel_rfl)) rfl rfl rfl rfl,
    .mt ⟨[(16, .sv (.one (I x.fTo))), (18, .sv (.one (I y.fTo)))], []⟩ [] none (by kernel_rfl) (by rfl) (mt_call (cmpC_ct x.fTo y.fTo) en190 (caps := []) [] rfl (by rfl) (by kernel_rfl) (by kernel_rfl) (by rfl) (by rfl) (by rfl)) rfl rfl rfl rfl,
    .mt ⟨[(9, .sv (.one (I (cmpI x.fFrom y.fFrom)))), (14, .sv (.one (I (cmpI x.fLetter y.fLetter)))), (19, .sv (.one (I (cmpI x.fTo y.fTo))))], []⟩ [] (some 2) (by kernel_rfl) (by rfl) (mt_lit (T := intT) ([(cmpI x.fFrom y.fFrom), (cmpI x.fLetter y.fLetter), (cmpI x.fTo y.fTo)] : (List Int)) (mt_bsl 2 (r := cellsOf intT ([(cmpI x.fFrom y.fFrom), (cmpI x.fLetter y.fLetter), (cmpI x.fTo y.fTo)] : (List Int))) ht rfl (by rfl) (by rfl) (by rfl) (by kernel_rfl) (by rfl)) (fun _ h => by cases h) (fun _ => rfl) (fun _ => rfl) (by rfl) (Nat.le_of_ble_eq_true rfl)) rfl rfl rfl rfl,
    .mt ⟨[(20, .sv (.one (.own 2)))], [.gone, .gone, rowI 3 intT ([(cmpI x.fFrom y.fFrom), (cmpI x.fLetter y.fLetter), (cmpI x.fTo y.fTo)] : (List Int))]⟩ [] none (by kernel_rfl) (by rfl) (mt_lend (T := intT) (l := ([(cmpI x.fFrom y.fFrom), (cmpI x.fLetter y.fLetter), (cmpI x.fTo y.fTo)] : (List Int))) 2 (by rfl) (by rfl) (mt_call (cmpOr_ct ([(cmpI x.fFrom y.fFrom), (cmpI x.fLetter y.fLetter), (cmpI x.fTo y.fTo)] : (List Int))) en189 (caps := []) [] rfl (by rfl) (by kernel_rfl) (by kernel_rfl) (by rfl) (by rfl) (by rfl))) rfl rfl rfl rfl,
    .mt ⟨[(21, .sv (.one (I (firstNZ ([(cmpI x.fFrom y.fFrom), (cmpI x.fLetter y.fLetter), (cmpI x.fTo y.fTo)] : (List Int))))))], []⟩ [] none (by kernel_rfl) (by rfl) (mt_ev ht (by kernel_rfl)) rfl rfl rfl rfl,
    trivial⟩
  · refine En.ret ?_
    exact En.back ht (firstNZ ([(cmpI x.fFrom y.fFrom), (cmpI x.fLetter y.fLetter), (cmpI x.fTo y.fTo)] : (List Int))) h (by kernel_rfl) rfl
theorem en121 : ∀ args w, (callFunc 121 args).run Try.prog w = .ok (.enter 121 args) w := enters_of Try.func121 (by kernel_rfl) rfl
def ordA (x y : ApiArrow) : Int := firstNZ [cmpI x.fFrom y.fFrom, cmpI x.fLetter y.fLetter, cmpI x.fTo y.fTo]
theorem samOrd_ct (x : ApiArrow) (y : ApiArrow)  : Ct 121 [.sv (.agg [I x.fFrom, I x.fLetter, I x.fTo]), .sv (.agg [I y.fFrom, I y.fLetter, I y.fTo])] [] (fun (_ : Unit) => True) (fun _ => .sv (.one (I (ordA x y)))) := by
  refine (samOrd_walk x y (fun res_ => res_ = (ordA x y)) ?_).fun
  unfold samOrd_vc
  rfl
def samC1_vc (p : Int) (g : ApiGraph) (Q : Bool → Prop) : Prop :=
  Q ((decide (p < 0)) || (decide (p ≥ g.fPlaces)))
theorem samC1_walk (p : Int) (g : ApiGraph) (Q : Bool → Prop) (h : samC1_vc p g Q) : Ct 118 [.sv (.one (I p)), .sv (.one (.ptr 0 0))] [.box [I g.fLetters, I g.fPlaces, LS ApiArrow.ty g.fArrows] 48 true] Q (fun (r : Bool) => .sv (.one (B r))) := by
  have ht := tab_ok
  refine Ct.body Try.func118 rfl rfl rfl rfl (fun c hn => ?_)
  unfold samC1_vc at h
  refine En.seq ?_
  refine En.region ?_
  refine WL.run ht hn 1 ⟨[(0, .sv (.one (I p))), (1, .sv (.one (.ptr 0 0)))], [.box [I g.fLetters, I g.fPlaces, LS ApiArrow.ty g.fArrows] 48 true]⟩ (by kernel_rfl) ?_
  refine WL.nil ?_
  refine En.seq ?_
  refine En.region ?_
  refine WL.run ht hn 3 ⟨[(0, .sv (.one (I p))), (1, .sv (.one (.ptr 0 0))), (6, .sv (.one (B (decide (p < 0)))))], [.box [I g.fLetters, I g.fPlaces, LS ApiArrow.ty g.fArrows] 48 true]⟩ (by kernel_rfl) ?_
  refine WL.thru ⟨[(3, .sv (.one (B ((decide (p < 0)) || (decide (p ≥ g.fPlaces))))))], [.gone]⟩ ?_ ?_
  · refine splitB (decide (p < 0)) (fun hb0 => ?_) (fun hb0 => ?_)
    · refine WL.setB 6 hb0 (by kernel_rfl) ?_
      refine WL.run ht hn 6 ⟨[(3, .sv (.one (B true)))], [.gone]⟩ (by kernel_rfl) ?_
      exact WL.nil (sub_ok (by simp only [hb0]; kernel_rfl))
    · refine WL.setB 6 hb0 (by kernel_rfl) ?_
      refine WL.run ht hn 6 ⟨[(3, .sv (.one (B (decide (p ≥ g.fPlaces)))))], [.gone]⟩ (by kernel_rfl) ?_
      exact WL.nil (sub_ok (by simp only [hb0]; kernel_rfl))
  · refine En.ret ?_
    exact En.back ht ((decide (p < 0)) || (decide (p ≥ g.fPlaces))) h (by kernel_rfl) rfl
theorem en118 : ∀ args w, (callFunc 118 args).run Try.prog w = .ok (.enter 118 args) w := enters_of Try.func118 (by kernel_rfl) rfl
theorem samC1_ct (p : Int) (g : ApiGraph)  : Ct 118 [.sv (.one (I p)), .sv (.one (.ptr 0 0))] [.box [I g.fLetters, I g.fPlaces, LS ApiArrow.ty g.fArrows] 48 true] (fun (_ : Unit) => True) (fun _ => .sv (.one (B ((decide (p < 0)) || (decide (p ≥ g.fPlaces)))))) := by
  refine (samC1_walk p g (fun res_ => res_ = ((decide (p < 0)) || (decide (p ≥ g.fPlaces)))) ?_).fun
  unfold samC1_vc
  rfl
def offG (g : ApiGraph) (p : Int) : Bool := (decide (p < 0)) || (decide (p ≥ g.fPlaces))
def samC2_vc (x : ApiArrow) (domno : (Int → Prop)) (no : (Int → Bool)) (g : ApiGraph) (Q : Bool → Prop) : Prop :=
  ∃ J : Bool → Prop, ((domno x.fFrom) ∧
  IfP (no x.fFrom) (J true) ((domno x.fTo) ∧
  J (((no x.fTo) || (decide (x.fLetter < 0))) || (decide (x.fLetter ≥ g.fLetters))))) ∧
  (∀ (x4 : Bool), J x4 → Q x4)
theorem samC2_walk (x : ApiArrow) (domno : (Int → Prop)) (no : (Int → Bool)) (g : ApiGraph) (Q : Bool → Prop) (h : samC2_vc x domno no g Q) : Ct 120 [.sv (.agg [I x.fFrom, I x.fLetter, I x.fTo]), .sv (.one (.ptr 0 0)), .sv (.one (.ptr 1 0))] [.box [.rd (fvR (fun (x : Int) => [.sv (.one (I x))]) (fun (r : Bool) => .sv (.one (B r))) domno no)] 195 true, .box [I g.fLetters, I g.fPlaces, LS ApiArrow.ty g.fArrows] 48 true] Q (fun (r : Bool) => .sv (.one (B r))) := by
  have ht := tab_ok
  refine Ct.body Try.func120 rfl rfl rfl rfl (fun c hn => ?_)
  unfold samC2_vc at h
  refine En.seq ?_
  refine En.region ?_
  refine WL.run ht hn 2 ⟨[(1, .sv (.one (.ptr 0 0))), (2, .sv (.one (.ptr 1 0))), (3, .sv (.one (.ptr 2 0)))], [.box [.rd (fvR (fun (x : Int) => [.sv (.one (I x))]) (fun (r : Bool) => .sv (.one (B r))) domno no)] 195 true, .box [I g.fLetters, I g.fPlaces, LS ApiArrow.ty g.fArrows] 48 true, .box [I x.fFrom, I x.fLetter, I x.fTo] 52 false]⟩ (by kernel_rfl) ?_
  refine WL.nil ?_
  obtain ⟨J, h, hJ⟩ := h
  refine En.seqJ (σ := Bool) (fun zz => J zz) (fun zz => ⟨[(4, .sv (.one (B zz)))], [.gone, .gone, .gone]⟩) ?_ ?_
  · refine En.region ?_
    refine WL.run ht hn 3 ⟨[(1, .sv (.one (.ptr 0 0))), (2, .sv (.one (.ptr 1 0))), (3, .sv (.one (.ptr 2 0))), (5, .sv (.one (.rd (fvR (fun (x : Int) => [.sv (.one (I x))]) (fun (r : Bool) => .sv (.one (B r))) domno no)))), (7, .sv (.one (I x.fFrom)))], [.box [.rd (fvR (fun (x : Int) => [.sv (.one (I x))]) (fun (r : Bool) => .sv (.one (B r))) domno no)] 195 true, .box [I g.fLetters, I g.fPlaces, LS ApiArrow.ty g.fArrows] 48 true, .box [I x.fFrom, I x.fLetter, I x.fTo] 52 false]⟩ (by kernel_rfl) ?_
    have hp := h.1
    replace h := h.2
    refine WL.mt0 (K := []) (p := none) hn (by rfl) (mt_callv x.fFrom hp rfl (by rfl) (by rfl) (by rfl) (by rfl)) (by rfl) (by rfl) (by rfl) ?_
    refine WL.run ht hn 1 ⟨[(1, .sv (.one (.ptr 0 0))), (2, .sv (.one (.ptr 1 0))), (3, .sv (.one (.ptr 2 0))), (9, .sv (.one (B (no x.fFrom))))], [.box [.rd (fvR (fun (x : Int) => [.sv (.one (I x))]) (fun (r : Bool) => .sv (.one (B r))) domno no)] 195 true, .box [I g.fLetters, I g.fPlaces, LS ApiArrow.ty g.fArrows] 48 true, .box [I x.fFrom, I x.fLetter, I x.fTo] 52 false]⟩ (by kernel_rfl) ?_
    refine splitB (no x.fFrom) (fun hb => ?_) (fun hb => ?_)
    · replace h := h.1 hb
      refine WL.setB 9 hb (by kernel_rfl) ?_
      refine WL.run ht hn 18 ⟨[(4, .sv (.one (B true)))], [.gone, .gone, .gone]⟩ (by kernel_rfl) ?_
      refine WL.nil ?_
      exact En.at (I := fun zz => J zz) (T := fun zz => ⟨[(4, .sv (.one (B zz)))], [.gone, .gone, .gone]⟩) true h (by kernel_rfl)
    · replace h := h.2 hb
      refine WL.setB 9 hb (by kernel_rfl) ?_
      refine WL.run ht hn 3 ⟨[(2, .sv (.one (.ptr 1 0))), (3, .sv (.one (.ptr 2 0))), (9, .sv (.one (B false))), (10, .sv (.one (.rd (fvR (fun (x : Int) => [.sv (.one (I x))]) (fun (r : Bool) => .sv (.one (B r))) domno no)))), (12, .sv (.one (I x.fTo)))], [.gone, .box [I g.fLetters, I g.fPlaces, LS ApiArrow.ty g.fArrows] 48 true, .box [I x.fFrom, I x.fLetter, I x.fTo] 52 false]⟩ (by kernel_rfl) ?_
      have hp := h.1
      replace h := h.2
      refine WL.mt0 (K := []) (p := none) hn (by rfl) (mt_callv x.fTo hp rfl (by rfl) (by rfl) (by rfl) (by rfl)) (by rfl) (by rfl) (by rfl) ?_
      refine WL.run ht hn 2 ⟨[(2, .sv (.one (.ptr 1 0))), (3, .sv (.one (.ptr 2 0))), (15, .sv (.one (B (no x.fTo))))], [.gone, .box [I g.fLetters, I g.fPlaces, LS ApiArrow.ty g.fArrows] 48 true, .box [I x.fFrom, I x.fLetter, I x.fTo] 52 false]⟩ (by kernel_rfl) ?_
      refine WL.thru ⟨[(4, .sv (.one (B (((no x.fTo) || (decide (x.fLetter < 0))) || (decide (x.fLetter ≥ g.fLetters))))))], [.gone, .gone, .gone]⟩ ?_ ?_
      · refine splitB (no x.fTo) (fun hb0 => ?_) (fun hb0 => ?_)
        · refine WL.setB 15 hb0 (by kernel_rfl) ?_
          refine WL.run ht hn 12 ⟨[(4, .sv (.one (B true)))], [.gone, .gone, .gone]⟩ (by kernel_rfl) ?_
          exact WL.nil (sub_ok (by simp only [hb0]; kernel_rfl))
        · refine WL.setB 15 hb0 (by kernel_rfl) ?_
          refine WL.run ht hn 5 ⟨[(2, .sv (.one (.ptr 1 0))), (3, .sv (.one (.ptr 2 0))), (20, .sv (.one (B (decide (x.fLetter < 0)))))], [.gone, .box [I g.fLetters, I g.fPlaces, LS ApiArrow.ty g.fArrows] 48 true, .box [I x.fFrom, I x.fLetter, I x.fTo] 52 false]⟩ (by kernel_rfl) ?_
          refine splitB (decide (x.fLetter < 0)) (fun hb1 => ?_) (fun hb1 => ?_)
          · refine WL.setB 20 hb1 (by kernel_rfl) ?_
            refine WL.run ht hn 7 ⟨[(4, .sv (.one (B true)))], [.gone, .gone, .gone]⟩ (by kernel_rfl) ?_
            exact WL.nil (sub_ok (by simp only [hb0, hb1]; kernel_rfl))
          · refine WL.setB 20 hb1 (by kernel_rfl) ?_
            refine WL.run ht hn 7 ⟨[(4, .sv (.one (B (decide (x.fLetter ≥ g.fLetters)))))], [.gone, .gone, .gone]⟩ (by kernel_rfl) ?_
            exact WL.nil (sub_ok (by simp only [hb0, hb1]; kernel_rfl))
      · exact En.at (I := fun zz => J zz) (T := fun zz => ⟨[(4, .sv (.one (B zz)))], [.gone, .gone, .gone]⟩) (((no x.fTo) || (decide (x.fLetter < 0))) || (decide (x.fLetter ≥ g.fLetters))) h (by kernel_rfl)
  · intro x4 h
    replace h := hJ _ h
    show En c ⟨[(4, .sv (.one (B x4)))], [.gone, .gone, .gone]⟩ _
    refine En.ret ?_
    exact En.back ht x4 h (by kernel_rfl) rfl
theorem en120 : ∀ args w, (callFunc 120 args).run Try.prog w = .ok (.enter 120 args) w := enters_of Try.func120 (by kernel_rfl) rfl
def offA (no : Int → Bool) (g : ApiGraph) (x : ApiArrow) : Bool := no x.fFrom || ((no x.fTo || (decide (x.fLetter < 0))) || (decide (x.fLetter ≥ g.fLetters)))
theorem samC2_ct (x : ApiArrow) (domno : (Int → Prop)) (no : (Int → Bool)) (g : ApiGraph) (hp : domno x.fFrom ∧ domno x.fTo)  : Ct 120 [.sv (.agg [I x.fFrom, I x.fLetter, I x.fTo]), .sv (.one (.ptr 0 0)), .sv (.one (.ptr 1 0))] [.box [.rd (fvR (fun (x : Int) => [.sv (.one (I x))]) (fun (r : Bool) => .sv (.one (B r))) domno no)] 195 true, .box [I g.fLetters, I g.fPlaces, LS ApiArrow.ty g.fArrows] 48 true] (fun (_ : Unit) => True) (fun _ => .sv (.one (B (offA no g x)))) := by
  refine (samC2_walk x domno no g (fun res_ => res_ = (offA no g x)) ?_).fun
  unfold samC2_vc
  refine ⟨fun b => b = offA no g x, ⟨hp.1, fun h => ?_, fun h => ⟨hp.2, ?_⟩⟩, fun _ h => h⟩
  · show true = _
    unfold offA
    rw [h]
    rfl
  · show _ = _
    unfold offA
    rw [h]
    rfl
def indexApiArrow_vc (l : (List ApiArrow)) (dom : (ApiArrow → Prop)) (φ : (ApiArrow → Bool)) (Q : Int → Prop) : Prop :=
  l.length ≤ 9223372036854775807 →
  (∃ (Inv : Int → Prop) (mu : Int → Nat), Inv 0 ∧
  ∀ (x8 : Int) , Inv x8 → (IfP (decide (x8 < (l.length : Int))) (∃ e, idx l x8 = some e ∧
  (dom e) ∧
  IfP (φ e) (Q x8) ((Inv (wr (x8 + 1)) ∧ mu (wr (x8 + 1)) < mu x8))) (Q (-1))))
theorem indexApiArrow_walk (l : (List ApiArrow)) (dom : (ApiArrow → Prop)) (φ : (ApiArrow → Bool)) (Q : Int → Prop) (h : indexApiArrow_vc l dom φ Q) : Ct 188 [.sv (.one (LS ApiArrow.ty l)), .sv (.one (.rd (fvR (fun x => [.sv (.agg [I x.fFrom, I x.fLetter, I x.fTo])]) (fun b => .sv (.one (B b))) dom φ)))] [] Q (fun (r : Int) => .sv (.one (I r))) := by
  have ht := tab_ok
  refine Ct.body Try.func188 rfl rfl rfl rfl (fun c hn => ?_)
  unfold indexApiArrow_vc at h
  refine En.lenL 0 (by rfl) (fun hl => ?_)
  replace h := h hl
  clear hl
  refine En.seq ?_
  refine En.region ?_
  refine WL.run ht hn 1 ⟨[(0, .sv (.one (LS ApiArrow.ty l))), (1, .sv (.one (.rd (fvR (fun x => [.sv (.agg [I x.fFrom, I x.fLetter, I x.fTo])]) (fun b => .sv (.one (B b))) dom φ))))], []⟩ (by kernel_rfl) ?_
  refine WL.nil ?_
  refine En.seq ?_
  refine En.seq ?_
  refine En.region ?_
  refine WL.run ht hn 3 ⟨[(0, .sv (.one (LS ApiArrow.ty l))), (1, .sv (.one (.rd (fvR (fun x => [.sv (.agg [I x.fFrom, I x.fLetter, I x.fTo])]) (fun b => .sv (.one (B b))) dom φ)))), (7, .sv (.one (I (l.length : Int)))), (8, .sv (.one (I 0)))], []⟩ (by kernel_rfl) ?_
  refine WL.nil ?_
  refine En.block ?_
  obtain ⟨Inv, mu, h0, hI⟩ := h
  refine En.loop (σ := Int) (fun zz => Inv zz) (fun zz => mu zz) (fun zz => ⟨[(0, .sv (.one (LS ApiArrow.ty l))), (1, .sv (.one (.rd (fvR (fun x => [.sv (.agg [I x.fFrom, I x.fLetter, I x.fTo])]) (fun b => .sv (.one (B b))) dom φ)))), (7, .sv (.one (I (l.length : Int)))), (8, .sv (.one (I zz)))], []⟩) 0 h0 (sub_ok (by kernel_rfl)) ?_
  intro x8 h
  replace h := hI _ h
  show En c ⟨[(0, .sv (.one (LS ApiArrow.ty l))), (1, .sv (.one (.rd (fvR (fun x => [.sv (.agg [I x.fFrom, I x.fLetter, I x.fTo])]) (fun b => .sv (.one (B b))) dom φ)))), (7, .sv (.one (I (l.length : Int)))), (8, .sv (.one (I x8)))], []⟩ _
  refine En.seq ?_
  refine En.region ?_
  refine WL.run ht hn 1 ⟨[(0, .sv (.one (LS ApiArrow.ty l))), (1, .sv (.one (.rd (fvR (fun x => [.sv (.agg [I x.fFrom, I x.fLetter, I x.fTo])]) (fun b => .sv (.one (B b))) dom φ)))), (7, .sv (.one (I (l.length : Int)))), (8, .sv (.one (I x8))), (9, .sv (.one (B (decide (x8 < (l.length : Int))))))], []⟩ (by kernel_rfl) ?_
  refine WL.nil ?_
  refine En.seq ?_
  refine En.cond (b := (decide (x8 < (l.length : Int)))) (by kernel_rfl) (fun hb => ?_) (fun hb => ?_)
  · replace h := h.1 hb
    refine En.skip ?_
    refine En.seq ?_
    refine En.block ?_
    refine En.seq ?_
    refine En.region ?_
    refine WL.run ht hn 2 ⟨[(0, .sv (.one (LS ApiArrow.ty l))), (1, .sv (.one (.rd (fvR (fun x => [.sv (.agg [I x.fFrom, I x.fLetter, I x.fTo])]) (fun b => .sv (.one (B b))) dom φ)))), (5, .sv (.one (I x8))), (7, .sv (.one (I (l.length : Int)))), (8, .sv (.one (I x8)))], []⟩ (by kernel_rfl) ?_
    refine WL.nil ?_
    refine En.seq ?_
    refine En.region ?_
    refine WL.run ht hn 3 ⟨[(0, .sv (.one (LS ApiArrow.ty l))), (1, .sv (.one (.rd (fvR (fun x => [.sv (.agg [I x.fFrom, I x.fLetter, I x.fTo])]) (fun b => .sv (.one (B b))) dom φ)))), (5, .sv (.one (I x8))), (7, .sv (.one (I (l.length : Int)))), (8, .sv (.one (I x8))), (11, .sv (.one (.rd (fvR (fun x => [.sv (.agg [I x.fFrom, I x.fLetter, I x.fTo])]) (fun b => .sv (.one (B b))) dom φ)))), (12, .sv (.one (LS ApiArrow.ty l))), (13, .sv (.one (I x8)))], []⟩ (by kernel_rfl) ?_
    obtain ⟨e, he, h⟩ := h
    refine WL.val hn (by rfl) (val_index (T := ApiArrow.ty) (l := l) (i := x8) ht rfl (by rfl) (by rfl) (by rfl) (by rfl) (by rfl) (by rfl) he) (by rfl) ?_
    refine WL.val hn (by rfl) (val_load (s := .agg [I e.fFrom, I e.fLetter, I e.fTo]) ht rfl (by rfl) (by rfl) (by rfl) (by rfl) (by rfl)) (by rfl) ?_
    have hp := h.1
    replace h := h.2
    refine WL.mt0 (K := []) (p := none) hn (by rfl) (mt_callv e hp rfl (by rfl) (by rfl) (by rfl) (by rfl)) (by rfl) (by rfl) (by rfl) ?_
    refine WL.nil ?_
    refine En.cond (b := (φ e)) (by kernel_rfl) (fun hb => ?_) (fun hb => ?_)
    · replace h := h.1 hb
      refine En.seq ?_
      refine En.region ?_
      refine WL.run ht hn 2 ⟨[(4, .sv (.one (I x8)))], []⟩ (by kernel_rfl) ?_
      refine WL.nil ?_
      refine En.ret ?_
      exact En.back ht x8 h (by kernel_rfl) rfl
    · replace h := h.2 hb
      refine En.skip ?_
      refine En.region ?_
      refine WL.run ht hn 2 ⟨[(0, .sv (.one (LS ApiArrow.ty l))), (1, .sv (.one (.rd (fvR (fun x => [.sv (.agg [I x.fFrom, I x.fLetter, I x.fTo])]) (fun b => .sv (.one (B b))) dom φ)))), (7, .sv (.one (I (l.length : Int)))), (8, .sv (.one (I (wr (x8 + 1)))))], []⟩ (by kernel_rfl) ?_
      refine WL.nil ?_
      exact En.at (I := fun zz => Inv zz ∧ mu zz < mu x8) (T := fun zz => ⟨[(0, .sv (.one (LS ApiArrow.ty l))), (1, .sv (.one (.rd (fvR (fun x => [.sv (.agg [I x.fFrom, I x.fLetter, I x.fTo])]) (fun b => .sv (.one (B b))) dom φ)))), (7, .sv (.one (I (l.length : Int)))), (8, .sv (.one (I zz)))], []⟩) (wr (x8 + 1)) h (by kernel_rfl)
  · replace h := h.2 hb
    refine En.exit rfl ?_
    refine En.seq ?_
    refine En.region ?_
    refine WL.run ht hn 1 ⟨[(4, .sv (.one (I (-1))))], []⟩ (by kernel_rfl) ?_
    refine WL.nil ?_
    refine En.ret ?_
    exact En.back ht (-1) h (by kernel_rfl) rfl
theorem en188 : ∀ args w, (callFunc 188 args).run Try.prog w = .ok (.enter 188 args) w := enters_of Try.func188 (by kernel_rfl) rfl
theorem indexApiArrow_ct (l : List ApiArrow) (dom : ApiArrow → Prop) (φ : ApiArrow → Bool) (hd : ∀ x ∈ l, dom x) : Ct 188 [.sv (.one (LS ApiArrow.ty l)), .sv (.one (.rd (fvR (fun x => [.sv (.agg [I x.fFrom, I x.fLetter, I x.fTo])]) (fun b => .sv (.one (B b))) dom φ)))] [] (fun (_ : Unit) => True) (fun _ => .sv (.one (I (idxTo φ l)))) := by
  refine (indexApiArrow_walk l dom φ (fun r => r = idxTo φ l) ?_).fun
  unfold indexApiArrow_vc
  exact index_plain l dom φ hd
def anyApiArrow_vc (l : (List ApiArrow)) (dom : (ApiArrow → Prop)) (φ : (ApiArrow → Bool)) (Q : Bool → Prop) : Prop :=
  l.length ≤ 9223372036854775807 →
  ((∀ x_ ∈ l, dom x_) ∧
  Q (decide ((idxTo φ l) ≥ 0)))
theorem anyApiArrow_walk (l : (List ApiArrow)) (dom : (ApiArrow → Prop)) (φ : (ApiArrow → Bool)) (Q : Bool → Prop) (h : anyApiArrow_vc l dom φ Q) : Ct 119 [.sv (.one (LS ApiArrow.ty l)), .sv (.one (.rd (fvR (fun x => [.sv (.agg [I x.fFrom, I x.fLetter, I x.fTo])]) (fun b => .sv (.one (B b))) dom φ)))] [] Q (fun (r : Bool) => .sv (.one (B r))) := by
  have ht := tab_ok
  refine Ct.body Try.func119 rfl rfl rfl rfl (fun c hn => ?_)
  unfold anyApiArrow_vc at h
  refine En.lenL 0 (by rfl) (fun hl => ?_)
  replace h := h hl
  clear hl
  refine En.seq ?_
  refine En.region ?_
  refine WL.run ht hn 1 ⟨[(0, .sv (.one (LS ApiArrow.ty l))), (1, .sv (.one (.rd (fvR (fun x => [.sv (.agg [I x.fFrom, I x.fLetter, I x.fTo])]) (fun b => .sv (.one (B b))) dom φ))))], []⟩ (by kernel_rfl) ?_
  refine WL.nil ?_
  refine En.seq ?_
  refine En.region ?_
  refine WL.run ht hn 2 ⟨[(5, .sv (.one (LS ApiArrow.ty l))), (6, .sv (.one (.rd (fvR (fun x => [.sv (.agg [I x.fFrom, I x.fLetter, I x.fTo])]) (fun b => .sv (.one (B b))) dom φ))))], []⟩ (by kernel_rfl) ?_
  have hp := h.1
  replace h := h.2
  refine WL.mt0 (K := []) (p := none) hn (by rfl) (mt_call (indexApiArrow_ct l dom φ hp) en188 (caps := []) [] rfl (by rfl) (by kernel_rfl) (by kernel_rfl) (by rfl) (by rfl) (by rfl)) (by rfl) (by rfl) (by rfl) ?_
  refine WL.run ht hn 2 ⟨[(4, .sv (.one (B (decide ((idxTo φ l) ≥ 0)))))], []⟩ (by kernel_rfl) ?_
  refine WL.nil ?_
  refine En.ret ?_
  exact En.back ht (decide ((idxTo φ l) ≥ 0)) h (by kernel_rfl) rfl
theorem en119 : ∀ args w, (callFunc 119 args).run Try.prog w = .ok (.enter 119 args) w := enters_of Try.func119 (by kernel_rfl) rfl
theorem anyApiArrow_ct (l : List ApiArrow) (dom : ApiArrow → Prop) (φ : ApiArrow → Bool) (hd : ∀ x ∈ l, dom x) : Ct 119 [.sv (.one (LS ApiArrow.ty l)), .sv (.one (.rd (fvR (fun x => [.sv (.agg [I x.fFrom, I x.fLetter, I x.fTo])]) (fun b => .sv (.one (B b))) dom φ)))] [] (fun (_ : Unit) => True) (fun _ => .sv (.one (B (l.any φ)))) := by
  refine (anyApiArrow_walk l dom φ (fun r => r = l.any φ) ?_).fun
  unfold anyApiArrow_vc
  exact fun _ => ⟨hd, by rw [← idxTo_nonneg φ l]⟩
def indexInt_vc (l : (List Int)) (dom : (Int → Prop)) (φ : (Int → Bool)) (Q : Int → Prop) : Prop :=
  l.length ≤ 9223372036854775807 →
  (∃ (Inv : Int → Prop) (mu : Int → Nat), Inv 0 ∧
  ∀ (x8 : Int) , Inv x8 → (IfP (decide (x8 < (l.length : Int))) (∃ e, idx l x8 = some e ∧
  (dom e) ∧
  IfP (φ e) (Q x8) ((Inv (wr (x8 + 1)) ∧ mu (wr (x8 + 1)) < mu x8))) (Q (-1))))
theorem indexInt_walk (l : (List Int)) (dom : (Int → Prop)) (φ : (Int → Bool)) (Q : Int → Prop) (h : indexInt_vc l dom φ Q) : Ct 123 [.sv (.one (LS intT l)), .sv (.one (.rd (fvR (fun x => [.sv (.one (I x))]) (fun b => .sv (.one (B b))) dom φ)))] [] Q (fun (r : Int) => .sv (.one (I r))) := by
  have ht := tab_ok
  refine Ct.body Try.func123 rfl rfl rfl rfl (fun c hn => ?_)
  unfold indexInt_vc at h
  refine En.lenL 0 (by rfl) (fun hl => ?_)
  replace h := h hl
  clear hl
  refine En.seq ?_
  refine En.region ?_
  refine WL.run ht hn 1 ⟨[(0, .sv (.one (LS intT l))), (1, .sv (.one (.rd (fvR (fun x => [.sv (.one (I x))]) (fun b => .sv (.one (B b))) dom φ))))], []⟩ (by kernel_rfl) ?_
  refine WL.nil ?_
  refine En.seq ?_
  refine En.seq ?_
  refine En.region ?_
  refine WL.run ht hn 3 ⟨[(0, .sv (.one (LS intT l))), (1, .sv (.one (.rd (fvR (fun x => [.sv (.one (I x))]) (fun b => .sv (.one (B b))) dom φ)))), (7, .sv (.one (I (l.length : Int)))), (8, .sv (.one (I 0)))], []⟩ (by kernel_rfl) ?_
  refine WL.nil ?_
  refine En.block ?_
  obtain ⟨Inv, mu, h0, hI⟩ := h
  refine En.loop (σ := Int) (fun zz => Inv zz) (fun zz => mu zz) (fun zz => ⟨[(0, .sv (.one (LS intT l))), (1, .sv (.one (.rd (fvR (fun x => [.sv (.one (I x))]) (fun b => .sv (.one (B b))) dom φ)))), (7, .sv (.one (I (l.length : Int)))), (8, .sv (.one (I zz)))], []⟩) 0 h0 (sub_ok (by kernel_rfl)) ?_
  intro x8 h
  replace h := hI _ h
  show En c ⟨[(0, .sv (.one (LS intT l))), (1, .sv (.one (.rd (fvR (fun x => [.sv (.one (I x))]) (fun b => .sv (.one (B b))) dom φ)))), (7, .sv (.one (I (l.length : Int)))), (8, .sv (.one (I x8)))], []⟩ _
  refine En.seq ?_
  refine En.region ?_
  refine WL.run ht hn 1 ⟨[(0, .sv (.one (LS intT l))), (1, .sv (.one (.rd (fvR (fun x => [.sv (.one (I x))]) (fun b => .sv (.one (B b))) dom φ)))), (7, .sv (.one (I (l.length : Int)))), (8, .sv (.one (I x8))), (9, .sv (.one (B (decide (x8 < (l.length : Int))))))], []⟩ (by kernel_rfl) ?_
  refine WL.nil ?_
  refine En.seq ?_
  refine En.cond (b := (decide (x8 < (l.length : Int)))) (by kernel_rfl) (fun hb => ?_) (fun hb => ?_)
  · replace h := h.1 hb
    refine En.skip ?_
    refine En.seq ?_
    refine En.block ?_
    refine En.seq ?_
    refine En.region ?_
    refine WL.run ht hn 2 ⟨[(0, .sv (.one (LS intT l))), (1, .sv (.one (.rd (fvR (fun x => [.sv (.one (I x))]) (fun b => .sv (.one (B b))) dom φ)))), (5, .sv (.one (I x8))), (7, .sv (.one (I (l.length : Int)))), (8, .sv (.one (I x8)))], []⟩ (by kernel_rfl) ?_
    refine WL.nil ?_
    refine En.seq ?_
    refine En.region ?_
    refine WL.run ht hn 3 ⟨[(0, .sv (.one (LS intT l))), (1, .sv (.one (.rd (fvR (fun x => [.sv (.one (I x))]) (fun b => .sv (.one (B b))) dom φ)))), (5, .sv (.one (I x8))), (7, .sv (.one (I (l.length : Int)))), (8, .sv (.one (I x8))), (11, .sv (.one (.rd (fvR (fun x => [.sv (.one (I x))]) (fun b => .sv (.one (B b))) dom φ)))), (12, .sv (.one (LS intT l))), (13, .sv (.one (I x8)))], []⟩ (by kernel_rfl) ?_
    obtain ⟨e, he, h⟩ := h
    refine WL.val hn (by rfl) (val_index (T := intT) (l := l) (i := x8) ht rfl (by rfl) (by rfl) (by rfl) (by rfl) (by rfl) (by rfl) he) (by rfl) ?_
    refine WL.val hn (by rfl) (val_load (s := .one (I e)) ht rfl (by rfl) (by rfl) (by rfl) (by rfl) (by rfl)) (by rfl) ?_
    have hp := h.1
    replace h := h.2
    refine WL.mt0 (K := []) (p := none) hn (by rfl) (mt_callv e hp rfl (by rfl) (by rfl) (by rfl) (by rfl)) (by rfl) (by rfl) (by rfl) ?_
    refine WL.nil ?_
    refine En.cond (b := (φ e)) (by kernel_rfl) (fun hb => ?_) (fun hb => ?_)
    · replace h := h.1 hb
      refine En.seq ?_
      refine En.region ?_
      refine WL.run ht hn 2 ⟨[(4, .sv (.one (I x8)))], []⟩ (by kernel_rfl) ?_
      refine WL.nil ?_
      refine En.ret ?_
      exact En.back ht x8 h (by kernel_rfl) rfl
    · replace h := h.2 hb
      refine En.skip ?_
      refine En.region ?_
      refine WL.run ht hn 2 ⟨[(0, .sv (.one (LS intT l))), (1, .sv (.one (.rd (fvR (fun x => [.sv (.one (I x))]) (fun b => .sv (.one (B b))) dom φ)))), (7, .sv (.one (I (l.length : Int)))), (8, .sv (.one (I (wr (x8 + 1)))))], []⟩ (by kernel_rfl) ?_
      refine WL.nil ?_
      exact En.at (I := fun zz => Inv zz ∧ mu zz < mu x8) (T := fun zz => ⟨[(0, .sv (.one (LS intT l))), (1, .sv (.one (.rd (fvR (fun x => [.sv (.one (I x))]) (fun b => .sv (.one (B b))) dom φ)))), (7, .sv (.one (I (l.length : Int)))), (8, .sv (.one (I zz)))], []⟩) (wr (x8 + 1)) h (by kernel_rfl)
  · replace h := h.2 hb
    refine En.exit rfl ?_
    refine En.seq ?_
    refine En.region ?_
    refine WL.run ht hn 1 ⟨[(4, .sv (.one (I (-1))))], []⟩ (by kernel_rfl) ?_
    refine WL.nil ?_
    refine En.ret ?_
    exact En.back ht (-1) h (by kernel_rfl) rfl
theorem en123 : ∀ args w, (callFunc 123 args).run Try.prog w = .ok (.enter 123 args) w := enters_of Try.func123 (by kernel_rfl) rfl
theorem indexInt_ct (l : List Int) (dom : Int → Prop) (φ : Int → Bool) (hd : ∀ x ∈ l, dom x) : Ct 123 [.sv (.one (LS intT l)), .sv (.one (.rd (fvR (fun x => [.sv (.one (I x))]) (fun b => .sv (.one (B b))) dom φ)))] [] (fun (_ : Unit) => True) (fun _ => .sv (.one (I (idxTo φ l)))) := by
  refine (indexInt_walk l dom φ (fun r => r = idxTo φ l) ?_).fun
  unfold indexInt_vc
  exact index_plain l dom φ hd
def cloneInt_vc (l : (List Int)) (Q : (List Int) → Prop) : Prop :=
  l.length ≤ 9223372036854775807 →
  (∀ isnil : Bool, (isnil = true → l = []) →
  (IfP (isnil != false) (Q []) (capOk ([] : (List Int)).length (l : (List Int)).length 8 ∧
  Q (([] : (List Int)) ++ l))))
theorem cloneInt_walk (l : (List Int)) (Q : (List Int) → Prop) (h : cloneInt_vc l Q) : CtJ 49 [.sv (.one (LS intT l))] [] Q (fun (r : (List Int)) => rowI 3 intT r) := by
  have ht := tab_ok
  refine CtJ.body Try.func49 rfl rfl rfl rfl (fun c hn hmay => ?_)
  unfold cloneInt_vc at h
  refine En.lenL 0 (by rfl) (fun hl => ?_)
  replace h := h hl
  clear hl
  refine En.seq ?_
  refine En.region ?_
  refine WL.run ht hn 1 ⟨[(0, .sv (.one (LS intT l)))], []⟩ (by kernel_rfl) ?_
  refine WL.nil ?_
  refine En.seq ?_
  refine En.seq ?_
  refine En.region ?_
  refine WL.run ht hn 1 ⟨[(0, .sv (.one (LS intT l))), (3, .sv (.one (LS intT l)))], []⟩ (by kernel_rfl) ?_
  refine WL.eqNil (T := intT) (l := l) .eql false (by simp) ht hn (by rfl) rfl (by rfl) (by rfl) (by rfl) rfl (by rfl) (fun isnil hisnil => ?_)
  replace h := h isnil hisnil
  clear hisnil
  refine WL.nil ?_
  refine En.cond (b := (isnil != false)) (by kernel_rfl) (fun hb => ?_) (fun hb => ?_)
  · replace h := h.1 hb
    refine En.seq ?_
    refine En.region ?_
    refine WL.run ht hn 1 ⟨[(2, .sv (.one (.v (.slice none 0 0))))], []⟩ (by kernel_rfl) ?_
    refine WL.nil ?_
    refine En.ret ?_
    exact En.backN (by rfl) h
  · replace h := h.2 hb
    refine En.skip ?_
    refine En.seq ?_
    refine En.region ?_
    refine WL.mt0 (K := []) (p := some (0, rowI 3 intT ([] : (List Int)))) hn (by rfl) (mt_empty intT 0 ht rfl (by rfl) (by rfl) (by rfl)) (by rfl) (by rfl) (by rfl) ?_
    refine WL.run ht hn 1 ⟨[(5, .sv (.one (.own 0))), (6, .sv (.one (LS intT l)))], [rowI 3 intT ([] : (List Int))]⟩ (by kernel_rfl) ?_
    have hp := h.1
    replace h := h.2
    refine WL.mt (S2 := ⟨[(6, .sv (.one (LS intT l)))], [rowI 3 intT ([] : (List Int))]⟩) (K := [0]) (p := some (0, rowI 3 intT (([] : (List Int)) ++ l))) hn (by rfl) (mt_append (T := intT) (l := ([] : (List Int))) (es := l) ht rfl (by rfl) (by rfl) (by rfl) (by rfl) (by decide) (by rfl) (by rfl) (srcLS (T := intT) (es := l) (fun _ h => by cases h) (by decide) (by rfl)) (by exact hp) (by exact hp.le (by decide))) (by kernel_rfl) (by rfl) (by rfl) (by rfl) ?_
    refine WL.run ht hn 1 ⟨[(2, .sv (.one (.own 0)))], [rowI 3 intT (([] : (List Int)) ++ l)]⟩ (by kernel_rfl) ?_
    refine WL.nil ?_
    refine En.ret ?_
    exact En.backJ (itf := fun l => rowI 3 intT l) hmay (by rfl) (by rfl) rfl rfl h
theorem en49 : ∀ args w, (callFunc 49 args).run Try.prog w = .ok (.enter 49 args) w := enters_of Try.func49 (by kernel_rfl) rfl
theorem cloneInt_ct (l : List Int) (hp : l.length * 8 ≤ 140737488355328) : CtI 49 [.sv (.one (LS intT l))] [] (rowI 3 intT l) := by
  refine (cloneInt_walk l (fun r => r = l) ?_).fun
  unfold cloneInt_vc
  refine fun _ isnil h => ⟨fun hb => (h (by simpa using hb)).symm, fun _ => ⟨?_, by simp⟩⟩
  unfold capOk
  simpa using hp
def samCheck_vc (g : ApiGraph) (Q : Int → Prop) : Prop :=
  g.fArrows.length ≤ 9223372036854775807 →
  (IfP ((decide (g.fLetters < 1)) || (decide (g.fLetters > 4))) (Q 2) (IfP (((decide (g.fPlaces < 1)) || (decide (g.fPlaces > 12))) || (decide ((g.fArrows.length : Int) > 60))) (Q 1) ((∀ x_ ∈ g.fArrows, (fun x => (fun _ => True) x.fFrom ∧ (fun _ => True) x.fTo) x_) ∧
  IfP (g.fArrows.any (offA (offG g) g)) (Q 2) (∃ (Inv : Int → Prop) (mu : Int → Nat), Inv 0 ∧
  ∀ (x35 : Int) , Inv x35 → (IfP (decide (x35 < (g.fArrows.length : Int))) (∃ J : Bool → Prop, (IfP (decide (x35 > 0)) (∃ e, idx g.fArrows (wr (x35 - 1)) = some e ∧
  ∃ e_2, idx g.fArrows x35 = some e_2 ∧
  J (decide ((ordA e e_2) ≥ 0))) (J false)) ∧
  (∀ (x54 : Bool), J x54 → IfP x54 (Q 3) ((Inv (wr (x35 + 1)) ∧ mu (wr (x35 + 1)) < mu x35)))) (Q 0))))))
theorem samCheck_walk (g : ApiGraph) (Q : Int → Prop) (h : samCheck_vc g Q) : Ct 55 [.sv (.agg [I g.fLetters, I g.fPlaces, LS ApiArrow.ty g.fArrows])] [] Q (fun (r : Int) => .sv (.one (I r))) := by
  have ht := tab_ok
  refine Ct.body Try.func55 rfl rfl rfl rfl (fun c hn => ?_)
  unfold samCheck_vc at h
  refine En.lenA 0 2 (by rfl) (by rfl) (fun hl => ?_)
  replace h := h hl
  clear hl
  refine En.seq ?_
  refine En.region ?_
  refine WL.run ht hn 2 ⟨[(1, .sv (.one (.ptr 0 0)))], [.box [I g.fLetters, I g.fPlaces, LS ApiArrow.ty g.fArrows] 48 false]⟩ (by kernel_rfl) ?_
  refine WL.nil ?_
  refine En.seq ?_
  refine En.seq ?_
  refine En.region ?_
  refine WL.run ht hn 4 ⟨[(1, .sv (.one (.ptr 0 0))), (8, .sv (.one (B (decide (g.fLetters < 1)))))], [.box [I g.fLetters, I g.fPlaces, LS ApiArrow.ty g.fArrows] 48 false]⟩ (by kernel_rfl) ?_
  refine WL.thru ⟨[(1, .sv (.one (.ptr 0 0))), (12, .sv (.one (B ((decide (g.fLetters < 1)) || (decide (g.fLetters > 4))))))], [.box [I g.fLetters, I g.fPlaces, LS ApiArrow.ty g.fArrows] 48 false]⟩ ?_ ?_
  · refine splitB (decide (g.fLetters < 1)) (fun hb0 => ?_) (fun hb0 => ?_)
    · refine WL.setB 8 hb0 (by kernel_rfl) ?_
      refine WL.run ht hn 4 ⟨[(1, .sv (.one (.ptr 0 0))), (12, .sv (.one (B true)))], [.box [I g.fLetters, I g.fPlaces, LS ApiArrow.ty g.fArrows] 48 false]⟩ (by kernel_rfl) ?_
      exact WL.nil (sub_ok (by simp only [hb0]; kernel_rfl))
    · refine WL.setB 8 hb0 (by kernel_rfl) ?_
      refine WL.run ht hn 4 ⟨[(1, .sv (.one (.ptr 0 0))), (12, .sv (.one (B (decide (g.fLetters > 4)))))], [.box [I g.fLetters, I g.fPlaces, LS ApiArrow.ty g.fArrows] 48 false]⟩ (by kernel_rfl) ?_
      exact WL.nil (sub_ok (by simp only [hb0]; kernel_rfl))
  · refine En.cond (b := ((decide (g.fLetters < 1)) || (decide (g.fLetters > 4)))) (by kernel_rfl) (fun hb => ?_) (fun hb => ?_)
    · replace h := h.1 hb
      refine En.seq ?_
      refine En.region ?_
      refine WL.run ht hn 1 ⟨[(2, .sv (.one (I 2)))], [.gone]⟩ (by kernel_rfl) ?_
      refine WL.nil ?_
      refine En.ret ?_
      exact En.back ht 2 h (by kernel_rfl) rfl
    · replace h := h.2 hb
      refine En.skip ?_
      refine En.seq ?_
      refine En.seq ?_
      refine En.region ?_
      refine WL.run ht hn 4 ⟨[(1, .sv (.one (.ptr 0 0))), (16, .sv (.one (B (decide (g.fPlaces < 1)))))], [.box [I g.fLetters, I g.fPlaces, LS ApiArrow.ty g.fArrows] 48 false]⟩ (by kernel_rfl) ?_
      refine WL.thru ⟨[(1, .sv (.one (.ptr 0 0))), (26, .sv (.one (B (((decide (g.fPlaces < 1)) || (decide (g.fPlaces > 12))) || (decide ((g.fArrows.length : Int) > 60))))))], [.box [I g.fLetters, I g.fPlaces, LS ApiArrow.ty g.fArrows] 48 false]⟩ ?_ ?_
      · refine splitB (decide (g.fPlaces < 1)) (fun hb0 => ?_) (fun hb0 => ?_)
        · refine WL.setB 16 hb0 (by kernel_rfl) ?_
          refine WL.run ht hn 10 ⟨[(1, .sv (.one (.ptr 0 0))), (26, .sv (.one (B true)))], [.box [I g.fLetters, I g.fPlaces, LS ApiArrow.ty g.fArrows] 48 false]⟩ (by kernel_rfl) ?_
          exact WL.nil (sub_ok (by simp only [hb0]; kernel_rfl))
        · refine WL.setB 16 hb0 (by kernel_rfl) ?_
          refine WL.run ht hn 5 ⟨[(1, .sv (.one (.ptr 0 0))), (21, .sv (.one (B (decide (g.fPlaces > 12)))))], [.box [I g.fLetters, I g.fPlaces, LS ApiArrow.ty g.fArrows] 48 false]⟩ (by kernel_rfl) ?_
          refine splitB (decide (g.fPlaces > 12)) (fun hb1 => ?_) (fun hb1 => ?_)
          · refine WL.setB 21 hb1 (by kernel_rfl) ?_
            refine WL.run ht hn 5 ⟨[(1, .sv (.one (.ptr 0 0))), (26, .sv (.one (B true)))], [.box [I g.fLetters, I g.fPlaces, LS ApiArrow.ty g.fArrows] 48 false]⟩ (by kernel_rfl) ?_
            exact WL.nil (sub_ok (by simp only [hb0, hb1]; kernel_rfl))
          · refine WL.setB 21 hb1 (by kernel_rfl) ?_
            refine WL.run ht hn 5 ⟨[(1, .sv (.one (.ptr 0 0))), (26, .sv (.one (B (decide ((g.fArrows.length : Int) > 60)))))], [.box [I g.fLetters, I g.fPlaces, LS ApiArrow.ty g.fArrows] 48 false]⟩ (by kernel_rfl) ?_
            exact WL.nil (sub_ok (by simp only [hb0, hb1]; kernel_rfl))
      · refine En.cond (b := (((decide (g.fPlaces < 1)) || (decide (g.fPlaces > 12))) || (decide ((g.fArrows.length : Int) > 60)))) (by kernel_rfl) (fun hb => ?_) (fun hb => ?_)
        · replace h := h.1 hb
          refine En.seq ?_
          refine En.region ?_
          refine WL.run ht hn 1 ⟨[(2, .sv (.one (I 1)))], [.gone]⟩ (by kernel_rfl) ?_
          refine WL.nil ?_
          refine En.ret ?_
          exact En.back ht 1 h (by kernel_rfl) rfl
        · replace h := h.2 hb
          refine En.skip ?_
          refine En.seq ?_
          refine En.region ?_
          refine WL.run ht hn 3 ⟨[(1, .sv (.one (.ptr 0 0))), (3, .sv (.one (.ptr 1 0)))], [.box [I g.fLetters, I g.fPlaces, LS ApiArrow.ty g.fArrows] 48 false, .box [.fn 118 [0]] 195 false]⟩ (by kernel_rfl) ?_
          refine WL.nil ?_
          refine En.seq ?_
          refine En.seq ?_
          refine En.region ?_
          refine WL.run ht hn 3 ⟨[(1, .sv (.one (.ptr 0 0))), (29, .sv (.one (LS ApiArrow.ty g.fArrows))), (30, .sv (.one (.fn 120 [1, 0])))], [.box [I g.fLetters, I g.fPlaces, LS ApiArrow.ty g.fArrows] 48 false, .box [.fn 118 [0]] 195 false]⟩ (by kernel_rfl) ?_
          have hp := h.1
          replace h := h.2
          refine WL.mt0 (K := []) (p := none) hn (by rfl) (mt_lendF [0] (by rfl) (by rfl) (mt_lendB (.rd (fvR (fun (x_ : Int) => [.sv (.one (I x_))]) (fun (r : Bool) => .sv (.one (B r))) (fun _ => True) (offG g))) 1 0 (by rfl) (by rfl) (fv_at (fv_of (M := [.box [I g.fLetters, I g.fPlaces, LS ApiArrow.ty g.fArrows] 48 true]) (caps := [0]) (fun x_ _ => samC1_ct x_ g) en118 rfl (by kernel_rfl) (by rfl) (fun _ => rfl))) (mt_lendF [1] (by rfl) (by rfl) (mt_ghost 30 (.sv (.one (.rd (fvR (fun (x_ : ApiArrow) => [.sv (.agg [I x_.fFrom, I x_.fLetter, I x_.fTo])]) (fun (r : Bool) => .sv (.one (B r))) (fun x => (fun _ => True) x.fFrom ∧ (fun _ => True) x.fTo) (offA (offG g) g))))) (by rfl) (fv_of (M := [.box [.rd (fvR (fun (x_ : Int) => [.sv (.one (I x_))]) (fun (r : Bool) => .sv (.one (B r))) (fun _ => True) (offG g))] 195 true, .box [I g.fLetters, I g.fPlaces, LS ApiArrow.ty g.fArrows] 48 true]) (caps := [1, 0]) (fun x_ hx => samC2_ct x_ (fun _ => True) (offG g) g hx) en120 rfl (by kernel_rfl) (by rfl) (fun _ => rfl)) (mt_call (anyApiArrow_ct g.fArrows (fun x => (fun _ => True) x.fFrom ∧ (fun _ => True) x.fTo) (offA (offG g) g) hp) en119 (caps := []) [] rfl (by rfl) (by kernel_rfl) (by kernel_rfl) (by rfl) (by rfl) (by rfl)))))) (by rfl) (by rfl) (by rfl) ?_
          refine WL.nil ?_
          refine En.cond (b := (g.fArrows.any (offA (offG g) g))) (by kernel_rfl) (fun hb => ?_) (fun hb => ?_)
          · replace h := h.1 hb
            refine En.seq ?_
            refine En.region ?_
            refine WL.run ht hn 1 ⟨[(2, .sv (.one (I 2)))], [.gone, .gone]⟩ (by kernel_rfl) ?_
            refine WL.nil ?_
            refine En.ret ?_
            exact En.back ht 2 h (by kernel_rfl) rfl
          · replace h := h.2 hb
            refine En.skip ?_
            refine En.seq ?_
            refine En.seq ?_
            refine En.region ?_
            refine WL.run ht hn 4 ⟨[(1, .sv (.one (.ptr 0 0))), (34, .sv (.one (I (g.fArrows.length : Int)))), (35, .sv (.one (I 0)))], [.box [I g.fLetters, I g.fPlaces, LS ApiArrow.ty g.fArrows] 48 false, .gone]⟩ (by kernel_rfl) ?_
            refine WL.nil ?_
            refine En.block ?_
            obtain ⟨Inv, mu, h0, hI⟩ := h
            refine En.loop (σ := Int) (fun zz => Inv zz) (fun zz => mu zz) (fun zz => ⟨[(1, .sv (.one (.ptr 0 0))), (34, .sv (.one (I (g.fArrows.length : Int)))), (35, .sv (.one (I zz)))], [.box [I g.fLetters, I g.fPlaces, LS ApiArrow.ty g.fArrows] 48 false, .gone]⟩) 0 h0 (sub_ok (by kernel_rfl)) ?_
            intro x35 h
            replace h := hI _ h
            show En c ⟨[(1, .sv (.one (.ptr 0 0))), (34, .sv (.one (I (g.fArrows.length : Int)))), (35, .sv (.one (I x35)))], [.box [I g.fLetters, I g.fPlaces, LS ApiArrow.ty g.fArrows] 48 false, .gone]⟩ _
            refine En.seq ?_
            refine En.region ?_
            refine WL.run ht hn 1 ⟨[(1, .sv (.one (.ptr 0 0))), (34, .sv (.one (I (g.fArrows.length : Int)))), (35, .sv (.one (I x35))), (36, .sv (.one (B (decide (x35 < (g.fArrows.length : Int))))))], [.box [I g.fLetters, I g.fPlaces, LS ApiArrow.ty g.fArrows] 48 false, .gone]⟩ (by kernel_rfl) ?_
            refine WL.nil ?_
            refine En.seq ?_
            refine En.cond (b := (decide (x35 < (g.fArrows.length : Int)))) (by kernel_rfl) (fun hb => ?_) (fun hb => ?_)
            · replace h := h.1 hb
              refine En.skip ?_
              refine En.seq ?_
              refine En.block ?_
              refine En.seq ?_
              refine En.region ?_
              refine WL.run ht hn 2 ⟨[(1, .sv (.one (.ptr 0 0))), (4, .sv (.one (I x35))), (34, .sv (.one (I (g.fArrows.length : Int)))), (35, .sv (.one (I x35)))], [.box [I g.fLetters, I g.fPlaces, LS ApiArrow.ty g.fArrows] 48 false, .gone]⟩ (by kernel_rfl) ?_
              refine WL.nil ?_
              obtain ⟨J, h, hJ⟩ := h
              refine En.seqJ (σ := Bool) (fun zz => J zz) (fun zz => ⟨[(1, .sv (.one (.ptr 0 0))), (34, .sv (.one (I (g.fArrows.length : Int)))), (35, .sv (.one (I x35))), (54, .sv (.one (B zz)))], [.box [I g.fLetters, I g.fPlaces, LS ApiArrow.ty g.fArrows] 48 false, .gone]⟩) ?_ ?_
              · refine splitB (decide (x35 > 0)) (fun hb_2 => ?_) (fun hb_2 => ?_)
                · replace h := h.1 hb_2
                  obtain ⟨e, he, h⟩ := h
                  obtain ⟨e_2, he_2, h⟩ := h
                  refine En.regionA ⟨[(1, .sv (.one (.ptr 0 0))), (4, .sv (.one (I x35))), (34, .sv (.one (I (g.fArrows.length : Int)))), (35, .sv (.one (I x35)))], [.sv (.one (I x35)), .sv (.one (B true)), .sv (.one (B true)), .sv (.one (.ptr 0 2)), .sv (.one (LS ApiArrow.ty g.fArrows)), .sv (.one (I x35)), .sv (.one (I (wr (x35 - 1)))), .sv (.one (.pe (svR (.agg [I e.fFrom, I e.fLetter, I e.fTo])) 3)), .sv (.agg [I e.fFrom, I e.fLetter, I e.fTo]), .sv (.one (.ptr 0 2)), .sv (.one (LS ApiArrow.ty g.fArrows)), .sv (.one (I x35)), .sv (.one (.pe (svR (.agg [I e_2.fFrom, I e_2.fLetter, I e_2.fTo])) 3)), .sv (.agg [I e_2.fFrom, I e_2.fLetter, I e_2.fTo]), .sv (.one (I (ordA e e_2))), .sv (.one (B (decide ((ordA e e_2) ≥ 0)))), .sv (.one (B (decide ((ordA e e_2) ≥ 0))))], [⟨.box [I g.fLetters, I g.fPlaces, LS ApiArrow.ty g.fArrows] 48 false, none, none, none⟩, ⟨.gone, none, none, none⟩]⟩ ⟨[(1, .sv (.one (.ptr 0 0))), (34, .sv (.one (I (g.fArrows.length : Int)))), (35, .sv (.one (I x35))), (54, .sv (.one (B (decide ((ordA e e_2) ≥ 0)))))], [.box [I g.fLetters, I g.fPlaces, LS ApiArrow.ty g.fArrows] 48 false, .gone]⟩ (by kernel_rfl) hn (by kernel_rfl) (by rfl) (by kernel_rfl) ?_ (by kernel_rfl) ?_
                  · exact ⟨.mt ⟨[(4, .sv (.one (I x35)))], []⟩ [] none (by kernel_rfl) (by rfl) (mt_ev ht (by kernel_rfl)) rfl rfl rfl rfl,
    .mt ⟨[(38, .sv (.one (I x35)))], []⟩ [] none (by kernel_rfl) (by rfl) (mt_castB hb_2 (mt_ev ht (by kernel_rfl))) rfl rfl rfl rfl,
    .mt ⟨[(39, .sv (.one (B true)))], []⟩ [] none (by kernel_rfl) (by rfl) (mt_ev ht (by kernel_rfl)) rfl rfl rfl rfl,
    .mt ⟨[(1, .sv (.one (.ptr 0 0))), (40, .sv (.one (B true)))], []⟩ [] none (by kernel_rfl) (by rfl) (mt_ev ht (by kernel_rfl)) rfl rfl rfl rfl,
    .mt ⟨[(40, .sv (.one (B true))), (41, .sv (.one (.ptr 0 2)))], [.box [I g.fLetters, I g.fPlaces, LS ApiArrow.ty g.fArrows] 48 false]⟩ [] none (by kernel_rfl) (by rfl) (mt_ev ht (by kernel_rfl)) rfl rfl rfl rfl,
    .mt ⟨[(4, .sv (.one (I x35))), (40, .sv (.one (B true)))], []⟩ [] none (by kernel_rfl) (by rfl) (mt_ev ht (by kernel_rfl)) rfl rfl rfl rfl,
    .mt ⟨[(40, .sv (.one (B true))), (43, .sv (.one (I x35)))], []⟩ [] none (by kernel_rfl) (by rfl) (mt_ev ht (by kernel_rfl)) rfl rfl rfl rfl,
    .mt ⟨[(40, .sv (.one (B true))), (42, .sv (.one (LS ApiArrow.ty g.fArrows))), (44, .sv (.one (I (wr (x35 - 1)))))], []⟩ [] none (by kernel_rfl) (by rfl) (mt_val (val_index (T := ApiArrow.ty) (l := g.fArrows) (i := (wr (x35 - 1))) ht rfl (by rfl) (by rfl) (by rfl) (by rfl) (by rfl) (by rfl) he)) rfl rfl rfl rfl,
    .mt ⟨[(40, .sv (.one (B true))), (45, .sv (.one (.pe (svR (.agg [I e.fFrom, I e.fLetter, I e.fTo])) 3)))], []⟩ [] none (by kernel_rfl) (by rfl) (mt_val (val_load (s := .agg [I e.fFrom, I e.fLetter, I e.fTo]) ht rfl (by rfl) (by rfl) (by rfl) (by rfl) (by rfl))) rfl rfl rfl rfl,
    .mt ⟨[(1, .sv (.one (.ptr 0 0))), (40, .sv (.one (B true)))], []⟩ [] none (by kernel_rfl) (by rfl) (mt_ev ht (by kernel_rfl)) rfl rfl rfl rfl,
    .mt ⟨[(40, .sv (.one (B true))), (47, .sv (.one (.ptr 0 2)))], [.box [I g.fLetters, I g.fPlaces, LS ApiArrow.ty g.fArrows] 48 false]⟩ [] none (by kernel_rfl) (by rfl) (mt_ev ht (by kernel_rfl)) rfl rfl rfl rfl,
    .mt ⟨[(4, .sv (.one (I x35))), (40, .sv (.one (B true)))], []⟩ [] none (by kernel_rfl) (by rfl) (mt_ev ht (by kernel_rfl)) rfl rfl rfl rfl,
    .mt ⟨[(40, .sv (.one (B true))), (48, .sv (.one (LS ApiArrow.ty g.fArrows))), (49, .sv (.one (I x35)))], []⟩ [] none (by kernel_rfl) (by rfl) (mt_val (val_index (T := ApiArrow.ty) (l := g.fArrows) (i := x35) ht rfl (by rfl) (by rfl) (by rfl) (by rfl) (by rfl) (by rfl) he_2)) rfl rfl rfl rfl,
    .mt ⟨[(40, .sv (.one (B true))), (50, .sv (.one (.pe (svR (.agg [I e_2.fFrom, I e_2.fLetter, I e_2.fTo])) 3)))], []⟩ [] none (by kernel_rfl) (by rfl) (mt_val (val_load (s := .agg [I e_2.fFrom, I e_2.fLetter, I e_2.fTo]) ht rfl (by rfl) (by rfl) (by rfl) (by rfl) (by rfl))) rfl rfl rfl rfl,
    .mt ⟨[(40, .sv (.one (B true))), (46, .sv (.agg [I e.fFrom, I e.fLetter, I e.fTo])), (51, .sv (.agg [I e_2.fFrom, I e_2.fLetter, I e_2.fTo]))], []⟩ [] none (by kernel_rfl) (by rfl) (mt_call (samOrd_ct e e_2) en121 (caps := []) [] rfl (by rfl) (by kernel_rfl) (by kernel_rfl) (by rfl) (by rfl) (by rfl)) rfl rfl rfl rfl,
    .mt ⟨[(40, .sv (.one (B true))), (52, .sv (.one (I (ordA e e_2))))], []⟩ [] none (by kernel_rfl) (by rfl) (mt_ev ht (by kernel_rfl)) rfl rfl rfl rfl,
    .mt ⟨[(40, .sv (.one (B true))), (53, .sv (.one (B (decide ((ordA e e_2) ≥ 0)))))], []⟩ [] none (by kernel_rfl) (by rfl) (mt_ev ht (by kernel_rfl)) rfl rfl rfl rfl,
    trivial⟩
                  · exact En.at (I := fun zz => J zz) (T := fun zz => ⟨[(1, .sv (.one (.ptr 0 0))), (34, .sv (.one (I (g.fArrows.length : Int)))), (35, .sv (.one (I x35))), (54, .sv (.one (B zz)))], [.box [I g.fLetters, I g.fPlaces, LS ApiArrow.ty g.fArrows] 48 false, .gone]⟩) (decide ((ordA e e_2) ≥ 0)) h (by kernel_rfl)
                · replace h := h.2 hb_2
                  refine En.regionA ⟨[(1, .sv (.one (.ptr 0 0))), (4, .sv (.one (I x35))), (34, .sv (.one (I (g.fArrows.length : Int)))), (35, .sv (.one (I x35)))], [.sv (.one (I x35)), .sv (.one (B false)), .sv (.one (B false)), .tup [], .tup [], .tup [], .tup [], .tup [], .tup [], .tup [], .tup [], .tup [], .tup [], .tup [], .tup [], .tup [], .sv (.one (B false))], [⟨.box [I g.fLetters, I g.fPlaces, LS ApiArrow.ty g.fArrows] 48 false, none, none, none⟩, ⟨.gone, none, none, none⟩]⟩ ⟨[(1, .sv (.one (.ptr 0 0))), (34, .sv (.one (I (g.fArrows.length : Int)))), (35, .sv (.one (I x35))), (54, .sv (.one (B false)))], [.box [I g.fLetters, I g.fPlaces, LS ApiArrow.ty g.fArrows] 48 false, .gone]⟩ (by kernel_rfl) hn (by kernel_rfl) (by rfl) (by kernel_rfl) ?_ (by kernel_rfl) ?_
                  · exact ⟨.mt ⟨[(4, .sv (.one (I x35)))], []⟩ [] none (by kernel_rfl) (by rfl) (mt_ev ht (by kernel_rfl)) rfl rfl rfl rfl,
    .mt ⟨[(38, .sv (.one (I x35)))], []⟩ [] none (by kernel_rfl) (by rfl) (mt_castB hb_2 (mt_ev ht (by kernel_rfl))) rfl rfl rfl rfl,
    .mt ⟨[(39, .sv (.one (B false)))], []⟩ [] none (by kernel_rfl) (by rfl) (mt_ev ht (by kernel_rfl)) rfl rfl rfl rfl,
    .skip ⟨[(40, .sv (.one (B false)))], []⟩ (by kernel_rfl) (by rfl) rfl rfl rfl rfl,
    .skip ⟨[(40, .sv (.one (B false)))], []⟩ (by kernel_rfl) (by rfl) rfl rfl rfl rfl,
    .skip ⟨[(40, .sv (.one (B false)))], []⟩ (by kernel_rfl) (by rfl) rfl rfl rfl rfl,
    .skip ⟨[(40, .sv (.one (B false)))], []⟩ (by kernel_rfl) (by rfl) rfl rfl rfl rfl,
    .skip ⟨[(40, .sv (.one (B false)))], []⟩ (by kernel_rfl) (by rfl) rfl rfl rfl rfl,
    .skip ⟨[(40, .sv (.one (B false)))], []⟩ (by kernel_rfl) (by rfl) rfl rfl rfl rfl,
    .skip ⟨[(40, .sv (.one (B false)))], []⟩ (by kernel_rfl) (by rfl) rfl rfl rfl rfl,
    .skip ⟨[(40, .sv (.one (B false)))], []⟩ (by kernel_rfl) (by rfl) rfl rfl rfl rfl,
    .skip ⟨[(40, .sv (.one (B false)))], []⟩ (by kernel_rfl) (by rfl) rfl rfl rfl rfl,
    .skip ⟨[(40, .sv (.one (B false)))], []⟩ (by kernel_rfl) (by rfl) rfl rfl rfl rfl,
    .skip ⟨[(40, .sv (.one (B false)))], []⟩ (by kernel_rfl) (by rfl) rfl rfl rfl rfl,
    .skip ⟨[(40, .sv (.one (B false)))], []⟩ (by kernel_rfl) (by rfl) rfl rfl rfl rfl,
    .skip ⟨[(40, .sv (.one (B false)))], []⟩ (by kernel_rfl) (by rfl) rfl rfl rfl rfl,
    .mt ⟨[(40, .sv (.one (B false))), (53, .tup [])], []⟩ [] none (by kernel_rfl) (by rfl) (mt_ev ht (by kernel_rfl)) rfl rfl rfl rfl,
    trivial⟩
                  · exact En.at (I := fun zz => J zz) (T := fun zz => ⟨[(1, .sv (.one (.ptr 0 0))), (34, .sv (.one (I (g.fArrows.length : Int)))), (35, .sv (.one (I x35))), (54, .sv (.one (B zz)))], [.box [I g.fLetters, I g.fPlaces, LS ApiArrow.ty g.fArrows] 48 false, .gone]⟩) false h (by kernel_rfl)
              · intro x54 h
                replace h := hJ _ h
                show En c ⟨[(1, .sv (.one (.ptr 0 0))), (34, .sv (.one (I (g.fArrows.length : Int)))), (35, .sv (.one (I x35))), (54, .sv (.one (B x54)))], [.box [I g.fLetters, I g.fPlaces, LS ApiArrow.ty g.fArrows] 48 false, .gone]⟩ _
                refine En.cond (b := x54) (by kernel_rfl) (fun hb => ?_) (fun hb => ?_)
                · replace h := h.1 hb
                  refine En.seq ?_
                  refine En.region ?_
                  refine WL.run ht hn 1 ⟨[(2, .sv (.one (I 3)))], [.gone, .gone]⟩ (by kernel_rfl) ?_
                  refine WL.nil ?_
                  refine En.ret ?_
                  exact En.back ht 3 h (by kernel_rfl) rfl
                · replace h := h.2 hb
                  refine En.skip ?_
                  refine En.region ?_
                  refine WL.run ht hn 2 ⟨[(1, .sv (.one (.ptr 0 0))), (34, .sv (.one (I (g.fArrows.length : Int)))), (35, .sv (.one (I (wr (x35 + 1)))))], [.box [I g.fLetters, I g.fPlaces, LS ApiArrow.ty g.fArrows] 48 false, .gone]⟩ (by kernel_rfl) ?_
                  refine WL.nil ?_
                  exact En.at (I := fun zz => Inv zz ∧ mu zz < mu x35) (T := fun zz => ⟨[(1, .sv (.one (.ptr 0 0))), (34, .sv (.one (I (g.fArrows.length : Int)))), (35, .sv (.one (I zz)))], [.box [I g.fLetters, I g.fPlaces, LS ApiArrow.ty g.fArrows] 48 false, .gone]⟩) (wr (x35 + 1)) h (by kernel_rfl)
            · replace h := h.2 hb
              refine En.exit rfl ?_
              refine En.seq ?_
              refine En.region ?_
              refine WL.run ht hn 1 ⟨[(2, .sv (.one (I 0)))], [.gone, .gone]⟩ (by kernel_rfl) ?_
              refine WL.nil ?_
              refine En.ret ?_
              exact En.back ht 0 h (by kernel_rfl) rfl
theorem en55 : ∀ args w, (callFunc 55 args).run Try.prog w = .ok (.enter 55 args) w := enters_of Try.func55 (by kernel_rfl) rfl
def samLate (g : ApiGraph) : Bool := (List.range g.fArrows.length).any fun i => decide (0 < i) && decide (ordA (g.fArrows.getD (i - 1) default) (g.fArrows.getD i default) ≥ 0)
def samErr (g : ApiGraph) : Int := if (decide (g.fLetters < 1)) || (decide (g.fLetters > 4)) then 2 else if ((decide (g.fPlaces < 1)) || (decide (g.fPlaces > 12))) || (decide ((g.fArrows.length : Int) > 60)) then 1 else if g.fArrows.any (offA (offG g) g) then 2 else if samLate g then 3 else 0
structure GraphOk (g : ApiGraph) : Prop where
  let_ : 1 ≤ g.fLetters ∧ g.fLetters ≤ 4
  pl : 1 ≤ g.fPlaces ∧ g.fPlaces ≤ 12
  len : g.fArrows.length ≤ 60
  arr : ∀ x ∈ g.fArrows, (0 ≤ x.fFrom ∧ x.fFrom < g.fPlaces) ∧ (0 ≤ x.fTo ∧ x.fTo < g.fPlaces) ∧ 0 ≤ x.fLetter ∧ x.fLetter < g.fLetters
theorem samErr_ok {g : ApiGraph} (h : samErr g = 0) : GraphOk g := by
  unfold samErr at h
  by_cases h1 : ((decide (g.fLetters < 1)) || (decide (g.fLetters > 4))) = true
  · rw [if_pos h1] at h; cases h
  rw [if_neg h1] at h
  by_cases h2 : (((decide (g.fPlaces < 1)) || (decide (g.fPlaces > 12))) || (decide ((g.fArrows.length : Int) > 60))) = true
  · rw [if_pos h2] at h; cases h
  rw [if_neg h2] at h
  by_cases h3 : g.fArrows.any (offA (offG g) g) = true
  · rw [if_pos h3] at h; cases h
  simp only [Bool.not_eq_true, Bool.or_eq_false_iff, decide_eq_false_iff_not] at h1 h2
  rw [Bool.not_eq_true, List.any_eq_false] at h3
  refine ⟨by omega, by omega, by omega, fun x hx => ?_⟩
  have := h3 x hx
  unfold offA offG at this
  simp at this
  omega
theorem idx_getS {α : Type} {l : List α} {s : Nat} (z : α) (h : s < l.length) : idx l (s : Int) = some (l.getD s z) := by
  have := idx_of (l := l) (i := (s : Int)) z (by omega) (by omega)
  rwa [Int.toNat_natCast] at this
theorem samCheck_ct (g : ApiGraph)  : Ct 55 [.sv (.agg [I g.fLetters, I g.fPlaces, LS ApiArrow.ty g.fArrows])] [] (fun (_ : Unit) => True) (fun _ => .sv (.one (I (samErr g)))) := by
  refine (samCheck_walk g (fun res_ => res_ = (samErr g)) ?_).fun
  unfold samCheck_vc
  intro _
  refine ⟨fun h => ?_, fun h1 => ⟨fun h => ?_, fun h2 => ⟨fun _ _ => ⟨trivial, trivial⟩, fun h => ?_, fun h3 => ?_⟩⟩⟩
  · show 2 = _; unfold samErr; rw [if_pos h]
  · show 1 = _; unfold samErr; rw [if_neg (by rw [h1]; decide), if_pos h]
  · show 2 = _; unfold samErr; rw [if_neg (by rw [h1]; decide), if_neg (by rw [h2]; decide), if_pos h]
  have he : samErr g = if samLate g then 3 else 0 := by unfold samErr; rw [if_neg (by rw [h1]; decide), if_neg (by rw [h2]; decide), if_neg (by rw [h3]; decide)]
  rw [he]
  refine ⟨fun i => ∃ k : Nat, i = k ∧ k ≤ g.fArrows.length ∧ ∀ j, j < k → (decide (0 < j) && decide (ordA (g.fArrows.getD (j - 1) default) (g.fArrows.getD j default) ≥ 0)) = false, fun i => g.fArrows.length - i.toNat, ⟨0, rfl, Nat.zero_le _, fun j hj => absurd hj (Nat.not_lt_zero _)⟩, ?_⟩
  rintro i ⟨k, rfl, hk, hf⟩
  simp only [Bool.or_eq_false_iff, decide_eq_false_iff_not] at h2
  refine ⟨fun hb => ?_, fun hb => ?_⟩
  · have hlt := dlt hb
    refine ⟨fun b => b = (decide (0 < k) && decide (ordA (g.fArrows.getD (k - 1) default) (g.fArrows.getD k default) ≥ 0)), ⟨fun hc => ?_, fun hc => ?_⟩, ?_⟩
    · have hc : (k : Int) > 0 := of_decide_eq_true hc
      have hw : wr ((k : Int) - 1) = ((k - 1 : Nat) : Int) := by rw [wr_in (by omega) (by omega)]; omega
      refine ⟨_, by rw [hw]; exact idx_getS default (by omega), _, idx_getS default hlt, ?_⟩
      show decide _ = (_ && _)
      rw [decide_eq_true (show 0 < k by omega), Bool.true_and]
    · have hc := of_decide_eq_false hc
      show false = (_ && _)
      rw [decide_eq_false (show ¬ 0 < k by omega)]
      rfl
    · rintro b rfl
      refine ⟨fun hc => ?_, fun hc => ⟨⟨k + 1, wsucc (by omega), hlt, fun j hj => ?_⟩, mu_up hlt (by omega)⟩⟩
      · have : samLate g = true := by
          unfold samLate
          exact List.any_eq_true.2 ⟨k, List.mem_range.2 hlt, hc⟩
        rw [if_pos this]
      · by_cases e : j = k
        · rw [e]; exact hc
        · exact hf j (by omega)
  · have : samLate g = false := by
      unfold samLate
      rw [List.any_eq_false]
      intro j hj
      rw [hf j (by have := List.mem_range.1 hj; have := dge hb; omega)]
      decide
    rw [this]
    rfl
def samA1_vc (y : ApiArrow) (q : Int) (x : ApiArrow) (domok : ((Int × Int) → Prop)) (ok : ((Int × Int) → Bool)) (Q : Bool → Prop) : Prop :=
  ∃ J : Bool → Prop, (IfP (y.fFrom == q) (IfP (y.fLetter == x.fLetter) ((domok (x.fTo, y.fTo)) ∧
  J (ok (x.fTo, y.fTo))) (J false)) (J false)) ∧
  (∀ (x5 : Bool), J x5 → Q x5)
theorem samA1_walk (y : ApiArrow) (q : Int) (x : ApiArrow) (domok : ((Int × Int) → Prop)) (ok : ((Int × Int) → Bool)) (Q : Bool → Prop) (h : samA1_vc y q x domok ok Q) : Ct 127 [.sv (.agg [I y.fFrom, I y.fLetter, I y.fTo]), .sv (.one (.ptr 0 0)), .sv (.one (.ptr 1 0)), .sv (.one (.ptr 2 0))] [.box [I q] 3 true, .box [I x.fFrom, I x.fLetter, I x.fTo] 52 true, .box [.rd (fvR (fun (x : (Int × Int)) => [.sv (.one (I x.1)), .sv (.one (I x.2))]) (fun (r : Bool) => .sv (.one (B r))) domok ok)] 132 true] Q (fun (r : Bool) => .sv (.one (B r))) := by
  have ht := tab_ok
  refine Ct.body Try.func127 rfl rfl rfl rfl (fun c hn => ?_)
  unfold samA1_vc at h
  refine En.seq ?_
  refine En.region ?_
  refine WL.run ht hn 2 ⟨[(1, .sv (.one (.ptr 0 0))), (2, .sv (.one (.ptr 1 0))), (3, .sv (.one (.ptr 2 0))), (4, .sv (.one (.ptr 3 0)))], [.box [I q] 3 true, .box [I x.fFrom, I x.fLetter, I x.fTo] 52 true, .box [.rd (fvR (fun (x : (Int × Int)) => [.sv (.one (I x.1)), .sv (.one (I x.2))]) (fun (r : Bool) => .sv (.one (B r))) domok ok)] 132 true, .box [I y.fFrom, I y.fLetter, I y.fTo] 52 false]⟩ (by kernel_rfl) ?_
  refine WL.nil ?_
  obtain ⟨J, h, hJ⟩ := h
  refine En.seqJ (σ := Bool) (fun zz => J zz) (fun zz => ⟨[(5, .sv (.one (B zz)))], [.gone, .gone, .gone, .gone]⟩) ?_ ?_
  · refine En.region ?_
    refine WL.run ht hn 5 ⟨[(2, .sv (.one (.ptr 1 0))), (3, .sv (.one (.ptr 2 0))), (4, .sv (.one (.ptr 3 0))), (10, .sv (.one (B (y.fFrom == q))))], [.gone, .box [I x.fFrom, I x.fLetter, I x.fTo] 52 true, .box [.rd (fvR (fun (x : (Int × Int)) => [.sv (.one (I x.1)), .sv (.one (I x.2))]) (fun (r : Bool) => .sv (.one (B r))) domok ok)] 132 true, .box [I y.fFrom, I y.fLetter, I y.fTo] 52 false]⟩ (by kernel_rfl) ?_
    refine splitB (y.fFrom == q) (fun hb => ?_) (fun hb => ?_)
    · replace h := h.1 hb
      refine WL.setB 10 hb (by kernel_rfl) ?_
      refine WL.run ht hn 7 ⟨[(2, .sv (.one (.ptr 1 0))), (3, .sv (.one (.ptr 2 0))), (4, .sv (.one (.ptr 3 0))), (17, .sv (.one (B (y.fLetter == x.fLetter))))], [.gone, .box [I x.fFrom, I x.fLetter, I x.fTo] 52 true, .box [.rd (fvR (fun (x : (Int × Int)) => [.sv (.one (I x.1)), .sv (.one (I x.2))]) (fun (r : Bool) => .sv (.one (B r))) domok ok)] 132 true, .box [I y.fFrom, I y.fLetter, I y.fTo] 52 false]⟩ (by kernel_rfl) ?_
      refine splitB (y.fLetter == x.fLetter) (fun hb => ?_) (fun hb => ?_)
      · replace h := h.1 hb
        refine WL.setB 17 hb (by kernel_rfl) ?_
        refine WL.run ht hn 5 ⟨[(17, .sv (.one (B true))), (18, .sv (.one (.rd (fvR (fun (x : (Int × Int)) => [.sv (.one (I x.1)), .sv (.one (I x.2))]) (fun (r : Bool) => .sv (.one (B r))) domok ok)))), (20, .sv (.one (I x.fTo))), (22, .sv (.one (I y.fTo)))], [.gone, .gone, .gone, .gone]⟩ (by kernel_rfl) ?_
        have hp := h.1
        replace h := h.2
        refine WL.mt0 (K := []) (p := none) hn (by rfl) (mt_callv (x.fTo, y.fTo) hp rfl (by rfl) (by rfl) (by rfl) (by rfl)) (by rfl) (by rfl) (by rfl) ?_
        refine WL.run ht hn 2 ⟨[(5, .sv (.one (B (ok (x.fTo, y.fTo)))))], [.gone, .gone, .gone, .gone]⟩ (by kernel_rfl) ?_
        refine WL.nil ?_
        exact En.at (I := fun zz => J zz) (T := fun zz => ⟨[(5, .sv (.one (B zz)))], [.gone, .gone, .gone, .gone]⟩) (ok (x.fTo, y.fTo)) h (by kernel_rfl)
      · replace h := h.2 hb
        refine WL.setB 17 hb (by kernel_rfl) ?_
        refine WL.run ht hn 8 ⟨[(5, .sv (.one (B false)))], [.gone, .gone, .gone, .gone]⟩ (by kernel_rfl) ?_
        refine WL.nil ?_
        exact En.at (I := fun zz => J zz) (T := fun zz => ⟨[(5, .sv (.one (B zz)))], [.gone, .gone, .gone, .gone]⟩) false h (by kernel_rfl)
    · replace h := h.2 hb
      refine WL.setB 10 hb (by kernel_rfl) ?_
      refine WL.run ht hn 15 ⟨[(5, .sv (.one (B false)))], [.gone, .gone, .gone, .gone]⟩ (by kernel_rfl) ?_
      refine WL.nil ?_
      exact En.at (I := fun zz => J zz) (T := fun zz => ⟨[(5, .sv (.one (B zz)))], [.gone, .gone, .gone, .gone]⟩) false h (by kernel_rfl)
  · intro x5 h
    replace h := hJ _ h
    show En c ⟨[(5, .sv (.one (B x5)))], [.gone, .gone, .gone, .gone]⟩ _
    refine En.ret ?_
    exact En.back ht x5 h (by kernel_rfl) rfl
theorem en127 : ∀ args w, (callFunc 127 args).run Try.prog w = .ok (.enter 127 args) w := enters_of Try.func127 (by kernel_rfl) rfl
def ansOne (q : Int) (x : ApiArrow) (ok : Int × Int → Bool) (y : ApiArrow) : Bool := (y.fFrom == q) && ((y.fLetter == x.fLetter) && ok (x.fTo, y.fTo))
def ansDom (x : ApiArrow) (dom : Int × Int → Prop) (y : ApiArrow) : Prop := dom (x.fTo, y.fTo)
theorem samA1_ct (y : ApiArrow) (q : Int) (x : ApiArrow) (domok : ((Int × Int) → Prop)) (ok : ((Int × Int) → Bool)) (hp : ansDom x domok y)  : Ct 127 [.sv (.agg [I y.fFrom, I y.fLetter, I y.fTo]), .sv (.one (.ptr 0 0)), .sv (.one (.ptr 1 0)), .sv (.one (.ptr 2 0))] [.box [I q] 3 true, .box [I x.fFrom, I x.fLetter, I x.fTo] 52 true, .box [.rd (fvR (fun (x : (Int × Int)) => [.sv (.one (I x.1)), .sv (.one (I x.2))]) (fun (r : Bool) => .sv (.one (B r))) domok ok)] 132 true] (fun (_ : Unit) => True) (fun _ => .sv (.one (B (ansOne q x ok y)))) := by
  refine (samA1_walk y q x domok ok (fun res_ => res_ = (ansOne q x ok y)) ?_).fun
  unfold samA1_vc
  refine ⟨fun b => b = ansOne q x ok y, ⟨fun h => ⟨fun h2 => ⟨hp, ?_⟩, fun h2 => ?_⟩, fun h => ?_⟩, fun _ h => h⟩
  · show _ = _; unfold ansOne; rw [h, h2]; rfl
  · show _ = _; unfold ansOne; rw [h, h2]; rfl
  · show _ = _; unfold ansOne; rw [h]; rfl
def samAns_vc (g : ApiGraph) (p : Int) (q : Int) (domok : ((Int × Int) → Prop)) (ok : ((Int × Int) → Bool)) (Q : Bool → Prop) : Prop :=
  g.fArrows.length ≤ 9223372036854775807 →
  (∃ (Inv : Int → Prop) (mu : Int → Nat), Inv 0 ∧
  ∀ (x14 : Int) , Inv x14 → (IfP (decide (x14 < (g.fArrows.length : Int))) (∃ e, idx g.fArrows x14 = some e ∧
  ∃ J : Bool → Prop, (IfP (e.fFrom == p) ((∀ x_ ∈ g.fArrows, (ansDom e domok) x_) ∧
  J (!(g.fArrows.any (ansOne q e ok)))) (J false)) ∧
  (∀ (x28 : Bool), J x28 → IfP x28 (Q false) ((Inv (wr (x14 + 1)) ∧ mu (wr (x14 + 1)) < mu x14)))) (Q true)))
theorem samAns_walk (g : ApiGraph) (p : Int) (q : Int) (domok : ((Int × Int) → Prop)) (ok : ((Int × Int) → Bool)) (Q : Bool → Prop) (h : samAns_vc g p q domok ok Q) : Ct 58 [.sv (.agg [I g.fLetters, I g.fPlaces, LS ApiArrow.ty g.fArrows]), .sv (.one (I p)), .sv (.one (I q)), .sv (.one (.rd (fvR (fun (x : (Int × Int)) => [.sv (.one (I x.1)), .sv (.one (I x.2))]) (fun (r : Bool) => .sv (.one (B r))) domok ok)))] [] Q (fun (r : Bool) => .sv (.one (B r))) := by
  have ht := tab_ok
  refine Ct.body Try.func58 rfl rfl rfl rfl (fun c hn => ?_)
  unfold samAns_vc at h
  refine En.lenA 0 2 (by rfl) (by rfl) (fun hl => ?_)
  replace h := h hl
  clear hl
  refine En.seq ?_
  refine En.region ?_
  refine WL.run ht hn 4 ⟨[(1, .sv (.one (I p))), (4, .sv (.one (.ptr 0 0))), (6, .sv (.one (.ptr 1 0))), (7, .sv (.one (.ptr 2 0)))], [.box [I g.fLetters, I g.fPlaces, LS ApiArrow.ty g.fArrows] 48 false, .box [I q] 3 false, .box [.rd (fvR (fun (x : (Int × Int)) => [.sv (.one (I x.1)), .sv (.one (I x.2))]) (fun (r : Bool) => .sv (.one (B r))) domok ok)] 132 false]⟩ (by kernel_rfl) ?_
  refine WL.nil ?_
  refine En.seq ?_
  refine En.seq ?_
  refine En.region ?_
  refine WL.run ht hn 4 ⟨[(1, .sv (.one (I p))), (4, .sv (.one (.ptr 0 0))), (6, .sv (.one (.ptr 1 0))), (7, .sv (.one (.ptr 2 0))), (12, .sv (.one (LS ApiArrow.ty g.fArrows))), (13, .sv (.one (I (g.fArrows.length : Int)))), (14, .sv (.one (I 0)))], [.box [I g.fLetters, I g.fPlaces, LS ApiArrow.ty g.fArrows] 48 false, .box [I q] 3 false, .box [.rd (fvR (fun (x : (Int × Int)) => [.sv (.one (I x.1)), .sv (.one (I x.2))]) (fun (r : Bool) => .sv (.one (B r))) domok ok)] 132 false]⟩ (by kernel_rfl) ?_
  refine WL.nil ?_
  refine En.block ?_
  obtain ⟨Inv, mu, h0, hI⟩ := h
  refine En.loop (σ := Int) (fun zz => Inv zz) (fun zz => mu zz) (fun zz => ⟨[(1, .sv (.one (I p))), (4, .sv (.one (.ptr 0 0))), (6, .sv (.one (.ptr 1 0))), (7, .sv (.one (.ptr 2 0))), (12, .sv (.one (LS ApiArrow.ty g.fArrows))), (13, .sv (.one (I (g.fArrows.length : Int)))), (14, .sv (.one (I zz)))], [.box [I g.fLetters, I g.fPlaces, LS ApiArrow.ty g.fArrows] 48 false, .box [I q] 3 false, .box [.rd (fvR (fun (x : (Int × Int)) => [.sv (.one (I x.1)), .sv (.one (I x.2))]) (fun (r : Bool) => .sv (.one (B r))) domok ok)] 132 false]⟩) 0 h0 (sub_ok (by kernel_rfl)) ?_
  intro x14 h
  replace h := hI _ h
  show En c ⟨[(1, .sv (.one (I p))), (4, .sv (.one (.ptr 0 0))), (6, .sv (.one (.ptr 1 0))), (7, .sv (.one (.ptr 2 0))), (12, .sv (.one (LS ApiArrow.ty g.fArrows))), (13, .sv (.one (I (g.fArrows.length : Int)))), (14, .sv (.one (I x14)))], [.box [I g.fLetters, I g.fPlaces, LS ApiArrow.ty g.fArrows] 48 false, .box [I q] 3 false, .box [.rd (fvR (fun (x : (Int × Int)) => [.sv (.one (I x.1)), .sv (.one (I x.2))]) (fun (r : Bool) => .sv (.one (B r))) domok ok)] 132 false]⟩ _
  refine En.seq ?_
  refine En.region ?_
  refine WL.run ht hn 1 ⟨[(1, .sv (.one (I p))), (4, .sv (.one (.ptr 0 0))), (6, .sv (.one (.ptr 1 0))), (7, .sv (.one (.ptr 2 0))), (12, .sv (.one (LS ApiArrow.ty g.fArrows))), (13, .sv (.one (I (g.fArrows.length : Int)))), (14, .sv (.one (I x14))), (15, .sv (.one (B (decide (x14 < (g.fArrows.length : Int))))))], [.box [I g.fLetters, I g.fPlaces, LS ApiArrow.ty g.fArrows] 48 false, .box [I q] 3 false, .box [.rd (fvR (fun (x : (Int × Int)) => [.sv (.one (I x.1)), .sv (.one (I x.2))]) (fun (r : Bool) => .sv (.one (B r))) domok ok)] 132 false]⟩ (by kernel_rfl) ?_
  refine WL.nil ?_
  refine En.seq ?_
  refine En.cond (b := (decide (x14 < (g.fArrows.length : Int)))) (by kernel_rfl) (fun hb => ?_) (fun hb => ?_)
  · replace h := h.1 hb
    refine En.skip ?_
    refine En.seq ?_
    refine En.block ?_
    refine En.seq ?_
    refine En.region ?_
    obtain ⟨e, he, h⟩ := h
    refine WL.val hn (by rfl) (val_index (T := ApiArrow.ty) (l := g.fArrows) (i := x14) ht rfl (by rfl) (by rfl) (by rfl) (by rfl) (by rfl) (by rfl) he) (by rfl) ?_
    refine WL.val hn (by rfl) (val_load (s := .agg [I e.fFrom, I e.fLetter, I e.fTo]) ht rfl (by rfl) (by rfl) (by rfl) (by rfl) (by rfl)) (by rfl) ?_
    refine WL.run ht hn 2 ⟨[(1, .sv (.one (I p))), (4, .sv (.one (.ptr 0 0))), (6, .sv (.one (.ptr 1 0))), (7, .sv (.one (.ptr 2 0))), (10, .sv (.one (.ptr 3 0))), (12, .sv (.one (LS ApiArrow.ty g.fArrows))), (13, .sv (.one (I (g.fArrows.length : Int)))), (14, .sv (.one (I x14)))], [.box [I g.fLetters, I g.fPlaces, LS ApiArrow.ty g.fArrows] 48 false, .box [I q] 3 false, .box [.rd (fvR (fun (x : (Int × Int)) => [.sv (.one (I x.1)), .sv (.one (I x.2))]) (fun (r : Bool) => .sv (.one (B r))) domok ok)] 132 false, .box [I e.fFrom, I e.fLetter, I e.fTo] 52 false]⟩ (by kernel_rfl) ?_
    refine WL.nil ?_
    obtain ⟨J, h, hJ⟩ := h
    refine En.seqJ (σ := Bool) (fun zz => J zz) (fun zz => ⟨[(1, .sv (.one (I p))), (4, .sv (.one (.ptr 0 0))), (6, .sv (.one (.ptr 1 0))), (7, .sv (.one (.ptr 2 0))), (12, .sv (.one (LS ApiArrow.ty g.fArrows))), (13, .sv (.one (I (g.fArrows.length : Int)))), (14, .sv (.one (I x14))), (28, .sv (.one (B zz)))], [.box [I g.fLetters, I g.fPlaces, LS ApiArrow.ty g.fArrows] 48 false, .box [I q] 3 false, .box [.rd (fvR (fun (x : (Int × Int)) => [.sv (.one (I x.1)), .sv (.one (I x.2))]) (fun (r : Bool) => .sv (.one (B r))) domok ok)] 132 false, .gone]⟩) ?_ ?_
    · refine En.region ?_
      refine WL.run ht hn 5 ⟨[(1, .sv (.one (I p))), (4, .sv (.one (.ptr 0 0))), (6, .sv (.one (.ptr 1 0))), (7, .sv (.one (.ptr 2 0))), (10, .sv (.one (.ptr 3 0))), (12, .sv (.one (LS ApiArrow.ty g.fArrows))), (13, .sv (.one (I (g.fArrows.length : Int)))), (14, .sv (.one (I x14))), (22, .sv (.one (B (e.fFrom == p))))], [.box [I g.fLetters, I g.fPlaces, LS ApiArrow.ty g.fArrows] 48 false, .box [I q] 3 false, .box [.rd (fvR (fun (x : (Int × Int)) => [.sv (.one (I x.1)), .sv (.one (I x.2))]) (fun (r : Bool) => .sv (.one (B r))) domok ok)] 132 false, .box [I e.fFrom, I e.fLetter, I e.fTo] 52 false]⟩ (by kernel_rfl) ?_
      refine splitB (e.fFrom == p) (fun hb => ?_) (fun hb => ?_)
      · replace h := h.1 hb
        refine WL.setB 22 hb (by kernel_rfl) ?_
        refine WL.run ht hn 3 ⟨[(1, .sv (.one (I p))), (4, .sv (.one (.ptr 0 0))), (6, .sv (.one (.ptr 1 0))), (7, .sv (.one (.ptr 2 0))), (12, .sv (.one (LS ApiArrow.ty g.fArrows))), (13, .sv (.one (I (g.fArrows.length : Int)))), (14, .sv (.one (I x14))), (22, .sv (.one (B true))), (24, .sv (.one (LS ApiArrow.ty g.fArrows))), (25, .sv (.one (.fn 127 [1, 3, 2])))], [.box [I g.fLetters, I g.fPlaces, LS ApiArrow.ty g.fArrows] 48 false, .box [I q] 3 false, .box [.rd (fvR (fun (x : (Int × Int)) => [.sv (.one (I x.1)), .sv (.one (I x.2))]) (fun (r : Bool) => .sv (.one (B r))) domok ok)] 132 false, .box [I e.fFrom, I e.fLetter, I e.fTo] 52 false]⟩ (by kernel_rfl) ?_
        have hp := h.1
        replace h := h.2
        refine WL.mt0 (K := []) (p := none) hn (by rfl) (mt_lendF [1, 3, 2] (by rfl) (by rfl) (mt_ghost 25 (.sv (.one (.rd (fvR (fun (x_ : ApiArrow) => [.sv (.agg [I x_.fFrom, I x_.fLetter, I x_.fTo])]) (fun (r : Bool) => .sv (.one (B r))) (ansDom e domok) (ansOne q e ok))))) (by rfl) (fv_of (M := [.box [I q] 3 true, .box [I e.fFrom, I e.fLetter, I e.fTo] 52 true, .box [.rd (fvR (fun (x : (Int × Int)) => [.sv (.one (I x.1)), .sv (.one (I x.2))]) (fun (r : Bool) => .sv (.one (B r))) domok ok)] 132 true]) (caps := [1, 3, 2]) (fun x_ hx => samA1_ct x_ q e domok ok hx) en127 rfl (by kernel_rfl) (by rfl) (fun _ => rfl)) (mt_call (anyApiArrow_ct g.fArrows (ansDom e domok) (ansOne q e ok) hp) en119 (caps := []) [] rfl (by rfl) (by kernel_rfl) (by kernel_rfl) (by rfl) (by rfl) (by rfl)))) (by rfl) (by rfl) (by rfl) ?_
        refine WL.run ht hn 2 ⟨[(1, .sv (.one (I p))), (4, .sv (.one (.ptr 0 0))), (6, .sv (.one (.ptr 1 0))), (7, .sv (.one (.ptr 2 0))), (12, .sv (.one (LS ApiArrow.ty g.fArrows))), (13, .sv (.one (I (g.fArrows.length : Int)))), (14, .sv (.one (I x14))), (28, .sv (.one (B (!(g.fArrows.any (ansOne q e ok))))))], [.box [I g.fLetters, I g.fPlaces, LS ApiArrow.ty g.fArrows] 48 false, .box [I q] 3 false, .box [.rd (fvR (fun (x : (Int × Int)) => [.sv (.one (I x.1)), .sv (.one (I x.2))]) (fun (r : Bool) => .sv (.one (B r))) domok ok)] 132 false, .gone]⟩ (by kernel_rfl) ?_
        refine WL.nil ?_
        exact En.at (I := fun zz => J zz) (T := fun zz => ⟨[(1, .sv (.one (I p))), (4, .sv (.one (.ptr 0 0))), (6, .sv (.one (.ptr 1 0))), (7, .sv (.one (.ptr 2 0))), (12, .sv (.one (LS ApiArrow.ty g.fArrows))), (13, .sv (.one (I (g.fArrows.length : Int)))), (14, .sv (.one (I x14))), (28, .sv (.one (B zz)))], [.box [I g.fLetters, I g.fPlaces, LS ApiArrow.ty g.fArrows] 48 false, .box [I q] 3 false, .box [.rd (fvR (fun (x : (Int × Int)) => [.sv (.one (I x.1)), .sv (.one (I x.2))]) (fun (r : Bool) => .sv (.one (B r))) domok ok)] 132 false, .gone]⟩) (!(g.fArrows.any (ansOne q e ok))) h (by kernel_rfl)
      · replace h := h.2 hb
        refine WL.setB 22 hb (by kernel_rfl) ?_
        refine WL.run ht hn 6 ⟨[(1, .sv (.one (I p))), (4, .sv (.one (.ptr 0 0))), (6, .sv (.one (.ptr 1 0))), (7, .sv (.one (.ptr 2 0))), (12, .sv (.one (LS ApiArrow.ty g.fArrows))), (13, .sv (.one (I (g.fArrows.length : Int)))), (14, .sv (.one (I x14))), (28, .sv (.one (B false)))], [.box [I g.fLetters, I g.fPlaces, LS ApiArrow.ty g.fArrows] 48 false, .box [I q] 3 false, .box [.rd (fvR (fun (x : (Int × Int)) => [.sv (.one (I x.1)), .sv (.one (I x.2))]) (fun (r : Bool) => .sv (.one (B r))) domok ok)] 132 false, .gone]⟩ (by kernel_rfl) ?_
        refine WL.nil ?_
        exact En.at (I := fun zz => J zz) (T := fun zz => ⟨[(1, .sv (.one (I p))), (4, .sv (.one (.ptr 0 0))), (6, .sv (.one (.ptr 1 0))), (7, .sv (.one (.ptr 2 0))), (12, .sv (.one (LS ApiArrow.ty g.fArrows))), (13, .sv (.one (I (g.fArrows.length : Int)))), (14, .sv (.one (I x14))), (28, .sv (.one (B zz)))], [.box [I g.fLetters, I g.fPlaces, LS ApiArrow.ty g.fArrows] 48 false, .box [I q] 3 false, .box [.rd (fvR (fun (x : (Int × Int)) => [.sv (.one (I x.1)), .sv (.one (I x.2))]) (fun (r : Bool) => .sv (.one (B r))) domok ok)] 132 false, .gone]⟩) false h (by kernel_rfl)
    · intro x28 h
      replace h := hJ _ h
      show En c ⟨[(1, .sv (.one (I p))), (4, .sv (.one (.ptr 0 0))), (6, .sv (.one (.ptr 1 0))), (7, .sv (.one (.ptr 2 0))), (12, .sv (.one (LS ApiArrow.ty g.fArrows))), (13, .sv (.one (I (g.fArrows.length : Int)))), (14, .sv (.one (I x14))), (28, .sv (.one (B x28)))], [.box [I g.fLetters, I g.fPlaces, LS ApiArrow.ty g.fArrows] 48 false, .box [I q] 3 false, .box [.rd (fvR (fun (x : (Int × Int)) => [.sv (.one (I x.1)), .sv (.one (I x.2))]) (fun (r : Bool) => .sv (.one (B r))) domok ok)] 132 false, .gone]⟩ _
      refine En.cond (b := x28) (by kernel_rfl) (fun hb => ?_) (fun hb => ?_)
      · replace h := h.1 hb
        refine En.seq ?_
        refine En.region ?_
        refine WL.run ht hn 1 ⟨[(8, .sv (.one (B false)))], [.gone, .gone, .gone, .gone]⟩ (by kernel_rfl) ?_
        refine WL.nil ?_
        refine En.ret ?_
        exact En.back ht false h (by kernel_rfl) rfl
      · replace h := h.2 hb
        refine En.skip ?_
        refine En.region ?_
        refine WL.run ht hn 2 ⟨[(1, .sv (.one (I p))), (4, .sv (.one (.ptr 0 0))), (6, .sv (.one (.ptr 1 0))), (7, .sv (.one (.ptr 2 0))), (12, .sv (.one (LS ApiArrow.ty g.fArrows))), (13, .sv (.one (I (g.fArrows.length : Int)))), (14, .sv (.one (I (wr (x14 + 1)))))], [.box [I g.fLetters, I g.fPlaces, LS ApiArrow.ty g.fArrows] 48 false, .box [I q] 3 false, .box [.rd (fvR (fun (x : (Int × Int)) => [.sv (.one (I x.1)), .sv (.one (I x.2))]) (fun (r : Bool) => .sv (.one (B r))) domok ok)] 132 false, .gone]⟩ (by kernel_rfl) ?_
        refine WL.nil ?_
        exact En.at (I := fun zz => Inv zz ∧ mu zz < mu x14) (T := fun zz => ⟨[(1, .sv (.one (I p))), (4, .sv (.one (.ptr 0 0))), (6, .sv (.one (.ptr 1 0))), (7, .sv (.one (.ptr 2 0))), (12, .sv (.one (LS ApiArrow.ty g.fArrows))), (13, .sv (.one (I (g.fArrows.length : Int)))), (14, .sv (.one (I zz)))], [.box [I g.fLetters, I g.fPlaces, LS ApiArrow.ty g.fArrows] 48 false, .box [I q] 3 false, .box [.rd (fvR (fun (x : (Int × Int)) => [.sv (.one (I x.1)), .sv (.one (I x.2))]) (fun (r : Bool) => .sv (.one (B r))) domok ok)] 132 false]⟩) (wr (x14 + 1)) h (by kernel_rfl)
  · replace h := h.2 hb
    refine En.exit rfl ?_
    refine En.seq ?_
    refine En.region ?_
    refine WL.run ht hn 1 ⟨[(8, .sv (.one (B true)))], [.gone, .gone, .gone]⟩ (by kernel_rfl) ?_
    refine WL.nil ?_
    refine En.ret ?_
    exact En.back ht true h (by kernel_rfl) rfl
theorem en58 : ∀ args w, (callFunc 58 args).run Try.prog w = .ok (.enter 58 args) w := enters_of Try.func58 (by kernel_rfl) rfl
def ansB (g : ApiGraph) (p q : Int) (ok : Int × Int → Bool) : Bool := g.fArrows.all fun x => !(x.fFrom == p && !(g.fArrows.any (ansOne q x ok)))
def ansPre (g : ApiGraph) (dom : Int × Int → Prop) : Prop := ∀ x ∈ g.fArrows, ∀ y ∈ g.fArrows, dom (x.fTo, y.fTo)
theorem samAns_ct (g : ApiGraph) (p : Int) (q : Int) (domok : ((Int × Int) → Prop)) (ok : ((Int × Int) → Bool)) (hp : ansPre g domok)  : Ct 58 [.sv (.agg [I g.fLetters, I g.fPlaces, LS ApiArrow.ty g.fArrows]), .sv (.one (I p)), .sv (.one (I q)), .sv (.one (.rd (fvR (fun (x : (Int × Int)) => [.sv (.one (I x.1)), .sv (.one (I x.2))]) (fun (r : Bool) => .sv (.one (B r))) domok ok)))] [] (fun (_ : Unit) => True) (fun _ => .sv (.one (B (ansB g p q ok)))) := by
  refine (samAns_walk g p q domok ok (fun res_ => res_ = (ansB g p q ok)) ?_).fun
  unfold samAns_vc
  intro _
  refine ⟨fun i => ∃ k : Nat, i = k ∧ k ≤ g.fArrows.length ∧ ansB g p q ok = (g.fArrows.drop k).all fun x => !(x.fFrom == p && !(g.fArrows.any (ansOne q x ok))), fun i => g.fArrows.length - i.toNat, ⟨0, rfl, Nat.zero_le _, rfl⟩, ?_⟩
  rintro i ⟨k, rfl, hk, he⟩
  refine ⟨fun hb => ?_, fun hb => ?_⟩
  · have hlt := dlt hb
    rw [List.drop_eq_getElem_cons hlt, List.all_cons] at he
    refine ⟨_, idx_at hlt, fun b => b = (g.fArrows[k].fFrom == p && !(g.fArrows.any (ansOne q g.fArrows[k] ok))), ⟨fun h => ⟨fun y hy => hp _ (List.getElem_mem hlt) y hy, ?_⟩, fun h => ?_⟩, ?_⟩
    · show _ = _; rw [h]; rfl
    · show _ = _; rw [h]; rfl
    · rintro b rfl
      refine ⟨fun h => ?_, fun h => ⟨⟨k + 1, wsucc (by omega), hlt, ?_⟩, mu_up hlt (by omega)⟩⟩
      · rw [h] at he
        exact he.symm
      · rw [h] at he
        exact he
  · rw [List.drop_eq_nil_of_le (dge hb)] at he
    exact he.symm
def samR1_vc (a : Int) (b : Int) (cl : (List Int)) (Q : Bool → Prop) : Prop :=
  ∃ e, idx cl a = some e ∧
  ∃ e_2, idx cl b = some e_2 ∧
  Q (e == e_2)
theorem samR1_walk (a : Int) (b : Int) (cl : (List Int)) (Q : Bool → Prop) (h : samR1_vc a b cl Q) : Ct 122 [.sv (.one (I a)), .sv (.one (I b)), .sv (.one (.ptr 0 0))] [.box [LS intT cl] 23 true] Q (fun (r : Bool) => .sv (.one (B r))) := by
  have ht := tab_ok
  refine Ct.body Try.func122 rfl rfl rfl rfl (fun c hn => ?_)
  unfold samR1_vc at h
  refine En.seq ?_
  refine En.region ?_
  refine WL.run ht hn 1 ⟨[(0, .sv (.one (I a))), (1, .sv (.one (I b))), (2, .sv (.one (.ptr 0 0)))], [.box [LS intT cl] 23 true]⟩ (by kernel_rfl) ?_
  refine WL.nil ?_
  refine En.seq ?_
  refine En.regionS (by kernel_rfl) (by kernel_rfl) ?_
  refine SL.run ht hn 2 ⟨[(0, .sv (.one (I a))), (1, .sv (.one (I b))), (2, .sv (.one (.ptr 0 0))), (6, .sv (.one (LS intT cl))), (7, .sv (.one (I a)))], [.box [LS intT cl] 23 true]⟩ (by kernel_rfl) ?_
  obtain ⟨e, he, h⟩ := h
  refine SL.val hn (by rfl) (val_index (T := intT) (l := cl) (i := a) ht rfl (by rfl) (by rfl) (by rfl) (by rfl) (by rfl) (by rfl) he) (by rfl) ?_
  refine SL.val hn (by rfl) (val_load (s := .one (I e)) ht rfl (by rfl) (by rfl) (by rfl) (by rfl) (by rfl)) (by rfl) ?_
  refine SL.run ht hn 2 ⟨[(0, .sv (.one (I a))), (1, .sv (.one (I b))), (2, .sv (.one (.ptr 0 0))), (6, .sv (.one (LS intT cl))), (7, .sv (.one (I a))), (8, .sv (.one (.pe (svR (.one (I e))) 1))), (9, .sv (.one (I e))), (10, .sv (.one (LS intT cl))), (11, .sv (.one (I b)))], [.box [LS intT cl] 23 true]⟩ (by kernel_rfl) ?_
  obtain ⟨e_2, he_2, h⟩ := h
  refine SL.val hn (by rfl) (val_index (T := intT) (l := cl) (i := b) ht rfl (by rfl) (by rfl) (by rfl) (by rfl) (by rfl) (by rfl) he_2) (by rfl) ?_
  refine SL.val hn (by rfl) (val_load (s := .one (I e_2)) ht rfl (by rfl) (by rfl) (by rfl) (by rfl) (by rfl)) (by rfl) ?_
  refine SL.run ht hn 2 ⟨[(0, .sv (.one (I a))), (1, .sv (.one (I b))), (2, .sv (.one (.ptr 0 0))), (5, .sv (.one (B (e == e_2)))), (6, .sv (.one (LS intT cl))), (7, .sv (.one (I a))), (8, .sv (.one (.pe (svR (.one (I e))) 1))), (9, .sv (.one (I e))), (10, .sv (.one (LS intT cl))), (11, .sv (.one (I b))), (12, .sv (.one (.pe (svR (.one (I e_2))) 1))), (13, .sv (.one (I e_2))), (14, .sv (.one (B (e == e_2))))], [.box [LS intT cl] 23 true]⟩ (by kernel_rfl) ?_
  refine SL.nil ⟨by kernel_rfl, ?_⟩
  refine En.ret ?_
  exact En.back ht (e == e_2) h (by kernel_rfl) rfl
theorem en122 : ∀ args w, (callFunc 122 args).run Try.prog w = .ok (.enter 122 args) w := enters_of Try.func122 (by kernel_rfl) rfl
def alikeC (c : List Int) (y : Int × Int) : Bool := c.getD y.1.toNat 0 == c.getD y.2.toNat 0
def inC (c : List Int) (y : Int × Int) : Prop := (0 ≤ y.1 ∧ y.1 < c.length) ∧ (0 ≤ y.2 ∧ y.2 < c.length)
theorem samR1_ct (a : Int) (b : Int) (cl : (List Int)) (hp : inC cl (a, b))  : Ct 122 [.sv (.one (I a)), .sv (.one (I b)), .sv (.one (.ptr 0 0))] [.box [LS intT cl] 23 true] (fun (_ : Unit) => True) (fun _ => .sv (.one (B (alikeC cl (a, b))))) := by
  refine (samR1_walk a b cl (fun res_ => res_ = (alikeC cl (a, b))) ?_).fun
  unfold samR1_vc
  exact ⟨_, idx_of 0 hp.1.1 hp.1.2, _, idx_of 0 hp.2.1 hp.2.2, rfl⟩
def samR2_vc (q : Int) (cl : (List Int)) (p : Int) (g : ApiGraph) (domal : ((Int × Int) → Prop)) (al : ((Int × Int) → Bool)) (Q : Bool → Prop) : Prop :=
  ∃ J : Bool → Prop, (∃ e, idx cl p = some e ∧
  ∃ e_2, idx cl q = some e_2 ∧
  IfP (e == e_2) ((ansPre g domal) ∧
  IfP (ansB g p q al) ((ansPre g domal) ∧
  J (ansB g q p al)) (J false)) (J false)) ∧
  (∀ (x6 : Bool), J x6 → Q x6)
theorem samR2_walk (q : Int) (cl : (List Int)) (p : Int) (g : ApiGraph) (domal : ((Int × Int) → Prop)) (al : ((Int × Int) → Bool)) (Q : Bool → Prop) (h : samR2_vc q cl p g domal al Q) : Ct 124 [.sv (.one (I q)), .sv (.one (.ptr 0 0)), .sv (.one (.ptr 1 0)), .sv (.one (.ptr 2 0)), .sv (.one (.ptr 3 0))] [.box [LS intT cl] 23 true, .box [I p] 3 true, .box [I g.fLetters, I g.fPlaces, LS ApiArrow.ty g.fArrows] 48 true, .box [.rd (fvR (fun (x : (Int × Int)) => [.sv (.one (I x.1)), .sv (.one (I x.2))]) (fun (r : Bool) => .sv (.one (B r))) domal al)] 132 true] Q (fun (r : Bool) => .sv (.one (B r))) := by
  have ht := tab_ok
  refine Ct.body Try.func124 rfl rfl rfl rfl (fun c hn => ?_)
  unfold samR2_vc at h
  refine En.seq ?_
  refine En.region ?_
  refine WL.run ht hn 1 ⟨[(0, .sv (.one (I q))), (1, .sv (.one (.ptr 0 0))), (2, .sv (.one (.ptr 1 0))), (3, .sv (.one (.ptr 2 0))), (4, .sv (.one (.ptr 3 0)))], [.box [LS intT cl] 23 true, .box [I p] 3 true, .box [I g.fLetters, I g.fPlaces, LS ApiArrow.ty g.fArrows] 48 true, .box [.rd (fvR (fun (x : (Int × Int)) => [.sv (.one (I x.1)), .sv (.one (I x.2))]) (fun (r : Bool) => .sv (.one (B r))) domal al)] 132 true]⟩ (by kernel_rfl) ?_
  refine WL.nil ?_
  obtain ⟨J, h, hJ⟩ := h
  refine En.seqJ (σ := Bool) (fun zz => J zz) (fun zz => ⟨[(6, .sv (.one (B zz)))], [.gone, .gone, .gone, .gone]⟩) ?_ ?_
  · obtain ⟨e, he, h⟩ := h
    obtain ⟨e_2, he_2, h⟩ := h
    refine splitB (e == e_2) (fun hb_2 => ?_) (fun hb_2 => ?_)
    · replace h := h.1 hb_2
      have hp_2 := h.1
      replace h := h.2
      refine splitB (ansB g p q al) (fun hb_3 => ?_) (fun hb_3 => ?_)
      · replace h := h.1 hb_3
        have hp_4 := h.1
        replace h := h.2
        refine En.regionA ⟨[(0, .sv (.one (I q))), (1, .sv (.one (.ptr 0 0))), (2, .sv (.one (.ptr 1 0))), (3, .sv (.one (.ptr 2 0))), (4, .sv (.one (.ptr 3 0)))], [.sv (.one (LS intT cl)), .sv (.one (I p)), .sv (.one (.pe (svR (.one (I e))) 1)), .sv (.one (I e)), .sv (.one (LS intT cl)), .sv (.one (I q)), .sv (.one (.pe (svR (.one (I e_2))) 1)), .sv (.one (I e_2)), .sv (.one (B true)), .sv (.one (B true)), .sv (.agg [I g.fLetters, I g.fPlaces, LS ApiArrow.ty g.fArrows]), .sv (.one (I p)), .sv (.one (I q)), .sv (.one (.rd (fvR (fun (x : (Int × Int)) => [.sv (.one (I x.1)), .sv (.one (I x.2))]) (fun (r : Bool) => .sv (.one (B r))) domal al))), .sv (.one (B true)), .sv (.one (B true)), .sv (.one (B true)), .sv (.agg [I g.fLetters, I g.fPlaces, LS ApiArrow.ty g.fArrows]), .sv (.one (I q)), .sv (.one (I p)), .sv (.one (.rd (fvR (fun (x : (Int × Int)) => [.sv (.one (I x.1)), .sv (.one (I x.2))]) (fun (r : Bool) => .sv (.one (B r))) domal al))), .sv (.one (B (ansB g q p al))), .sv (.one (B (ansB g q p al))), .sv (.one (B (ansB g q p al)))], [⟨.box [LS intT cl] 23 true, none, none, none⟩, ⟨.box [I p] 3 true, none, none, none⟩, ⟨.box [I g.fLetters, I g.fPlaces, LS ApiArrow.ty g.fArrows] 48 true, none, none, none⟩, ⟨.box [.rd (fvR (fun (x : (Int × Int)) => [.sv (.one (I x.1)), .sv (.one (I x.2))]) (fun (r : Bool) => .sv (.one (B r))) domal al)] 132 true, none, none, none⟩]⟩ ⟨[(6, .sv (.one (B (ansB g q p al))))], [.gone, .gone, .gone, .gone]⟩ (by kernel_rfl) hn (by kernel_rfl) (by rfl) (by kernel_rfl) ?_ (by kernel_rfl) ?_
        · exact ⟨.mt ⟨[(1, .sv (.one (.ptr 0 0)))], [.box [LS intT cl] 23 true]⟩ [] none (by kernel_rfl) (by rfl) (mt_ev ht (by kernel_rfl)) rfl rfl rfl rfl,
    .mt ⟨[(2, .sv (.one (.ptr 1 0)))], [.gone, .box [I p] 3 true]⟩ [] none (by kernel_rfl) (by rfl) (mt_ev ht (by kernel_rfl)) rfl rfl rfl rfl,
    .mt ⟨[(7, .sv (.one (LS intT cl))), (8, .sv (.one (I p)))], []⟩ [] none (by kernel_rfl) (by rfl) (mt_val (val_index (T := intT) (l := cl) (i := p) ht rfl (by rfl) (by rfl) (by rfl) (by rfl) (by rfl) (by rfl) he)) rfl rfl rfl rfl,
    .mt ⟨[(9, .sv (.one (.pe (svR (.one (I e))) 1)))], []⟩ [] none (by kernel_rfl) (by rfl) (mt_val (val_load (s := .one (I e)) ht rfl (by rfl) (by rfl) (by rfl) (by rfl) (by rfl))) rfl rfl rfl rfl,
    .mt ⟨[(1, .sv (.one (.ptr 0 0)))], [.box [LS intT cl] 23 true]⟩ [] none (by kernel_rfl) (by rfl) (mt_ev ht (by kernel_rfl)) rfl rfl rfl rfl,
    .mt ⟨[(0, .sv (.one (I q)))], []⟩ [] none (by kernel_rfl) (by rfl) (mt_ev ht (by kernel_rfl)) rfl rfl rfl rfl,
    .mt ⟨[(11, .sv (.one (LS intT cl))), (12, .sv (.one (I q)))], []⟩ [] none (by kernel_rfl) (by rfl) (mt_val (val_index (T := intT) (l := cl) (i := q) ht rfl (by rfl) (by rfl) (by rfl) (by rfl) (by rfl) (by rfl) he_2)) rfl rfl rfl rfl,
    .mt ⟨[(13, .sv (.one (.pe (svR (.one (I e_2))) 1)))], []⟩ [] none (by kernel_rfl) (by rfl) (mt_val (val_load (s := .one (I e_2)) ht rfl (by rfl) (by rfl) (by rfl) (by rfl) (by rfl))) rfl rfl rfl rfl,
    .mt ⟨[(10, .sv (.one (I e))), (14, .sv (.one (I e_2)))], []⟩ [] none (by kernel_rfl) (by rfl) (mt_castB hb_2 (mt_ev ht (by kernel_rfl))) rfl rfl rfl rfl,
    .mt ⟨[(15, .sv (.one (B true)))], []⟩ [] none (by kernel_rfl) (by rfl) (mt_ev ht (by kernel_rfl)) rfl rfl rfl rfl,
    .mt ⟨[(3, .sv (.one (.ptr 2 0))), (16, .sv (.one (B true)))], [.gone, .gone, .box [I g.fLetters, I g.fPlaces, LS ApiArrow.ty g.fArrows] 48 true]⟩ [] none (by kernel_rfl) (by rfl) (mt_ev ht (by kernel_rfl)) rfl rfl rfl rfl,
    .mt ⟨[(2, .sv (.one (.ptr 1 0))), (16, .sv (.one (B true)))], [.gone, .box [I p] 3 true]⟩ [] none (by kernel_rfl) (by rfl) (mt_ev ht (by kernel_rfl)) rfl rfl rfl rfl,
    .mt ⟨[(0, .sv (.one (I q))), (16, .sv (.one (B true)))], []⟩ [] none (by kernel_rfl) (by rfl) (mt_ev ht (by kernel_rfl)) rfl rfl rfl rfl,
    .mt ⟨[(4, .sv (.one (.ptr 3 0))), (16, .sv (.one (B true)))], [.gone, .gone, .gone, .box [.rd (fvR (fun (x : (Int × Int)) => [.sv (.one (I x.1)), .sv (.one (I x.2))]) (fun (r : Bool) => .sv (.one (B r))) domal al)] 132 true]⟩ [] none (by kernel_rfl) (by rfl) (mt_ev ht (by kernel_rfl)) rfl rfl rfl rfl,
    .mt ⟨[(16, .sv (.one (B true))), (17, .sv (.agg [I g.fLetters, I g.fPlaces, LS ApiArrow.ty g.fArrows])), (18, .sv (.one (I p))), (19, .sv (.one (I q))), (20, .sv (.one (.rd (fvR (fun (x : (Int × Int)) => [.sv (.one (I x.1)), .sv (.one (I x.2))]) (fun (r : Bool) => .sv (.one (B r))) domal al))))], []⟩ [] none (by kernel_rfl) (by rfl) (mt_castB hb_3 (mt_call (samAns_ct g p q domal al hp_2) en58 (caps := []) [] rfl (by rfl) (by kernel_rfl) (by kernel_rfl) (by rfl) (by rfl) (by rfl))) rfl rfl rfl rfl,
    .mt ⟨[(16, .sv (.one (B true))), (21, .sv (.one (B true)))], []⟩ [] none (by kernel_rfl) (by rfl) (mt_ev ht (by kernel_rfl)) rfl rfl rfl rfl,
    .mt ⟨[(22, .sv (.one (B true)))], []⟩ [] none (by kernel_rfl) (by rfl) (mt_ev ht (by kernel_rfl)) rfl rfl rfl rfl,
    .mt ⟨[(3, .sv (.one (.ptr 2 0))), (23, .sv (.one (B true)))], [.gone, .gone, .box [I g.fLetters, I g.fPlaces, LS ApiArrow.ty g.fArrows] 48 true]⟩ [] none (by kernel_rfl) (by rfl) (mt_ev ht (by kernel_rfl)) rfl rfl rfl rfl,
    .mt ⟨[(0, .sv (.one (I q))), (23, .sv (.one (B true)))], []⟩ [] none (by kernel_rfl) (by rfl) (mt_ev ht (by kernel_rfl)) rfl rfl rfl rfl,
    .mt ⟨[(2, .sv (.one (.ptr 1 0))), (23, .sv (.one (B true)))], [.gone, .box [I p] 3 true]⟩ [] none (by kernel_rfl) (by rfl) (mt_ev ht (by kernel_rfl)) rfl rfl rfl rfl,
    .mt ⟨[(4, .sv (.one (.ptr 3 0))), (23, .sv (.one (B true)))], [.gone, .gone, .gone, .box [.rd (fvR (fun (x : (Int × Int)) => [.sv (.one (I x.1)), .sv (.one (I x.2))]) (fun (r : Bool) => .sv (.one (B r))) domal al)] 132 true]⟩ [] none (by kernel_rfl) (by rfl) (mt_ev ht (by kernel_rfl)) rfl rfl rfl rfl,
    .mt ⟨[(23, .sv (.one (B true))), (24, .sv (.agg [I g.fLetters, I g.fPlaces, LS ApiArrow.ty g.fArrows])), (25, .sv (.one (I q))), (26, .sv (.one (I p))), (27, .sv (.one (.rd (fvR (fun (x : (Int × Int)) => [.sv (.one (I x.1)), .sv (.one (I x.2))]) (fun (r : Bool) => .sv (.one (B r))) domal al))))], []⟩ [] none (by kernel_rfl) (by rfl) (mt_call (samAns_ct g q p domal al hp_4) en58 (caps := []) [] rfl (by rfl) (by kernel_rfl) (by kernel_rfl) (by rfl) (by rfl) (by rfl)) rfl rfl rfl rfl,
    .mt ⟨[(23, .sv (.one (B true))), (28, .sv (.one (B (ansB g q p al))))], []⟩ [] none (by kernel_rfl) (by rfl) (mt_ev ht (by kernel_rfl)) rfl rfl rfl rfl,
    .mt ⟨[(29, .sv (.one (B (ansB g q p al))))], []⟩ [] none (by kernel_rfl) (by rfl) (mt_ev ht (by kernel_rfl)) rfl rfl rfl rfl,
    trivial⟩
        · exact En.at (I := fun zz => J zz) (T := fun zz => ⟨[(6, .sv (.one (B zz)))], [.gone, .gone, .gone, .gone]⟩) (ansB g q p al) h (by kernel_rfl)
      · replace h := h.2 hb_3
        refine En.regionA ⟨[(0, .sv (.one (I q))), (1, .sv (.one (.ptr 0 0))), (2, .sv (.one (.ptr 1 0))), (3, .sv (.one (.ptr 2 0))), (4, .sv (.one (.ptr 3 0)))], [.sv (.one (LS intT cl)), .sv (.one (I p)), .sv (.one (.pe (svR (.one (I e))) 1)), .sv (.one (I e)), .sv (.one (LS intT cl)), .sv (.one (I q)), .sv (.one (.pe (svR (.one (I e_2))) 1)), .sv (.one (I e_2)), .sv (.one (B true)), .sv (.one (B true)), .sv (.agg [I g.fLetters, I g.fPlaces, LS ApiArrow.ty g.fArrows]), .sv (.one (I p)), .sv (.one (I q)), .sv (.one (.rd (fvR (fun (x : (Int × Int)) => [.sv (.one (I x.1)), .sv (.one (I x.2))]) (fun (r : Bool) => .sv (.one (B r))) domal al))), .sv (.one (B false)), .sv (.one (B false)), .sv (.one (B false)), .tup [], .tup [], .tup [], .tup [], .tup [], .sv (.one (B false)), .sv (.one (B false))], [⟨.box [LS intT cl] 23 true, none, none, none⟩, ⟨.box [I p] 3 true, none, none, none⟩, ⟨.box [I g.fLetters, I g.fPlaces, LS ApiArrow.ty g.fArrows] 48 true, none, none, none⟩, ⟨.box [.rd (fvR (fun (x : (Int × Int)) => [.sv (.one (I x.1)), .sv (.one (I x.2))]) (fun (r : Bool) => .sv (.one (B r))) domal al)] 132 true, none, none, none⟩]⟩ ⟨[(6, .sv (.one (B false)))], [.gone, .gone, .gone, .gone]⟩ (by kernel_rfl) hn (by kernel_rfl) (by rfl) (by kernel_rfl) ?_ (by kernel_rfl) ?_
        · exact ⟨.mt ⟨[(1, .sv (.one (.ptr 0 0)))], [.box [LS intT cl] 23 true]⟩ [] none (by kernel_rfl) (by rfl) (mt_ev ht (by kernel_rfl)) rfl rfl rfl rfl,
    .mt ⟨[(2, .sv (.one (.ptr 1 0)))], [.gone, .box [I p] 3 true]⟩ [] none (by kernel_rfl) (by rfl) (mt_ev ht (by kernel_rfl)) rfl rfl rfl rfl,
    .mt ⟨[(7, .sv (.one (LS intT cl))), (8, .sv (.one (I p)))], []⟩ [] none (by kernel_rfl) (by rfl) (mt_val (val_index (T := intT) (l := cl) (i := p) ht rfl (by rfl) (by rfl) (by rfl) (by rfl) (by rfl) (by rfl) he)) rfl rfl rfl rfl,
    .mt ⟨[(9, .sv (.one (.pe (svR (.one (I e))) 1)))], []⟩ [] none (by kernel_rfl) (by rfl) (mt_val (val_load (s := .one (I e)) ht rfl (by rfl) (by rfl) (by rfl) (by rfl) (by rfl))) rfl rfl rfl rfl,
    .mt ⟨[(1, .sv (.one (.ptr 0 0)))], [.box [LS intT cl] 23 true]⟩ [] none (by kernel_rfl) (by rfl) (mt_ev ht (by kernel_rfl)) rfl rfl rfl rfl,
    .mt ⟨[(0, .sv (.one (I q)))], []⟩ [] none (by kernel_rfl) (by rfl) (mt_ev ht (by kernel_rfl)) rfl rfl rfl rfl,
    .mt ⟨[(11, .sv (.one (LS intT cl))), (12, .sv (.one (I q)))], []⟩ [] none (by kernel_rfl) (by rfl) (mt_val (val_index (T := intT) (l := cl) (i := q) ht rfl (by rfl) (by rfl) (by rfl) (by rfl) (by rfl) (by rfl) he_2)) rfl rfl rfl rfl,
    .mt ⟨[(13, .sv (.one (.pe (svR (.one (I e_2))) 1)))], []⟩ [] none (by kernel_rfl) (by rfl) (mt_val (val_load (s := .one (I e_2)) ht rfl (by rfl) (by rfl) (by rfl) (by rfl) (by rfl))) rfl rfl rfl rfl,
    .mt ⟨[(10, .sv (.one (I e))), (14, .sv (.one (I e_2)))], []⟩ [] none (by kernel_rfl) (by rfl) (mt_castB hb_2 (mt_ev ht (by kernel_rfl))) rfl rfl rfl rfl,
    .mt ⟨[(15, .sv (.one (B true)))], []⟩ [] none (by kernel_rfl) (by rfl) (mt_ev ht (by kernel_rfl)) rfl rfl rfl rfl,
    .mt ⟨[(3, .sv (.one (.ptr 2 0))), (16, .sv (.one (B true)))], [.gone, .gone, .box [I g.fLetters, I g.fPlaces, LS ApiArrow.ty g.fArrows] 48 true]⟩ [] none (by kernel_rfl) (by rfl) (mt_ev ht (by kernel_rfl)) rfl rfl rfl rfl,
    .mt ⟨[(2, .sv (.one (.ptr 1 0))), (16, .sv (.one (B true)))], [.gone, .box [I p] 3 true]⟩ [] none (by kernel_rfl) (by rfl) (mt_ev ht (by kernel_rfl)) rfl rfl rfl rfl,
    .mt ⟨[(0, .sv (.one (I q))), (16, .sv (.one (B true)))], []⟩ [] none (by kernel_rfl) (by rfl) (mt_ev ht (by kernel_rfl)) rfl rfl rfl rfl,
    .mt ⟨[(4, .sv (.one (.ptr 3 0))), (16, .sv (.one (B true)))], [.gone, .gone, .gone, .box [.rd (fvR (fun (x : (Int × Int)) => [.sv (.one (I x.1)), .sv (.one (I x.2))]) (fun (r : Bool) => .sv (.one (B r))) domal al)] 132 true]⟩ [] none (by kernel_rfl) (by rfl) (mt_ev ht (by kernel_rfl)) rfl rfl rfl rfl,
    .mt ⟨[(16, .sv (.one (B true))), (17, .sv (.agg [I g.fLetters, I g.fPlaces, LS ApiArrow.ty g.fArrows])), (18, .sv (.one (I p))), (19, .sv (.one (I q))), (20, .sv (.one (.rd (fvR (fun (x : (Int × Int)) => [.sv (.one (I x.1)), .sv (.one (I x.2))]) (fun (r : Bool) => .sv (.one (B r))) domal al))))], []⟩ [] none (by kernel_rfl) (by rfl) (mt_castB hb_3 (mt_call (samAns_ct g p q domal al hp_2) en58 (caps := []) [] rfl (by rfl) (by kernel_rfl) (by kernel_rfl) (by rfl) (by rfl) (by rfl))) rfl rfl rfl rfl,
    .mt ⟨[(16, .sv (.one (B true))), (21, .sv (.one (B false)))], []⟩ [] none (by kernel_rfl) (by rfl) (mt_ev ht (by kernel_rfl)) rfl rfl rfl rfl,
    .mt ⟨[(22, .sv (.one (B false)))], []⟩ [] none (by kernel_rfl) (by rfl) (mt_ev ht (by kernel_rfl)) rfl rfl rfl rfl,
    .skip ⟨[(23, .sv (.one (B false)))], []⟩ (by kernel_rfl) (by rfl) rfl rfl rfl rfl,
    .skip ⟨[(23, .sv (.one (B false)))], []⟩ (by kernel_rfl) (by rfl) rfl rfl rfl rfl,
    .skip ⟨[(23, .sv (.one (B false)))], []⟩ (by kernel_rfl) (by rfl) rfl rfl rfl rfl,
    .skip ⟨[(23, .sv (.one (B false)))], []⟩ (by kernel_rfl) (by rfl) rfl rfl rfl rfl,
    .skip ⟨[(23, .sv (.one (B false)))], []⟩ (by kernel_rfl) (by rfl) rfl rfl rfl rfl,
    .mt ⟨[(23, .sv (.one (B false))), (28, .tup [])], []⟩ [] none (by kernel_rfl) (by rfl) (mt_ev ht (by kernel_rfl)) rfl rfl rfl rfl,
    .mt ⟨[(29, .sv (.one (B false)))], []⟩ [] none (by kernel_rfl) (by rfl) (mt_ev ht (by kernel_rfl)) rfl rfl rfl rfl,
    trivial⟩
        · exact En.at (I := fun zz => J zz) (T := fun zz => ⟨[(6, .sv (.one (B zz)))], [.gone, .gone, .gone, .gone]⟩) false h (by kernel_rfl)
    · replace h := h.2 hb_2
      refine En.regionA ⟨[(0, .sv (.one (I q))), (1, .sv (.one (.ptr 0 0))), (2, .sv (.one (.ptr 1 0))), (3, .sv (.one (.ptr 2 0))), (4, .sv (.one (.ptr 3 0)))], [.sv (.one (LS intT cl)), .sv (.one (I p)), .sv (.one (.pe (svR (.one (I e))) 1)), .sv (.one (I e)), .sv (.one (LS intT cl)), .sv (.one (I q)), .sv (.one (.pe (svR (.one (I e_2))) 1)), .sv (.one (I e_2)), .sv (.one (B false)), .sv (.one (B false)), .tup [], .tup [], .tup [], .tup [], .tup [], .sv (.one (B false)), .sv (.one (B false)), .tup [], .tup [], .tup [], .tup [], .tup [], .sv (.one (B false)), .sv (.one (B false))], [⟨.box [LS intT cl] 23 true, none, none, none⟩, ⟨.box [I p] 3 true, none, none, none⟩, ⟨.box [I g.fLetters, I g.fPlaces, LS ApiArrow.ty g.fArrows] 48 true, none, none, none⟩, ⟨.box [.rd (fvR (fun (x : (Int × Int)) => [.sv (.one (I x.1)), .sv (.one (I x.2))]) (fun (r : Bool) => .sv (.one (B r))) domal al)] 132 true, none, none, none⟩]⟩ ⟨[(6, .sv (.one (B false)))], [.gone, .gone, .gone, .gone]⟩ (by kernel_rfl) hn (by kernel_rfl) (by rfl) (by kernel_rfl) ?_ (by kernel_rfl) ?_
      · exact ⟨.mt ⟨[(1, .sv (.one (.ptr 0 0)))], [.box [LS intT cl] 23 true]⟩ [] none (by kernel_rfl) (by rfl) (mt_ev ht (by kernel_rfl)) rfl rfl rfl rfl,
    .mt ⟨[(2, .sv (.one (.ptr 1 0)))], [.gone, .box [I p] 3 true]⟩ [] none (by kernel_rfl) (by rfl) (mt_ev ht (by kernel_rfl)) rfl rfl rfl rfl,
    .mt ⟨[(7, .sv (.one (LS intT cl))), (8, .sv (.one (I p)))], []⟩ [] none (by kernel_rfl) (by rfl) (mt_val (val_index (T := intT) (l := cl) (i := p) ht rfl (by rfl) (by rfl) (by rfl) (by rfl) (by rfl) (by rfl) he)) rfl rfl rfl rfl,
    .mt ⟨[(9, .sv (.one (.pe (svR (.one (I e))) 1)))], []⟩ [] none (by kernel_rfl) (by rfl) (mt_val (val_load (s := .one (I e)) ht rfl (by rfl) (by rfl) (by rfl) (by rfl) (by rfl))) rfl rfl rfl rfl,
    .mt ⟨[(1, .sv (.one (.ptr 0 0)))], [.box [LS intT cl] 23 true]⟩ [] none (by kernel_rfl) (by rfl) (mt_ev ht (by kernel_rfl)) rfl rfl rfl rfl,
    .mt ⟨[(0, .sv (.one (I q)))], []⟩ [] none (by kernel_rfl) (by rfl) (mt_ev ht (by kernel_rfl)) rfl rfl rfl rfl,
    .mt ⟨[(11, .sv (.one (LS intT cl))), (12, .sv (.one (I q)))], []⟩ [] none (by kernel_rfl) (by rfl) (mt_val (val_index (T := intT) (l := cl) (i := q) ht rfl (by rfl) (by rfl) (by rfl) (by rfl) (by rfl) (by rfl) he_2)) rfl rfl rfl rfl,
    .mt ⟨[(13, .sv (.one (.pe (svR (.one (I e_2))) 1)))], []⟩ [] none (by kernel_rfl) (by rfl) (mt_val (val_load (s := .one (I e_2)) ht rfl (by rfl) (by rfl) (by rfl) (by rfl) (by rfl))) rfl rfl rfl rfl,
    .mt ⟨[(10, .sv (.one (I e))), (14, .sv (.one (I e_2)))], []⟩ [] none (by kernel_rfl) (by rfl) (mt_castB hb_2 (mt_ev ht (by kernel_rfl))) rfl rfl rfl rfl,
    .mt ⟨[(15, .sv (.one (B false)))], []⟩ [] none (by kernel_rfl) (by rfl) (mt_ev ht (by kernel_rfl)) rfl rfl rfl rfl,
    .skip ⟨[(16, .sv (.one (B false)))], []⟩ (by kernel_rfl) (by rfl) rfl rfl rfl rfl,
    .skip ⟨[(16, .sv (.one (B false)))], []⟩ (by kernel_rfl) (by rfl) rfl rfl rfl rfl,
    .skip ⟨[(16, .sv (.one (B false)))], []⟩ (by kernel_rfl) (by rfl) rfl rfl rfl rfl,
    .skip ⟨[(16, .sv (.one (B false)))], []⟩ (by kernel_rfl) (by rfl) rfl rfl rfl rfl,
    .skip ⟨[(16, .sv (.one (B false)))], []⟩ (by kernel_rfl) (by rfl) rfl rfl rfl rfl,
    .mt ⟨[(16, .sv (.one (B false))), (21, .tup [])], []⟩ [] none (by kernel_rfl) (by rfl) (mt_ev ht (by kernel_rfl)) rfl rfl rfl rfl,
    .mt ⟨[(22, .sv (.one (B false)))], []⟩ [] none (by kernel_rfl) (by rfl) (mt_ev ht (by kernel_rfl)) rfl rfl rfl rfl,
    .skip ⟨[(23, .sv (.one (B false)))], []⟩ (by kernel_rfl) (by rfl) rfl rfl rfl rfl,
    .skip ⟨[(23, .sv (.one (B false)))], []⟩ (by kernel_rfl) (by rfl) rfl rfl rfl rfl,
    .skip ⟨[(23, .sv (.one (B false)))], []⟩ (by kernel_rfl) (by rfl) rfl rfl rfl rfl,
    .skip ⟨[(23, .sv (.one (B false)))], []⟩ (by kernel_rfl) (by rfl) rfl rfl rfl rfl,
    .skip ⟨[(23, .sv (.one (B false)))], []⟩ (by kernel_rfl) (by rfl) rfl rfl rfl rfl,
    .mt ⟨[(23, .sv (.one (B false))), (28, .tup [])], []⟩ [] none (by kernel_rfl) (by rfl) (mt_ev ht (by kernel_rfl)) rfl rfl rfl rfl,
    .mt ⟨[(29, .sv (.one (B false)))], []⟩ [] none (by kernel_rfl) (by rfl) (mt_ev ht (by kernel_rfl)) rfl rfl rfl rfl,
    trivial⟩
      · exact En.at (I := fun zz => J zz) (T := fun zz => ⟨[(6, .sv (.one (B zz)))], [.gone, .gone, .gone, .gone]⟩) false h (by kernel_rfl)
  · intro x6 h
    replace h := hJ _ h
    show En c ⟨[(6, .sv (.one (B x6)))], [.gone, .gone, .gone, .gone]⟩ _
    refine En.ret ?_
    exact En.back ht x6 h (by kernel_rfl) rfl
theorem en124 : ∀ args w, (callFunc 124 args).run Try.prog w = .ok (.enter 124 args) w := enters_of Try.func124 (by kernel_rfl) rfl
def r2B (cl : List Int) (p : Int) (g : ApiGraph) (al : Int × Int → Bool) (q : Int) : Bool := (cl.getD p.toNat 0 == cl.getD q.toNat 0) && (ansB g p q al && ansB g q p al)
def r2Dom (cl : List Int) (p : Int) (g : ApiGraph) (dom : Int × Int → Prop) (q : Int) : Prop := inC cl (p, q) ∧ ansPre g dom
theorem samR2_ct (q : Int) (cl : (List Int)) (p : Int) (g : ApiGraph) (domal : ((Int × Int) → Prop)) (al : ((Int × Int) → Bool)) (hp : r2Dom cl p g domal q)  : Ct 124 [.sv (.one (I q)), .sv (.one (.ptr 0 0)), .sv (.one (.ptr 1 0)), .sv (.one (.ptr 2 0)), .sv (.one (.ptr 3 0))] [.box [LS intT cl] 23 true, .box [I p] 3 true, .box [I g.fLetters, I g.fPlaces, LS ApiArrow.ty g.fArrows] 48 true, .box [.rd (fvR (fun (x : (Int × Int)) => [.sv (.one (I x.1)), .sv (.one (I x.2))]) (fun (r : Bool) => .sv (.one (B r))) domal al)] 132 true] (fun (_ : Unit) => True) (fun _ => .sv (.one (B (r2B cl p g al q)))) := by
  refine (samR2_walk q cl p g domal al (fun res_ => res_ = (r2B cl p g al q)) ?_).fun
  unfold samR2_vc
  obtain ⟨⟨⟨h1, h2⟩, h3, h4⟩, h5⟩ := hp
  refine ⟨fun b => b = r2B cl p g al q, ⟨_, idx_of 0 h1 h2, _, idx_of 0 h3 h4, fun h => ⟨h5, fun h' => ⟨h5, ?_⟩, fun h' => ?_⟩, fun h => ?_⟩, fun _ h => h⟩
  · show _ = _; unfold r2B; rw [show (cl.getD p.toNat 0 == cl.getD q.toNat 0) = true from h, h']; rfl
  · show _ = _; unfold r2B; rw [show (cl.getD p.toNat 0 == cl.getD q.toNat 0) = true from h, h']; rfl
  · show _ = _; unfold r2B; rw [show (cl.getD p.toNat 0 == cl.getD q.toNat 0) = false from h]; rfl
def samMax_vc (l : (List Int)) (Q : Int → Prop) : Prop :=
  l.length ≤ 9223372036854775807 →
  (IfP (decide ((l.length : Int) < 1)) (False) (∃ e, idx l 0 = some e ∧
  ∃ (Inv : Int → Int → Prop) (mu : Int → Int → Nat), Inv e 1 ∧
  ∀ (x3 : Int) (x4 : Int) , Inv x3 x4 → (IfP (decide (x4 < (l.length : Int))) (∃ e_2, idx l x4 = some e_2 ∧
  (Inv (if e_2 > x3 then e_2 else x3) (wr (x4 + 1)) ∧ mu (if e_2 > x3 then e_2 else x3) (wr (x4 + 1)) < mu x3 x4)) (Q x3))))
theorem samMax_walk (l : (List Int)) (Q : Int → Prop) (h : samMax_vc l Q) : Ct 125 [.sv (.one (LS intT l))] [] Q (fun (r : Int) => .sv (.one (I r))) := by
  have ht := tab_ok
  refine Ct.body Try.func125 rfl rfl rfl rfl (fun c hn => ?_)
  unfold samMax_vc at h
  refine En.lenL 0 (by rfl) (fun hl => ?_)
  replace h := h hl
  clear hl
  refine En.seq ?_
  refine En.region ?_
  refine WL.run ht hn 1 ⟨[(0, .sv (.one (LS intT l)))], []⟩ (by kernel_rfl) ?_
  refine WL.nil ?_
  refine En.seq ?_
  refine En.seq ?_
  refine En.region ?_
  refine WL.run ht hn 3 ⟨[(0, .sv (.one (LS intT l))), (7, .sv (.one (B (decide ((l.length : Int) < 1)))))], []⟩ (by kernel_rfl) ?_
  refine WL.nil ?_
  refine En.cond (b := (decide ((l.length : Int) < 1))) (by kernel_rfl) (fun hb => ?_) (fun hb => ?_)
  · replace h := h.1 hb
    exact h.elim
  · replace h := h.2 hb
    refine En.skip ?_
    refine En.seq ?_
    refine En.region ?_
    refine WL.run ht hn 1 ⟨[(0, .sv (.one (LS intT l))), (9, .sv (.one (LS intT l)))], []⟩ (by kernel_rfl) ?_
    obtain ⟨e, he, h⟩ := h
    refine WL.val hn (by rfl) (val_index (T := intT) (l := l) (i := 0) ht rfl (by rfl) (by rfl) (by rfl) (by rfl) (by rfl) (by rfl) he) (by rfl) ?_
    refine WL.val hn (by rfl) (val_load (s := .one (I e)) ht rfl (by rfl) (by rfl) (by rfl) (by rfl) (by rfl)) (by rfl) ?_
    refine WL.run ht hn 1 ⟨[(0, .sv (.one (LS intT l))), (3, .sv (.one (I e)))], []⟩ (by kernel_rfl) ?_
    refine WL.nil ?_
    refine En.seq ?_
    refine En.seq ?_
    refine En.region ?_
    refine WL.run ht hn 1 ⟨[(0, .sv (.one (LS intT l))), (3, .sv (.one (I e))), (4, .sv (.one (I 1)))], []⟩ (by kernel_rfl) ?_
    refine WL.nil ?_
    refine En.block ?_
    obtain ⟨Inv, mu, h0, hI⟩ := h
    refine En.loop (σ := Int × Int) (fun zz => Inv zz.1 zz.2) (fun zz => mu zz.1 zz.2) (fun zz => ⟨[(0, .sv (.one (LS intT l))), (3, .sv (.one (I zz.1))), (4, .sv (.one (I zz.2)))], []⟩) (e, 1) h0 (sub_ok (by kernel_rfl)) ?_
    rintro ⟨x3, x4⟩ h
    replace h := hI _ _ h
    show En c ⟨[(0, .sv (.one (LS intT l))), (3, .sv (.one (I x3))), (4, .sv (.one (I x4)))], []⟩ _
    refine En.seq ?_
    refine En.seq ?_
    refine En.region ?_
    refine WL.run ht hn 4 ⟨[(0, .sv (.one (LS intT l))), (3, .sv (.one (I x3))), (4, .sv (.one (I x4))), (15, .sv (.one (B (decide (x4 < (l.length : Int))))))], []⟩ (by kernel_rfl) ?_
    refine WL.nil ?_
    refine En.cond (b := (decide (x4 < (l.length : Int)))) (by kernel_rfl) (fun hb => ?_) (fun hb => ?_)
    · replace h := h.1 hb
      refine En.skip ?_
      refine En.seq ?_
      refine En.block ?_
      refine En.region ?_
      refine WL.run ht hn 3 ⟨[(0, .sv (.one (LS intT l))), (4, .sv (.one (I x4))), (18, .sv (.one (I x3))), (19, .sv (.one (LS intT l))), (20, .sv (.one (I x4)))], []⟩ (by kernel_rfl) ?_
      obtain ⟨e_2, he_2, h⟩ := h
      refine WL.val hn (by rfl) (val_index (T := intT) (l := l) (i := x4) ht rfl (by rfl) (by rfl) (by rfl) (by rfl) (by rfl) (by rfl) he_2) (by rfl) ?_
      refine WL.val hn (by rfl) (val_load (s := .one (I e_2)) ht rfl (by rfl) (by rfl) (by rfl) (by rfl) (by rfl)) (by rfl) ?_
      refine WL.run ht hn 2 ⟨[(0, .sv (.one (LS intT l))), (3, .sv (.one (I (if e_2 > x3 then e_2 else x3)))), (4, .sv (.one (I x4)))], []⟩ (by kernel_rfl) ?_
      refine WL.nil ?_
      refine En.region ?_
      refine WL.run ht hn 3 ⟨[(0, .sv (.one (LS intT l))), (3, .sv (.one (I (if e_2 > x3 then e_2 else x3)))), (4, .sv (.one (I (wr (x4 + 1)))))], []⟩ (by kernel_rfl) ?_
      refine WL.nil ?_
      exact En.at (I := fun zz => Inv zz.1 zz.2 ∧ mu zz.1 zz.2 < mu x3 x4) (T := fun zz => ⟨[(0, .sv (.one (LS intT l))), (3, .sv (.one (I zz.1))), (4, .sv (.one (I zz.2)))], []⟩) ((if e_2 > x3 then e_2 else x3), (wr (x4 + 1))) h (by kernel_rfl)
    · replace h := h.2 hb
      refine En.exit rfl ?_
      refine En.seq ?_
      refine En.region ?_
      refine WL.run ht hn 2 ⟨[(2, .sv (.one (I x3)))], []⟩ (by kernel_rfl) ?_
      refine WL.nil ?_
      refine En.ret ?_
      exact En.back ht x3 h (by kernel_rfl) rfl
theorem en125 : ∀ args w, (callFunc 125 args).run Try.prog w = .ok (.enter 125 args) w := enters_of Try.func125 (by kernel_rfl) rfl
def mxI (a b : Int) : Int := if b > a then b else a
def maxL (l : List Int) : Int := (l.drop 1).foldl mxI (l.getD 0 0)
theorem mx_fold : ∀ (l : List Int) (a : Int), a ≤ l.foldl mxI a ∧ (∀ x ∈ l, x ≤ l.foldl mxI a) ∧ (l.foldl mxI a = a ∨ l.foldl mxI a ∈ l)
  | [], a => ⟨Int.le_refl _, (fun x hx => by cases hx), .inl rfl⟩
  | b :: l, a => by
    obtain ⟨h1, h2, h3⟩ := mx_fold l (mxI a b)
    have h4 : a ≤ mxI a b ∧ b ≤ mxI a b ∧ (mxI a b = a ∨ mxI a b = b) := by unfold mxI; split <;> omega
    rw [List.foldl_cons]
    refine ⟨by omega, fun x hx => ?_, ?_⟩
    · rcases List.mem_cons.1 hx with rfl | hx
      · omega
      · exact h2 x hx
    · rcases h3 with h3 | h3
      · rw [h3]
        rcases h4.2.2 with h5 | h5
        · exact .inl h5
        · rw [h5]; exact .inr List.mem_cons_self
      · exact .inr (List.mem_cons_of_mem _ h3)
theorem maxL_is {l : List Int} (h : 0 < l.length) : (∀ x ∈ l, x ≤ maxL l) ∧ maxL l ∈ l := by
  cases l with
  | nil => simp at h
  | cons a l =>
    obtain ⟨h1, h2, h3⟩ := mx_fold l a
    show (∀ x ∈ a :: l, x ≤ l.foldl mxI a) ∧ l.foldl mxI a ∈ a :: l
    refine ⟨fun x hx => ?_, ?_⟩
    · rcases List.mem_cons.1 hx with rfl | hx
      · exact h1
      · exact h2 x hx
    · rcases h3 with h3 | h3
      · rw [h3]; exact List.mem_cons_self
      · exact List.mem_cons_of_mem _ h3
theorem max_onto {n m : Nat} {l : List Int} (h : Onto n m l) (hn : 0 < n) : maxL l = (m : Int) - 1 ∧ 0 < m := by
  have hm := h.pos hn
  obtain ⟨h1, h2⟩ := maxL_is (l := l) (by rw [h.len]; exact hn)
  obtain ⟨p, hp, e⟩ := h.onto (m - 1) (by omega)
  have h3 := h1 _ (getD_mem (z := 0) (show p < l.length by rw [h.len]; exact hp))
  obtain ⟨q, hq, e2⟩ := List.getElem_of_mem h2
  have h4 := h.range q (by rw [← h.len]; exact hq)
  have e3 : l.getD q 0 = maxL l := by rw [← e2]; simp [hq]
  omega
theorem samMax_ct (l : (List Int)) (hp : 0 < l.length)  : Ct 125 [.sv (.one (LS intT l))] [] (fun (_ : Unit) => True) (fun _ => .sv (.one (I (maxL l)))) := by
  refine (samMax_walk l (fun res_ => res_ = (maxL l)) ?_).fun
  unfold samMax_vc
  intro _
  refine ⟨fun h => by have := of_decide_eq_true h; omega, fun _ => ⟨_, idx_getS 0 hp, fun a i => ∃ k : Nat, i = k ∧ 1 ≤ k ∧ k ≤ l.length ∧ (l.drop k).foldl mxI a = maxL l, fun _ i => l.length - i.toNat, ⟨1, rfl, by omega, by omega, rfl⟩, ?_⟩⟩
  rintro a i ⟨k, rfl, h1, hk, he⟩
  refine ⟨fun hb => ?_, fun hb => ?_⟩
  · have hlt := dlt hb
    rw [List.drop_eq_getElem_cons hlt] at he
    exact ⟨_, idx_at hlt, ⟨k + 1, wsucc (by omega), by omega, hlt, he⟩, mu_up hlt (by omega)⟩
  · rw [List.drop_eq_nil_of_le (dge hb)] at he
    exact he
def samRounds_vc (g : ApiGraph) (Q : (List (List Int)) → Prop) : Prop :=
  g.fArrows.length ≤ 9223372036854775807 →
  (makeOk g.fPlaces g.fPlaces 8 ∧
  ∃ (Inv : (List (List Int)) → Prop) (mu : (List (List Int)) → Nat), Inv ([(List.replicate (g.fPlaces).toNat (0 : Int))] : (List (List Int))) ∧
  ∀ (l2 : (List (List Int))) , Inv l2 → (∃ e, idx l2 (wr ((l2.length : Int) - 1)) = some e ∧
  makeOk g.fPlaces g.fPlaces 8 ∧
  ∃ (Inv_2 : Int → (List Int) → (List Int) → Prop) (mu_2 : Int → (List Int) → (List Int) → Nat), Inv_2 0 (List.replicate (g.fPlaces).toNat (0 : Int)) ([] : (List Int)) ∧
  ∀ (x26 : Int) (l5 : (List Int)) (l8 : (List Int)) , Inv_2 x26 l5 l8 → (IfP (decide (x26 < ((List.replicate (g.fPlaces).toNat (0 : Int)).length : Int))) ((∀ x_ ∈ l8, (r2Dom e x26 g (inC e)) x_) ∧
  ∃ J : Int → (List Int) → Prop, (IfP (decide ((idxTo (r2B e x26 g (alikeC e)) l8) < 0)) (capOk l8.length (([x26] : (List Int)) : (List Int)).length 8 ∧
  J (l8.length : Int) (l8 ++ ([x26] : (List Int)))) (J (idxTo (r2B e x26 g (alikeC e)) l8) l8)) ∧
  (∀ (x9 : Int) (l8_2 : (List Int)), J x9 l8_2 → ∃ e_2, idx l5 x26 = some e_2 ∧
  (Inv_2 (wr (x26 + 1)) (l5.set (x26).toNat x9) l8_2 ∧ mu_2 (wr (x26 + 1)) (l5.set (x26).toNat x9) l8_2 < mu_2 x26 l5 l8))) ((0 < (l5).length) ∧
  (0 < (e).length) ∧
  IfP ((maxL l5) == (maxL e)) (Q l2) (capOk l2.length (([l5] : (List (List Int))) : (List (List Int))).length 24 ∧
  (Inv (l2 ++ ([l5] : (List (List Int)))) ∧ mu (l2 ++ ([l5] : (List (List Int)))) < mu l2))))))
theorem samRounds_walk (g : ApiGraph) (Q : (List (List Int)) → Prop) (h : samRounds_vc g Q) : Ct 56 [.sv (.agg [I g.fLetters, I g.fPlaces, LS ApiArrow.ty g.fArrows])] [] Q (fun (r : (List (List Int))) => .sv (.one (LS (lsT intT) r))) := by
  have ht := tab_ok
  refine Ct.body Try.func56 rfl rfl rfl rfl (fun c hn => ?_)
  unfold samRounds_vc at h
  refine En.lenA 0 2 (by rfl) (by rfl) (fun hl => ?_)
  replace h := h hl
  clear hl
  refine En.seq ?_
  refine En.region ?_
  refine WL.run ht hn 2 ⟨[(1, .sv (.one (.ptr 0 0)))], [.box [I g.fLetters, I g.fPlaces, LS ApiArrow.ty g.fArrows] 48 false]⟩ (by kernel_rfl) ?_
  refine WL.nil ?_
  refine En.seq ?_
  refine En.region ?_
  refine WL.run ht hn 2 ⟨[(1, .sv (.one (.ptr 0 0))), (11, .sv (.one (I g.fPlaces)))], [.box [I g.fLetters, I g.fPlaces, LS ApiArrow.ty g.fArrows] 48 false]⟩ (by kernel_rfl) ?_
  have hp := h.1
  replace h := h.2
  refine WL.mt0 (K := []) (p := some (1, rowI 3 intT (List.replicate (g.fPlaces).toNat (0 : Int)))) hn (by rfl) (mt_make (T := intT) (0 : Int) (zv := (.int .i64 0)) 1 (l := g.fPlaces) (cp := g.fPlaces) ht rfl (by rfl) (by rfl) (by rfl) (by rfl) (by decide) (by rfl) (by rfl) hp.1 hp.2.1 hp.2.2 (hp.le (by decide)) rfl (fun _ => ⟨rfl, trivial⟩)) (by rfl) (by rfl) (by rfl) ?_
  refine WL.seal (T := intT) (l := (List.replicate (g.fPlaces).toNat (0 : Int))) (e := 3) 1 rfl ?_
  refine WL.run ht hn 0 ⟨[(1, .sv (.one (.ptr 0 0))), (11, .sv (.one (I g.fPlaces))), (12, .sv (.one (LS intT (List.replicate (g.fPlaces).toNat (0 : Int)))))], [.box [I g.fLetters, I g.fPlaces, LS ApiArrow.ty g.fArrows] 48 false, .gone]⟩ (by kernel_rfl) ?_
  refine WL.mt0 (K := []) (p := some (2, rowI 23 (lsT intT) ([(List.replicate (g.fPlaces).toNat (0 : Int))] : (List (List Int))))) hn (by rfl) (mt_lit (T := (lsT intT)) ([(List.replicate (g.fPlaces).toNat (0 : Int))] : (List (List Int))) (mt_bsl 2 (r := cellsOf (lsT intT) ([(List.replicate (g.fPlaces).toNat (0 : Int))] : (List (List Int)))) ht rfl (by rfl) (by rfl) (by rfl) (by kernel_rfl) (by rfl)) (fun _ h => by cases h) (fun _ => rfl) (fun _ => rfl) (by rfl) (Nat.le_of_ble_eq_true rfl)) (by rfl) (by rfl) (by rfl) ?_
  refine WL.run ht hn 1 ⟨[(1, .sv (.one (.ptr 0 0))), (3, .sv (.one (.own 2)))], [.box [I g.fLetters, I g.fPlaces, LS ApiArrow.ty g.fArrows] 48 false, .gone, rowI 23 (lsT intT) ([(List.replicate (g.fPlaces).toNat (0 : Int))] : (List (List Int)))]⟩ (by kernel_rfl) ?_
  refine WL.nil ?_
  refine En.block ?_
  obtain ⟨Inv, mu, h0_2, hI_2⟩ := h
  refine En.loop (σ := (List (List Int))) (fun zz => Inv zz) (fun zz => mu zz) (fun zz => ⟨[(1, .sv (.one (.ptr 0 0))), (3, .sv (.one (.own 2)))], [.box [I g.fLetters, I g.fPlaces, LS ApiArrow.ty g.fArrows] 48 false, .gone, rowI 23 (lsT intT) zz]⟩) ([(List.replicate (g.fPlaces).toNat (0 : Int))] : (List (List Int))) h0_2 (sub_ok (by kernel_rfl)) ?_
  intro l2 h
  replace h := hI_2 _ h
  show En c ⟨[(1, .sv (.one (.ptr 0 0))), (3, .sv (.one (.own 2)))], [.box [I g.fLetters, I g.fPlaces, LS ApiArrow.ty g.fArrows] 48 false, .gone, rowI 23 (lsT intT) l2]⟩ _
  refine En.block ?_
  refine En.seq ?_
  refine En.region ?_
  refine WL.run ht hn 4 ⟨[(1, .sv (.one (.ptr 0 0))), (3, .sv (.one (.own 2))), (14, .sv (.one (.own 2))), (17, .sv (.one (I (wr ((l2.length : Int) - 1)))))], [.box [I g.fLetters, I g.fPlaces, LS ApiArrow.ty g.fArrows] 48 false, .gone, rowI 23 (lsT intT) l2]⟩ (by kernel_rfl) ?_
  obtain ⟨e, he, h⟩ := h
  refine WL.val hn (by rfl) (val_indexO (T := (lsT intT)) (l := l2) (k := (wr ((l2.length : Int) - 1))) ht rfl (by rfl) (by rfl) (by rfl) (by rfl) (by decide) (by rfl) (by rfl) (by rfl) he) (by rfl) ?_
  refine WL.val hn (by rfl) (val_loadO (T := (lsT intT)) (l := l2) (y := e) ht rfl (by rfl) (by rfl) (by rfl) (by rfl) (by rfl) (idx_some he).2.2 (by rfl)) (by rfl) ?_
  refine WL.run ht hn 2 ⟨[(1, .sv (.one (.ptr 0 0))), (3, .sv (.one (.own 2))), (4, .sv (.one (.ptr 3 0)))], [.box [I g.fLetters, I g.fPlaces, LS ApiArrow.ty g.fArrows] 48 false, .gone, rowI 23 (lsT intT) l2, .box [LS intT e] 23 false]⟩ (by kernel_rfl) ?_
  refine WL.nil ?_
  refine En.seq ?_
  refine En.region ?_
  refine WL.run ht hn 3 ⟨[(1, .sv (.one (.ptr 0 0))), (3, .sv (.one (.own 2))), (4, .sv (.one (.ptr 3 0))), (5, .sv (.one (.ptr 4 0)))], [.box [I g.fLetters, I g.fPlaces, LS ApiArrow.ty g.fArrows] 48 false, .gone, rowI 23 (lsT intT) l2, .box [LS intT e] 23 false, .box [.fn 122 [3]] 132 false]⟩ (by kernel_rfl) ?_
  refine WL.nil ?_
  refine En.seq ?_
  refine En.region ?_
  refine WL.run ht hn 2 ⟨[(1, .sv (.one (.ptr 0 0))), (3, .sv (.one (.own 2))), (4, .sv (.one (.ptr 3 0))), (5, .sv (.one (.ptr 4 0))), (22, .sv (.one (I g.fPlaces)))], [.box [I g.fLetters, I g.fPlaces, LS ApiArrow.ty g.fArrows] 48 false, .gone, rowI 23 (lsT intT) l2, .box [LS intT e] 23 false, .box [.fn 122 [3]] 132 false]⟩ (by kernel_rfl) ?_
  have hp := h.1
  replace h := h.2
  refine WL.mt0 (K := []) (p := some (5, rowI 3 intT (List.replicate (g.fPlaces).toNat (0 : Int)))) hn (by rfl) (mt_make (T := intT) (0 : Int) (zv := (.int .i64 0)) 5 (l := g.fPlaces) (cp := g.fPlaces) ht rfl (by rfl) (by rfl) (by rfl) (by rfl) (by decide) (by rfl) (by rfl) hp.1 hp.2.1 hp.2.2 (hp.le (by decide)) rfl (fun _ => ⟨rfl, trivial⟩)) (by rfl) (by rfl) (by rfl) ?_
  refine WL.run ht hn 1 ⟨[(1, .sv (.one (.ptr 0 0))), (3, .sv (.one (.own 2))), (4, .sv (.one (.ptr 3 0))), (5, .sv (.one (.ptr 4 0))), (6, .sv (.one (.own 5)))], [.box [I g.fLetters, I g.fPlaces, LS ApiArrow.ty g.fArrows] 48 false, .gone, rowI 23 (lsT intT) l2, .box [LS intT e] 23 false, .box [.fn 122 [3]] 132 false, rowI 3 intT (List.replicate (g.fPlaces).toNat (0 : Int))]⟩ (by kernel_rfl) ?_
  refine WL.nil ?_
  refine En.seq ?_
  refine En.region ?_
  refine WL.run ht hn 1 ⟨[(1, .sv (.one (.ptr 0 0))), (3, .sv (.one (.own 2))), (4, .sv (.one (.ptr 3 0))), (5, .sv (.one (.ptr 4 0))), (6, .sv (.one (.own 5))), (7, .sv (.one (.v (.slice none 0 0))))], [.box [I g.fLetters, I g.fPlaces, LS ApiArrow.ty g.fArrows] 48 false, .gone, rowI 23 (lsT intT) l2, .box [LS intT e] 23 false, .box [.fn 122 [3]] 132 false, rowI 3 intT (List.replicate (g.fPlaces).toNat (0 : Int))]⟩ (by kernel_rfl) ?_
  refine WL.nil ?_
  refine En.seq ?_
  refine En.seq ?_
  refine En.region ?_
  refine WL.run ht hn 3 ⟨[(1, .sv (.one (.ptr 0 0))), (3, .sv (.one (.own 2))), (4, .sv (.one (.ptr 3 0))), (5, .sv (.one (.ptr 4 0))), (6, .sv (.one (.own 5))), (7, .sv (.one (.v (.slice none 0 0)))), (25, .sv (.one (I ((List.replicate (g.fPlaces).toNat (0 : Int)).length : Int)))), (26, .sv (.one (I 0)))], [.box [I g.fLetters, I g.fPlaces, LS ApiArrow.ty g.fArrows] 48 false, .gone, rowI 23 (lsT intT) l2, .box [LS intT e] 23 false, .box [.fn 122 [3]] 132 false, rowI 3 intT (List.replicate (g.fPlaces).toNat (0 : Int))]⟩ (by kernel_rfl) ?_
  refine WL.nil ?_
  refine En.block ?_
  refine En.rowNil 7 8 3 intT (by rfl) (by rfl) ?_
  obtain ⟨Inv_2, mu_2, h0, hI⟩ := h
  refine En.loop (σ := Int × (List Int) × (List Int)) (fun zz => Inv_2 zz.1 zz.2.1 zz.2.2) (fun zz => mu_2 zz.1 zz.2.1 zz.2.2) (fun zz => ⟨[(1, .sv (.one (.ptr 0 0))), (3, .sv (.one (.own 2))), (4, .sv (.one (.ptr 3 0))), (5, .sv (.one (.ptr 4 0))), (6, .sv (.one (.own 5))), (7, .sv (.one (.own 8))), (25, .sv (.one (I ((List.replicate (g.fPlaces).toNat (0 : Int)).length : Int)))), (26, .sv (.one (I zz.1)))], [.box [I g.fLetters, I g.fPlaces, LS ApiArrow.ty g.fArrows] 48 false, .gone, rowI 23 (lsT intT) l2, .box [LS intT e] 23 false, .box [.fn 122 [3]] 132 false, rowI 3 intT zz.2.1, .gone, .gone, rowI 3 intT zz.2.2]⟩) (0, (List.replicate (g.fPlaces).toNat (0 : Int)), ([] : (List Int))) h0 (sub_ok (by kernel_rfl)) ?_
  rintro ⟨x26, l5, l8⟩ h
  replace h := hI _ _ _ h
  show En c ⟨[(1, .sv (.one (.ptr 0 0))), (3, .sv (.one (.own 2))), (4, .sv (.one (.ptr 3 0))), (5, .sv (.one (.ptr 4 0))), (6, .sv (.one (.own 5))), (7, .sv (.one (.own 8))), (25, .sv (.one (I ((List.replicate (g.fPlaces).toNat (0 : Int)).length : Int)))), (26, .sv (.one (I x26)))], [.box [I g.fLetters, I g.fPlaces, LS ApiArrow.ty g.fArrows] 48 false, .gone, rowI 23 (lsT intT) l2, .box [LS intT e] 23 false, .box [.fn 122 [3]] 132 false, rowI 3 intT l5, .gone, .gone, rowI 3 intT l8]⟩ _
  refine En.seq ?_
  refine En.region ?_
  refine WL.run ht hn 1 ⟨[(1, .sv (.one (.ptr 0 0))), (3, .sv (.one (.own 2))), (4, .sv (.one (.ptr 3 0))), (5, .sv (.one (.ptr 4 0))), (6, .sv (.one (.own 5))), (7, .sv (.one (.own 8))), (25, .sv (.one (I ((List.replicate (g.fPlaces).toNat (0 : Int)).length : Int)))), (26, .sv (.one (I x26))), (27, .sv (.one (B (decide (x26 < ((List.replicate (g.fPlaces).toNat (0 : Int)).length : Int))))))], [.box [I g.fLetters, I g.fPlaces, LS ApiArrow.ty g.fArrows] 48 false, .gone, rowI 23 (lsT intT) l2, .box [LS intT e] 23 false, .box [.fn 122 [3]] 132 false, rowI 3 intT l5, .gone, .gone, rowI 3 intT l8]⟩ (by kernel_rfl) ?_
  refine WL.nil ?_
  refine En.seq ?_
  refine En.cond (b := (decide (x26 < ((List.replicate (g.fPlaces).toNat (0 : Int)).length : Int)))) (by kernel_rfl) (fun hb => ?_) (fun hb => ?_)
  · replace h := h.1 hb
    refine En.skip ?_
    refine En.seq ?_
    refine En.block ?_
    refine En.seq ?_
    refine En.region ?_
    refine WL.run ht hn 3 ⟨[(1, .sv (.one (.ptr 0 0))), (3, .sv (.one (.own 2))), (4, .sv (.one (.ptr 3 0))), (5, .sv (.one (.ptr 4 0))), (6, .sv (.one (.own 5))), (7, .sv (.one (.own 8))), (8, .sv (.one (.ptr 9 0))), (25, .sv (.one (I ((List.replicate (g.fPlaces).toNat (0 : Int)).length : Int)))), (26, .sv (.one (I x26)))], [.box [I g.fLetters, I g.fPlaces, LS ApiArrow.ty g.fArrows] 48 false, .gone, rowI 23 (lsT intT) l2, .box [LS intT e] 23 false, .box [.fn 122 [3]] 132 false, rowI 3 intT l5, .gone, .gone, rowI 3 intT l8, .box [I x26] 3 false]⟩ (by kernel_rfl) ?_
    refine WL.nil ?_
    refine En.seq ?_
    refine En.region ?_
    refine WL.run ht hn 2 ⟨[(1, .sv (.one (.ptr 0 0))), (3, .sv (.one (.own 2))), (4, .sv (.one (.ptr 3 0))), (5, .sv (.one (.ptr 4 0))), (6, .sv (.one (.own 5))), (7, .sv (.one (.own 8))), (8, .sv (.one (.ptr 9 0))), (25, .sv (.one (I ((List.replicate (g.fPlaces).toNat (0 : Int)).length : Int)))), (26, .sv (.one (I x26))), (29, .sv (.one (.own 8))), (30, .sv (.one (.fn 124 [3, 9, 0, 4])))], [.box [I g.fLetters, I g.fPlaces, LS ApiArrow.ty g.fArrows] 48 false, .gone, rowI 23 (lsT intT) l2, .box [LS intT e] 23 false, .box [.fn 122 [3]] 132 false, rowI 3 intT l5, .gone, .gone, rowI 3 intT l8, .box [I x26] 3 false]⟩ (by kernel_rfl) ?_
    have hp := h.1
    replace h := h.2
    refine WL.mt0 (K := []) (p := none) hn (by rfl) (mt_lend (T := intT) (l := l8) 8 (by rfl) (by rfl) (mt_lendF [3] (by rfl) (by rfl) (mt_lendB (.rd (fvR (fun (x_ : (Int × Int)) => [.sv (.one (I x_.1)), .sv (.one (I x_.2))]) (fun (r : Bool) => .sv (.one (B r))) (inC e) (alikeC e))) 4 0 (by rfl) (by rfl) (fv_at (fv_of (M := [.box [LS intT e] 23 true]) (caps := [3]) (fun x_ hx => samR1_ct x_.1 x_.2 e hx) en122 rfl (by kernel_rfl) (by rfl) (fun _ => rfl))) (mt_lendF [9, 0, 4] (by rfl) (by rfl) (mt_ghost 30 (.sv (.one (.rd (fvR (fun (x_ : Int) => [.sv (.one (I x_))]) (fun (r : Bool) => .sv (.one (B r))) (r2Dom e x26 g (inC e)) (r2B e x26 g (alikeC e)))))) (by rfl) (fv_of (M := [.box [LS intT e] 23 true, .box [I x26] 3 true, .box [I g.fLetters, I g.fPlaces, LS ApiArrow.ty g.fArrows] 48 true, .box [.rd (fvR (fun (x_ : (Int × Int)) => [.sv (.one (I x_.1)), .sv (.one (I x_.2))]) (fun (r : Bool) => .sv (.one (B r))) (inC e) (alikeC e))] 132 true]) (caps := [3, 9, 0, 4]) (fun x_ hx => samR2_ct x_ e x26 g (inC e) (alikeC e) hx) en124 rfl (by kernel_rfl) (by rfl) (fun _ => rfl)) (mt_call (indexInt_ct l8 (r2Dom e x26 g (inC e)) (r2B e x26 g (alikeC e)) hp) en123 (caps := []) [] rfl (by rfl) (by kernel_rfl) (by kernel_rfl) (by rfl) (by rfl) (by rfl))))))) (by rfl) (by rfl) (by rfl) ?_
    refine WL.run ht hn 1 ⟨[(1, .sv (.one (.ptr 0 0))), (3, .sv (.one (.own 2))), (4, .sv (.one (.ptr 3 0))), (5, .sv (.one (.ptr 4 0))), (6, .sv (.one (.own 5))), (7, .sv (.one (.own 8))), (8, .sv (.one (.ptr 9 0))), (9, .sv (.one (I (idxTo (r2B e x26 g (alikeC e)) l8)))), (25, .sv (.one (I ((List.replicate (g.fPlaces).toNat (0 : Int)).length : Int)))), (26, .sv (.one (I x26)))], [.box [I g.fLetters, I g.fPlaces, LS ApiArrow.ty g.fArrows] 48 false, .gone, rowI 23 (lsT intT) l2, .box [LS intT e] 23 false, .box [.fn 122 [3]] 132 false, rowI 3 intT l5, .gone, .gone, rowI 3 intT l8, .box [I x26] 3 false]⟩ (by kernel_rfl) ?_
    refine WL.nil ?_
    obtain ⟨J, h, hJ⟩ := h
    refine En.seqJ (σ := Int × (List Int)) (fun zz => J zz.1 zz.2) (fun zz => ⟨[(1, .sv (.one (.ptr 0 0))), (3, .sv (.one (.own 2))), (4, .sv (.one (.ptr 3 0))), (5, .sv (.one (.ptr 4 0))), (6, .sv (.one (.own 5))), (7, .sv (.one (.own 8))), (8, .sv (.one (.ptr 9 0))), (9, .sv (.one (I zz.1))), (25, .sv (.one (I ((List.replicate (g.fPlaces).toNat (0 : Int)).length : Int)))), (26, .sv (.one (I x26)))], [.box [I g.fLetters, I g.fPlaces, LS ApiArrow.ty g.fArrows] 48 false, .gone, rowI 23 (lsT intT) l2, .box [LS intT e] 23 false, .box [.fn 122 [3]] 132 false, rowI 3 intT l5, .gone, .gone, rowI 3 intT zz.2, .box [I x26] 3 false]⟩) ?_ ?_
    · refine En.seq ?_
      refine En.region ?_
      refine WL.run ht hn 2 ⟨[(1, .sv (.one (.ptr 0 0))), (3, .sv (.one (.own 2))), (4, .sv (.one (.ptr 3 0))), (5, .sv (.one (.ptr 4 0))), (6, .sv (.one (.own 5))), (7, .sv (.one (.own 8))), (8, .sv (.one (.ptr 9 0))), (9, .sv (.one (I (idxTo (r2B e x26 g (alikeC e)) l8)))), (25, .sv (.one (I ((List.replicate (g.fPlaces).toNat (0 : Int)).length : Int)))), (26, .sv (.one (I x26))), (33, .sv (.one (B (decide ((idxTo (r2B e x26 g (alikeC e)) l8) < 0)))))], [.box [I g.fLetters, I g.fPlaces, LS ApiArrow.ty g.fArrows] 48 false, .gone, rowI 23 (lsT intT) l2, .box [LS intT e] 23 false, .box [.fn 122 [3]] 132 false, rowI 3 intT l5, .gone, .gone, rowI 3 intT l8, .box [I x26] 3 false]⟩ (by kernel_rfl) ?_
      refine WL.nil ?_
      refine En.cond (b := (decide ((idxTo (r2B e x26 g (alikeC e)) l8) < 0))) (by kernel_rfl) (fun hb => ?_) (fun hb => ?_)
      · replace h := h.1 hb
        refine En.seq ?_
        refine En.region ?_
        refine WL.run ht hn 3 ⟨[(1, .sv (.one (.ptr 0 0))), (3, .sv (.one (.own 2))), (4, .sv (.one (.ptr 3 0))), (5, .sv (.one (.ptr 4 0))), (6, .sv (.one (.own 5))), (7, .sv (.one (.own 8))), (8, .sv (.one (.ptr 9 0))), (9, .sv (.one (I (l8.length : Int)))), (25, .sv (.one (I ((List.replicate (g.fPlaces).toNat (0 : Int)).length : Int)))), (26, .sv (.one (I x26)))], [.box [I g.fLetters, I g.fPlaces, LS ApiArrow.ty g.fArrows] 48 false, .gone, rowI 23 (lsT intT) l2, .box [LS intT e] 23 false, .box [.fn 122 [3]] 132 false, rowI 3 intT l5, .gone, .gone, rowI 3 intT l8, .box [I x26] 3 false]⟩ (by kernel_rfl) ?_
        refine WL.nil ?_
        refine En.region ?_
        refine WL.run ht hn 2 ⟨[(1, .sv (.one (.ptr 0 0))), (3, .sv (.one (.own 2))), (4, .sv (.one (.ptr 3 0))), (5, .sv (.one (.ptr 4 0))), (6, .sv (.one (.own 5))), (8, .sv (.one (.ptr 9 0))), (9, .sv (.one (I (l8.length : Int)))), (25, .sv (.one (I ((List.replicate (g.fPlaces).toNat (0 : Int)).length : Int)))), (26, .sv (.one (I x26))), (36, .sv (.one (.own 8))), (37, .sv (.one (I x26)))], [.box [I g.fLetters, I g.fPlaces, LS ApiArrow.ty g.fArrows] 48 false, .gone, rowI 23 (lsT intT) l2, .box [LS intT e] 23 false, .box [.fn 122 [3]] 132 false, rowI 3 intT l5, .gone, .gone, rowI 3 intT l8, .box [I x26] 3 false]⟩ (by kernel_rfl) ?_
        refine WL.mt0 (K := []) (p := some (10, rowI 3 intT ([x26] : (List Int)))) hn (by rfl) (mt_lit (T := intT) ([x26] : (List Int)) (mt_bsl 10 (r := cellsOf intT ([x26] : (List Int))) ht rfl (by rfl) (by rfl) (by rfl) (by kernel_rfl) (by rfl)) (fun _ h => by cases h) (fun _ => rfl) (fun _ => rfl) (by rfl) (Nat.le_of_ble_eq_true rfl)) (by rfl) (by rfl) (by rfl) ?_
        refine WL.seal (T := intT) (l := ([x26] : (List Int))) (e := 3) 10 rfl ?_
        refine WL.run ht hn 0 ⟨[(1, .sv (.one (.ptr 0 0))), (3, .sv (.one (.own 2))), (4, .sv (.one (.ptr 3 0))), (5, .sv (.one (.ptr 4 0))), (6, .sv (.one (.own 5))), (8, .sv (.one (.ptr 9 0))), (9, .sv (.one (I (l8.length : Int)))), (25, .sv (.one (I ((List.replicate (g.fPlaces).toNat (0 : Int)).length : Int)))), (26, .sv (.one (I x26))), (36, .sv (.one (.own 8))), (37, .sv (.one (I x26))), (38, .sv (.one (LS intT ([x26] : (List Int)))))], [.box [I g.fLetters, I g.fPlaces, LS ApiArrow.ty g.fArrows] 48 false, .gone, rowI 23 (lsT intT) l2, .box [LS intT e] 23 false, .box [.fn 122 [3]] 132 false, rowI 3 intT l5, .gone, .gone, rowI 3 intT l8, .box [I x26] 3 false, .gone]⟩ (by kernel_rfl) ?_
        have hp := h.1
        replace h := h.2
        refine WL.mt (S2 := ⟨[(1, .sv (.one (.ptr 0 0))), (3, .sv (.one (.own 2))), (4, .sv (.one (.ptr 3 0))), (5, .sv (.one (.ptr 4 0))), (6, .sv (.one (.own 5))), (8, .sv (.one (.ptr 9 0))), (9, .sv (.one (I (l8.length : Int)))), (25, .sv (.one (I ((List.replicate (g.fPlaces).toNat (0 : Int)).length : Int)))), (26, .sv (.one (I x26))), (37, .sv (.one (I x26))), (38, .sv (.one (LS intT ([x26] : (List Int)))))], [.box [I g.fLetters, I g.fPlaces, LS ApiArrow.ty g.fArrows] 48 false, .gone, rowI 23 (lsT intT) l2, .box [LS intT e] 23 false, .box [.fn 122 [3]] 132 false, rowI 3 intT l5, .gone, .gone, rowI 3 intT l8, .box [I x26] 3 false, .gone]⟩) (K := [8]) (p := some (8, rowI 3 intT (l8 ++ ([x26] : (List Int))))) hn (by rfl) (mt_append (T := intT) (l := l8) (es := ([x26] : (List Int))) ht rfl (by rfl) (by rfl) (by rfl) (by rfl) (by decide) (by rfl) (by rfl) (srcLS (T := intT) (es := ([x26] : (List Int))) (fun _ h => by cases h) (by decide) (by rfl)) (by exact hp) (by exact hp.le (by decide))) (by kernel_rfl) (by rfl) (by rfl) (by rfl) ?_
        refine WL.run ht hn 1 ⟨[(1, .sv (.one (.ptr 0 0))), (3, .sv (.one (.own 2))), (4, .sv (.one (.ptr 3 0))), (5, .sv (.one (.ptr 4 0))), (6, .sv (.one (.own 5))), (7, .sv (.one (.own 8))), (8, .sv (.one (.ptr 9 0))), (9, .sv (.one (I (l8.length : Int)))), (25, .sv (.one (I ((List.replicate (g.fPlaces).toNat (0 : Int)).length : Int)))), (26, .sv (.one (I x26)))], [.box [I g.fLetters, I g.fPlaces, LS ApiArrow.ty g.fArrows] 48 false, .gone, rowI 23 (lsT intT) l2, .box [LS intT e] 23 false, .box [.fn 122 [3]] 132 false, rowI 3 intT l5, .gone, .gone, rowI 3 intT (l8 ++ ([x26] : (List Int))), .box [I x26] 3 false, .gone]⟩ (by kernel_rfl) ?_
        refine WL.nil ?_
        exact En.at (I := fun zz => J zz.1 zz.2) (T := fun zz => ⟨[(1, .sv (.one (.ptr 0 0))), (3, .sv (.one (.own 2))), (4, .sv (.one (.ptr 3 0))), (5, .sv (.one (.ptr 4 0))), (6, .sv (.one (.own 5))), (7, .sv (.one (.own 8))), (8, .sv (.one (.ptr 9 0))), (9, .sv (.one (I zz.1))), (25, .sv (.one (I ((List.replicate (g.fPlaces).toNat (0 : Int)).length : Int)))), (26, .sv (.one (I x26)))], [.box [I g.fLetters, I g.fPlaces, LS ApiArrow.ty g.fArrows] 48 false, .gone, rowI 23 (lsT intT) l2, .box [LS intT e] 23 false, .box [.fn 122 [3]] 132 false, rowI 3 intT l5, .gone, .gone, rowI 3 intT zz.2, .box [I x26] 3 false]⟩) ((l8.length : Int), (l8 ++ ([x26] : (List Int)))) h (by kernel_rfl)
      · replace h := h.2 hb
        refine En.skip ?_
        exact En.at (I := fun zz => J zz.1 zz.2) (T := fun zz => ⟨[(1, .sv (.one (.ptr 0 0))), (3, .sv (.one (.own 2))), (4, .sv (.one (.ptr 3 0))), (5, .sv (.one (.ptr 4 0))), (6, .sv (.one (.own 5))), (7, .sv (.one (.own 8))), (8, .sv (.one (.ptr 9 0))), (9, .sv (.one (I zz.1))), (25, .sv (.one (I ((List.replicate (g.fPlaces).toNat (0 : Int)).length : Int)))), (26, .sv (.one (I x26)))], [.box [I g.fLetters, I g.fPlaces, LS ApiArrow.ty g.fArrows] 48 false, .gone, rowI 23 (lsT intT) l2, .box [LS intT e] 23 false, .box [.fn 122 [3]] 132 false, rowI 3 intT l5, .gone, .gone, rowI 3 intT zz.2, .box [I x26] 3 false]⟩) ((idxTo (r2B e x26 g (alikeC e)) l8), l8) h (by kernel_rfl)
    · rintro ⟨x9, l8_2⟩ h
      replace h := hJ _ _ h
      show En c ⟨[(1, .sv (.one (.ptr 0 0))), (3, .sv (.one (.own 2))), (4, .sv (.one (.ptr 3 0))), (5, .sv (.one (.ptr 4 0))), (6, .sv (.one (.own 5))), (7, .sv (.one (.own 8))), (8, .sv (.one (.ptr 9 0))), (9, .sv (.one (I x9))), (25, .sv (.one (I ((List.replicate (g.fPlaces).toNat (0 : Int)).length : Int)))), (26, .sv (.one (I x26)))], [.box [I g.fLetters, I g.fPlaces, LS ApiArrow.ty g.fArrows] 48 false, .gone, rowI 23 (lsT intT) l2, .box [LS intT e] 23 false, .box [.fn 122 [3]] 132 false, rowI 3 intT l5, .gone, .gone, rowI 3 intT l8_2, .box [I x26] 3 false]⟩ _
      refine En.region ?_
      refine WL.run ht hn 3 ⟨[(1, .sv (.one (.ptr 0 0))), (3, .sv (.one (.own 2))), (4, .sv (.one (.ptr 3 0))), (5, .sv (.one (.ptr 4 0))), (6, .sv (.one (.own 5))), (7, .sv (.one (.own 8))), (25, .sv (.one (I ((List.replicate (g.fPlaces).toNat (0 : Int)).length : Int)))), (26, .sv (.one (I x26))), (40, .sv (.one (.own 5))), (41, .sv (.one (I x26))), (42, .sv (.one (I x9)))], [.box [I g.fLetters, I g.fPlaces, LS ApiArrow.ty g.fArrows] 48 false, .gone, rowI 23 (lsT intT) l2, .box [LS intT e] 23 false, .box [.fn 122 [3]] 132 false, rowI 3 intT l5, .gone, .gone, rowI 3 intT l8_2, .gone]⟩ (by kernel_rfl) ?_
      obtain ⟨e_2, he_2, h⟩ := h
      refine WL.val hn (by rfl) (val_indexO (T := intT) (l := l5) (k := x26) ht rfl (by rfl) (by rfl) (by rfl) (by rfl) (by decide) (by rfl) (by rfl) (by rfl) he_2) (by rfl) ?_
      refine WL.storeO (T := intT) (l := l5) (y := x9) ht hn (by rfl) rfl (by rfl) (by rfl) (fun _ h => by cases h) (by rfl) (by rfl) (idx_lt he_2) (by rfl) (by rfl) (by rfl) (by rfl) ?_
      refine WL.nil ?_
      refine En.region ?_
      refine WL.run ht hn 2 ⟨[(1, .sv (.one (.ptr 0 0))), (3, .sv (.one (.own 2))), (4, .sv (.one (.ptr 3 0))), (5, .sv (.one (.ptr 4 0))), (6, .sv (.one (.own 5))), (7, .sv (.one (.own 8))), (25, .sv (.one (I ((List.replicate (g.fPlaces).toNat (0 : Int)).length : Int)))), (26, .sv (.one (I (wr (x26 + 1)))))], [.box [I g.fLetters, I g.fPlaces, LS ApiArrow.ty g.fArrows] 48 false, .gone, rowI 23 (lsT intT) l2, .box [LS intT e] 23 false, .box [.fn 122 [3]] 132 false, rowI 3 intT (l5.set (x26).toNat x9), .gone, .gone, rowI 3 intT l8_2, .gone]⟩ (by kernel_rfl) ?_
      refine WL.nil ?_
      exact En.at (I := fun zz => Inv_2 zz.1 zz.2.1 zz.2.2 ∧ mu_2 zz.1 zz.2.1 zz.2.2 < mu_2 x26 l5 l8) (T := fun zz => ⟨[(1, .sv (.one (.ptr 0 0))), (3, .sv (.one (.own 2))), (4, .sv (.one (.ptr 3 0))), (5, .sv (.one (.ptr 4 0))), (6, .sv (.one (.own 5))), (7, .sv (.one (.own 8))), (25, .sv (.one (I ((List.replicate (g.fPlaces).toNat (0 : Int)).length : Int)))), (26, .sv (.one (I zz.1)))], [.box [I g.fLetters, I g.fPlaces, LS ApiArrow.ty g.fArrows] 48 false, .gone, rowI 23 (lsT intT) l2, .box [LS intT e] 23 false, .box [.fn 122 [3]] 132 false, rowI 3 intT zz.2.1, .gone, .gone, rowI 3 intT zz.2.2]⟩) ((wr (x26 + 1)), (l5.set (x26).toNat x9), l8_2) h (by kernel_rfl)
  · replace h := h.2 hb
    refine En.exit rfl ?_
    refine En.seq ?_
    refine En.seq ?_
    have hp_2 := h.1
    replace h := h.2
    have hp_3 := h.1
    replace h := h.2
    refine En.regionA ⟨[(1, .sv (.one (.ptr 0 0))), (3, .sv (.one (.own 2))), (4, .sv (.one (.ptr 3 0))), (6, .sv (.one (.own 5)))], [.sv (.one (.own 5)), .sv (.one (I (maxL l5))), .sv (.one (LS intT e)), .sv (.one (I (maxL e))), .sv (.one (B ((maxL l5) == (maxL e))))], [⟨.box [I g.fLetters, I g.fPlaces, LS ApiArrow.ty g.fArrows] 48 false, none, none, none⟩, ⟨.gone, none, none, none⟩, ⟨rowI 23 (lsT intT) l2, none, none, none⟩, ⟨.box [LS intT e] 23 false, none, none, none⟩, ⟨.gone, none, none, none⟩, ⟨rowI 3 intT l5, none, none, none⟩, ⟨.gone, none, none, none⟩, ⟨.gone, none, none, none⟩, ⟨.gone, none, none, none⟩]⟩ ⟨[(1, .sv (.one (.ptr 0 0))), (3, .sv (.one (.own 2))), (6, .sv (.one (.own 5))), (49, .sv (.one (B ((maxL l5) == (maxL e)))))], [.box [I g.fLetters, I g.fPlaces, LS ApiArrow.ty g.fArrows] 48 false, .gone, rowI 23 (lsT intT) l2, .gone, .gone, rowI 3 intT l5, .gone, .gone, .gone]⟩ (by kernel_rfl) hn (by kernel_rfl) (by rfl) (by kernel_rfl) ?_ (by kernel_rfl) ?_
    · exact ⟨.mt ⟨[(6, .sv (.one (.own 5)))], []⟩ [] none (by kernel_rfl) (by rfl) (mt_ev ht (by kernel_rfl)) rfl rfl rfl rfl,
    .mt ⟨[(45, .sv (.one (.own 5)))], [.gone, .gone, .gone, .gone, .gone, rowI 3 intT l5]⟩ [] none (by kernel_rfl) (by rfl) (mt_lend (T := intT) (l := l5) 5 (by rfl) (by rfl) (mt_call (samMax_ct l5 hp_2) en125 (caps := []) [] rfl (by rfl) (by kernel_rfl) (by kernel_rfl) (by rfl) (by rfl) (by rfl))) rfl rfl rfl rfl,
    .mt ⟨[(4, .sv (.one (.ptr 3 0)))], [.gone, .gone, .gone, .box [LS intT e] 23 false]⟩ [] none (by kernel_rfl) (by rfl) (mt_ev ht (by kernel_rfl)) rfl rfl rfl rfl,
    .mt ⟨[(47, .sv (.one (LS intT e)))], []⟩ [] none (by kernel_rfl) (by rfl) (mt_call (samMax_ct e hp_3) en125 (caps := []) [] rfl (by rfl) (by kernel_rfl) (by kernel_rfl) (by rfl) (by rfl) (by rfl)) rfl rfl rfl rfl,
    .mt ⟨[(46, .sv (.one (I (maxL l5)))), (48, .sv (.one (I (maxL e))))], []⟩ [] none (by kernel_rfl) (by rfl) (mt_ev ht (by kernel_rfl)) rfl rfl rfl rfl,
    trivial⟩
    · refine En.cond (b := ((maxL l5) == (maxL e))) (by kernel_rfl) (fun hb => ?_) (fun hb => ?_)
      · replace h := h.1 hb
        refine En.seq ?_
        refine En.region ?_
        refine WL.run ht hn 2 ⟨[(2, .sv (.one (.own 2)))], [.gone, .gone, rowI 23 (lsT intT) l2, .gone, .gone, .gone, .gone, .gone, .gone]⟩ (by kernel_rfl) ?_
        refine WL.nil ?_
        refine En.ret ?_
        refine En.seal (T := (lsT intT)) (l := l2) (e := 23) 2 rfl ?_
        exact En.back ht l2 h (by kernel_rfl) rfl
      · replace h := h.2 hb
        refine En.skip ?_
        refine En.region ?_
        refine WL.run ht hn 2 ⟨[(1, .sv (.one (.ptr 0 0))), (51, .sv (.one (.own 2))), (52, .sv (.one (.own 5)))], [.box [I g.fLetters, I g.fPlaces, LS ApiArrow.ty g.fArrows] 48 false, .gone, rowI 23 (lsT intT) l2, .gone, .gone, rowI 3 intT l5, .gone, .gone, .gone]⟩ (by kernel_rfl) ?_
        refine WL.seal (T := intT) (l := l5) (e := 3) 5 rfl ?_
        refine WL.run ht hn 0 ⟨[(1, .sv (.one (.ptr 0 0))), (51, .sv (.one (.own 2))), (52, .sv (.one (LS intT l5)))], [.box [I g.fLetters, I g.fPlaces, LS ApiArrow.ty g.fArrows] 48 false, .gone, rowI 23 (lsT intT) l2, .gone, .gone, .gone, .gone, .gone, .gone]⟩ (by kernel_rfl) ?_
        refine WL.mt0 (K := []) (p := some (9, rowI 23 (lsT intT) ([l5] : (List (List Int))))) hn (by rfl) (mt_lit (T := (lsT intT)) ([l5] : (List (List Int))) (mt_bsl 9 (r := cellsOf (lsT intT) ([l5] : (List (List Int)))) ht rfl (by rfl) (by rfl) (by rfl) (by kernel_rfl) (by rfl)) (fun _ h => by cases h) (fun _ => rfl) (fun _ => rfl) (by rfl) (Nat.le_of_ble_eq_true rfl)) (by rfl) (by rfl) (by rfl) ?_
        refine WL.seal (T := (lsT intT)) (l := ([l5] : (List (List Int)))) (e := 23) 9 rfl ?_
        refine WL.run ht hn 0 ⟨[(1, .sv (.one (.ptr 0 0))), (51, .sv (.one (.own 2))), (52, .sv (.one (LS intT l5))), (53, .sv (.one (LS (lsT intT) ([l5] : (List (List Int))))))], [.box [I g.fLetters, I g.fPlaces, LS ApiArrow.ty g.fArrows] 48 false, .gone, rowI 23 (lsT intT) l2, .gone, .gone, .gone, .gone, .gone, .gone, .gone]⟩ (by kernel_rfl) ?_
        have hp := h.1
        replace h := h.2
        refine WL.mt (S2 := ⟨[(1, .sv (.one (.ptr 0 0))), (52, .sv (.one (LS intT l5))), (53, .sv (.one (LS (lsT intT) ([l5] : (List (List Int))))))], [.box [I g.fLetters, I g.fPlaces, LS ApiArrow.ty g.fArrows] 48 false, .gone, rowI 23 (lsT intT) l2, .gone, .gone, .gone, .gone, .gone, .gone, .gone]⟩) (K := [2]) (p := some (2, rowI 23 (lsT intT) (l2 ++ ([l5] : (List (List Int)))))) hn (by rfl) (mt_append (T := (lsT intT)) (l := l2) (es := ([l5] : (List (List Int)))) ht rfl (by rfl) (by rfl) (by rfl) (by rfl) (by decide) (by rfl) (by rfl) (srcLS (T := (lsT intT)) (es := ([l5] : (List (List Int)))) (fun _ h => by cases h) (by decide) (by rfl)) (by exact hp) (by exact hp.le (by decide))) (by kernel_rfl) (by rfl) (by rfl) (by rfl) ?_
        refine WL.run ht hn 1 ⟨[(1, .sv (.one (.ptr 0 0))), (3, .sv (.one (.own 2)))], [.box [I g.fLetters, I g.fPlaces, LS ApiArrow.ty g.fArrows] 48 false, .gone, rowI 23 (lsT intT) (l2 ++ ([l5] : (List (List Int)))), .gone, .gone, .gone, .gone, .gone, .gone, .gone]⟩ (by kernel_rfl) ?_
        refine WL.nil ?_
        exact En.at (I := fun zz => Inv zz ∧ mu zz < mu l2) (T := fun zz => ⟨[(1, .sv (.one (.ptr 0 0))), (3, .sv (.one (.own 2)))], [.box [I g.fLetters, I g.fPlaces, LS ApiArrow.ty g.fArrows] 48 false, .gone, rowI 23 (lsT intT) zz]⟩) (l2 ++ ([l5] : (List (List Int)))) h (by kernel_rfl)
theorem en56 : ∀ args w, (callFunc 56 args).run Try.prog w = .ok (.enter 56 args) w := enters_of Try.func56 (by kernel_rfl) rfl
theorem alikeC_iff {c : List Int} {y : Int × Int} : alikeC c y = true ↔ c.getD y.1.toNat 0 = c.getD y.2.toNat 0 := beq_iff_eq
theorem ansB_iff {g : ApiGraph} {p q : Int} {ok : Int × Int → Bool} : ansB g p q ok = true ↔ ∀ x ∈ g.fArrows, x.fFrom = p → ∃ y ∈ g.fArrows, y.fFrom = q ∧ y.fLetter = x.fLetter ∧ ok (x.fTo, y.fTo) = true := by
  unfold ansB
  rw [List.all_eq_true]
  refine ⟨fun h x hx hp => ?_, fun h x hx => ?_⟩
  · have := h x hx
    rw [show (x.fFrom == p) = true from beq_iff_eq.2 hp, Bool.true_and, Bool.not_not] at this
    obtain ⟨y, hy, h2⟩ := List.any_eq_true.1 this
    unfold ansOne at h2
    rw [Bool.and_eq_true, Bool.and_eq_true, beq_iff_eq, beq_iff_eq] at h2
    exact ⟨y, hy, h2⟩
  · by_cases hp : x.fFrom = p
    · obtain ⟨y, hy, h2⟩ := h x hx hp
      have : g.fArrows.any (ansOne q x ok) = true := List.any_eq_true.2 ⟨y, hy, by unfold ansOne; rw [Bool.and_eq_true, Bool.and_eq_true, beq_iff_eq, beq_iff_eq]; exact h2⟩
      rw [this]
      simp
    · rw [show (x.fFrom == p) = false from beq_eq_false_iff_ne.2 hp]
      rfl
def StepS (g : ApiGraph) (cl : List Int) (p q : Nat) : Prop := r2B cl (p : Int) g (alikeC cl) (q : Int) = true
theorem StepS.iff {g : ApiGraph} {cl : List Int} {p q : Nat} : StepS g cl p q ↔ cl.getD p 0 = cl.getD q 0 ∧ ansB g p q (alikeC cl) = true ∧ ansB g q p (alikeC cl) = true := by
  unfold StepS r2B
  rw [Bool.and_eq_true, Bool.and_eq_true, beq_iff_eq]
  rfl
theorem ans_refl {g : ApiGraph} {cl : List Int} (p : Int) : ansB g p p (alikeC cl) = true := ansB_iff.2 fun x hx e => ⟨x, hx, e, rfl, alikeC_iff.2 rfl⟩
theorem ans_trans {g : ApiGraph} {cl : List Int} {p q r : Int} (h1 : ansB g p q (alikeC cl) = true) (h2 : ansB g q r (alikeC cl) = true) : ansB g p r (alikeC cl) = true := ansB_iff.2 fun x hx e => by
  obtain ⟨y, hy, e1, e2, e3⟩ := ansB_iff.1 h1 x hx e
  obtain ⟨z, hz, e4, e5, e6⟩ := ansB_iff.1 h2 y hy e1
  exact ⟨z, hz, e4, e5.trans e2, alikeC_iff.2 ((alikeC_iff.1 e3).trans (alikeC_iff.1 e6))⟩
theorem StepS.refl {g : ApiGraph} {cl : List Int} (p : Nat) : StepS g cl p p := StepS.iff.2 ⟨rfl, ans_refl _, ans_refl _⟩
theorem StepS.symm {g : ApiGraph} {cl : List Int} {p q : Nat} (h : StepS g cl p q) : StepS g cl q p := by
  obtain ⟨h1, h2, h3⟩ := StepS.iff.1 h
  exact StepS.iff.2 ⟨h1.symm, h3, h2⟩
theorem StepS.trans {g : ApiGraph} {cl : List Int} {p q r : Nat} (h : StepS g cl p q) (h' : StepS g cl q r) : StepS g cl p r := by
  obtain ⟨h1, h2, h3⟩ := StepS.iff.1 h
  obtain ⟨k1, k2, k3⟩ := StepS.iff.1 h'
  exact StepS.iff.2 ⟨h1.trans k1, ans_trans h2 k2, ans_trans k3 h3⟩
structure StableC (g : ApiGraph) (cl : List Int) : Prop where
  len : cl.length = g.fPlaces.toNat
  same : ∀ p q, p < g.fPlaces.toNat → q < g.fPlaces.toNat → cl.getD p 0 = cl.getD q 0 → StepS g cl p q
def RoundsQ (g : ApiGraph) (l : List (List Int)) : Prop := 0 < l.length ∧ l.length ≤ 12 ∧ StableC g (l.getD (l.length - 1) [])
theorem idxTo_casesS {α : Type} (p : α → Bool) (l : List α) (z : α) : (∃ k : Nat, idxTo p l = (k : Int) ∧ k < l.length ∧ p (l.getD k z) = true) ∨ (idxTo p l = -1 ∧ ∀ x ∈ l, p x = false) := by
  unfold idxTo
  cases h : l.findIdx? p with
  | none =>
    rw [List.findIdx?_eq_none_iff] at h
    exact .inr ⟨rfl, fun x hx => by simpa using h x hx⟩
  | some k =>
    obtain ⟨hk, hp, _⟩ := List.findIdx?_eq_some_iff_getElem.1 h
    exact .inl ⟨k, rfl, hk, by rw [show l.getD k z = l[k] from by simp [hk]]; exact hp⟩
theorem samRounds_ok (g : ApiGraph) (hp : GraphOk g) : samRounds_vc g (RoundsQ g) := by
  unfold samRounds_vc
  intro _
  have hpl := hp.pl
  obtain ⟨n, hn⟩ : ∃ n, g.fPlaces.toNat = n := ⟨_, rfl⟩
  have hpre : ∀ e : List Int, e.length = n → ansPre g (inC e) := fun e he x hx y hy => by
    have h1 := hp.arr x hx
    have h2 := hp.arr y hy
    exact ⟨⟨by simp only; omega, by simp only; omega⟩, ⟨by simp only; omega, by simp only; omega⟩⟩
  rw [hn]
  refine ⟨⟨by omega, by omega, by omega⟩, fun l => ∃ m : Nat, 0 < l.length ∧ l.length ≤ m ∧ m ≤ n ∧ Onto n m (l.getD (l.length - 1) []), fun l => n + 1 - (maxL (l.getD (l.length - 1) [])).toNat, ⟨1, by simp, by simp, by omega, ⟨by simp, fun p hp => ?_, fun j hj => ⟨0, by omega, ?_⟩⟩⟩, ?_⟩
  · simp [List.getD_eq_getElem?_getD, List.getElem?_replicate, hp]
  · have : j = 0 := by omega
    subst this
    simp [List.getD_eq_getElem?_getD, List.getElem?_replicate, show 0 < n by omega]
  rintro l ⟨m, hl0, hlm, hmn, hO⟩
  have hidx : idx l (wr ((l.length : Int) - 1)) = some (l.getD (l.length - 1) []) := by
    rw [wr_in (by omega) (by omega), show (l.length : Int) - 1 = ((l.length - 1 : Nat) : Int) by omega]
    exact idx_getS [] (by omega)
  refine ⟨_, hidx, ⟨by omega, by omega, by omega⟩, ?_⟩
  generalize he : l.getD (l.length - 1) [] = cls at hO ⊢
  have hcl := hO.len
  obtain ⟨hmx, hm0⟩ := max_onto hO (by omega)
  refine ⟨fun i next firsts => ∃ k : Nat, i = k ∧ k ≤ n ∧ FirstsInv n (StepS g cls) k firsts next, fun i _ _ => n - i.toNat, ⟨0, rfl, Nat.zero_le _, FirstsInv.start (by simp)⟩, ?_⟩
  rintro i next firsts ⟨k, rfl, hk, hF⟩
  have hfs := hF.size
  rw [List.length_replicate]
  refine ⟨fun hb => ?_, fun hb => ?_⟩
  · have hlt := dlt hb
    have hfr : ∀ x ∈ firsts, ∃ r : Nat, r < k ∧ x = (r : Int) := fun x hx => by
      obtain ⟨j, hj, rfl⟩ := List.getElem_of_mem hx
      obtain ⟨r, h1, h2, _⟩ := hF.first j hj
      rw [show firsts.getD j 0 = firsts[j] from by simp [hj]] at h2
      exact ⟨r, h1, h2⟩
    refine ⟨fun x hx => ?_, fun x9 l7 => FirstsInv n (StepS g cls) (k + 1) l7 (next.set k x9), ?_, ?_⟩
    · obtain ⟨r, h1, rfl⟩ := hfr x hx
      exact ⟨⟨⟨by simp only; omega, by simp only; omega⟩, ⟨by simp only; omega, by simp only; omega⟩⟩, hpre _ hcl⟩
    · have hlf := hF.len
      rcases idxTo_casesS (r2B cls (k : Int) g (alikeC cls)) firsts 0 with ⟨j, h1, h2, h3⟩ | ⟨h1, h2⟩
      · rw [h1]
        refine ⟨fun h => absurd (of_decide_eq_true h) (by omega), fun _ => hF.known hlt h2 ?_⟩
        obtain ⟨r, h4, h5⟩ := hfr _ (getD_mem (z := 0) h2)
        rw [h5] at h3 ⊢
        rw [Int.toNat_natCast]
        exact StepS.symm h3
      · rw [h1]
        refine ⟨fun _ => ⟨capOk_of (by simp only [List.length_cons, List.length_nil]; omega), hF.new hlt (fun q _ => StepS.refl q) (fun _ _ _ _ h => h.symm) fun j hj hR => ?_⟩, fun h => absurd h (by decide)⟩
        have h4 := h2 _ (getD_mem (z := 0) hj)
        obtain ⟨r, h5, h6⟩ := hfr _ (getD_mem (z := 0) hj)
        rw [h6] at h4 hR
        rw [Int.toNat_natCast] at hR
        have h7 : r2B cls (k : Int) g (alikeC cls) (r : Int) = true := hR.symm
        rw [h7] at h4
        cases h4
    · intro x9 l7 hF2
      have hlf := hF.len
      refine ⟨_, idx_getS 0 (by omega), ⟨k + 1, wsucc (by omega), hlt, by rw [Int.toNat_natCast]; exact hF2⟩, mu_up hlt (by omega)⟩
  · have hke : k = n := by have := dge hb; omega
    subst hke
    have hR := hF.done (fun _ _ _ _ h => h.symm) (fun _ _ _ _ _ _ h h2 => h.trans h2)
    have href : ∀ p q, p < k → q < k → next.getD p 0 = next.getD q 0 → cls.getD p 0 = cls.getD q 0 := fun p q hp hq e => (StepS.iff.1 ((hR.same p q hp hq).1 e)).1
    have hle := hR.toOnto.le hO href
    obtain ⟨hmx2, _⟩ := max_onto hR.toOnto (by omega)
    have hnl := hR.len
    refine ⟨by omega, by omega, fun h => ?_, fun h => ?_⟩
    · have h : firsts.length = m := by
        have := beq_iff_eq.1 h
        omega
      have hO' := hR.toOnto
      rw [h] at hO'
      refine ⟨hl0, by omega, ?_⟩
      rw [he]
      exact ⟨by rw [hcl, hn], fun p q hp hq e => (hR.same p q (by omega) (by omega)).1 (hO'.stay hO href (by omega) (by omega) e)⟩
    · have h : firsts.length ≠ m := fun e => by
        have : maxL next = maxL cls := by omega
        rw [this] at h
        simp at h
      have hlast : (l ++ [next]).getD ((l ++ [next]).length - 1) [] = next := by
        rw [List.length_append]
        exact getD_app
      refine ⟨capOk_of (by simp only [List.length_cons, List.length_nil]; omega), ⟨firsts.length, by simp, ?_, hR.size, ?_⟩, ?_⟩
      · rw [List.length_append]; simp only [List.length_cons, List.length_nil]; omega
      · rw [hlast]; exact hR.toOnto
      · show k + 1 - (maxL ((l ++ [next]).getD ((l ++ [next]).length - 1) [])).toNat < k + 1 - (maxL (l.getD (l.length - 1) [])).toNat
        rw [hlast, he]
        have := hR.size
        omega
theorem samRounds_ct (g : ApiGraph) (hp : GraphOk g) : Ct 56 [.sv (.agg [I g.fLetters, I g.fPlaces, LS ApiArrow.ty g.fArrows])] [] (RoundsQ g) (fun (r : (List (List Int))) => .sv (.one (LS (lsT intT) r))) := samRounds_walk g (RoundsQ g) (samRounds_ok g hp)
def samClasses_vc (g : ApiGraph) (Q : ((List Int) × Int) → Prop) : Prop :=
  g.fArrows.length ≤ 9223372036854775807 →
  (IfP ((samErr g) != 0) (Q ([], (samErr g))) ((GraphOk g) ∧
  ∀ r : (List (List Int)), (RoundsQ g) r →
  (∃ e, idx r (wr ((r.length : Int) - 1)) = some e ∧
  (e.length * 8 ≤ 140737488355328) ∧
  Q ((e), 0))))
theorem samClasses_walk (g : ApiGraph) (Q : ((List Int) × Int) → Prop) (h : samClasses_vc g Q) : Ct 19 [.sv (.agg [I g.fLetters, I g.fPlaces, LS ApiArrow.ty g.fArrows])] [] Q (fun (r : ((List Int) × Int)) => .tup [.one (LS intT r.1), .one (I r.2)]) := by
  have ht := tab_ok
  refine Ct.body Try.func19 rfl rfl rfl rfl (fun c hn => ?_)
  unfold samClasses_vc at h
  refine En.lenA 0 2 (by rfl) (by rfl) (fun hl => ?_)
  replace h := h hl
  clear hl
  refine En.seq ?_
  refine En.region ?_
  refine WL.run ht hn 3 ⟨[(1, .sv (.one (.ptr 0 0)))], [.box [I g.fLetters, I g.fPlaces, LS ApiArrow.ty g.fArrows] 48 false]⟩ (by kernel_rfl) ?_
  refine WL.nil ?_
  refine En.seq ?_
  refine En.seq ?_
  refine En.region ?_
  refine WL.run ht hn 1 ⟨[(1, .sv (.one (.ptr 0 0))), (6, .sv (.agg [I g.fLetters, I g.fPlaces, LS ApiArrow.ty g.fArrows]))], [.box [I g.fLetters, I g.fPlaces, LS ApiArrow.ty g.fArrows] 48 false]⟩ (by kernel_rfl) ?_
  refine WL.mt0 (K := []) (p := none) hn (by rfl) (mt_call (samCheck_ct g) en55 (caps := []) [] rfl (by rfl) (by kernel_rfl) (by kernel_rfl) (by rfl) (by rfl) (by rfl)) (by rfl) (by rfl) (by rfl) ?_
  refine WL.run ht hn 1 ⟨[(1, .sv (.one (.ptr 0 0))), (4, .sv (.one (I (samErr g))))], [.box [I g.fLetters, I g.fPlaces, LS ApiArrow.ty g.fArrows] 48 false]⟩ (by kernel_rfl) ?_
  refine WL.nil ?_
  refine En.seq ?_
  refine En.region ?_
  refine WL.run ht hn 2 ⟨[(1, .sv (.one (.ptr 0 0))), (4, .sv (.one (I (samErr g)))), (9, .sv (.one (B ((samErr g) != 0))))], [.box [I g.fLetters, I g.fPlaces, LS ApiArrow.ty g.fArrows] 48 false]⟩ (by kernel_rfl) ?_
  refine WL.nil ?_
  refine En.cond (b := ((samErr g) != 0)) (by kernel_rfl) (fun hb => ?_) (fun hb => ?_)
  · replace h := h.1 hb
    refine En.seq ?_
    refine En.region ?_
    refine WL.run ht hn 3 ⟨[(2, .sv (.one (.v (.slice none 0 0)))), (3, .sv (.one (I (samErr g))))], [.gone]⟩ (by kernel_rfl) ?_
    refine WL.nil ?_
    refine En.ret ?_
    refine En.nilLS 2 intT (by rfl) ?_
    exact En.back ht ([], (samErr g)) h (by kernel_rfl) rfl
  · replace h := h.2 hb
    refine En.skip ?_
    refine En.seq ?_
    refine En.region ?_
    refine WL.run ht hn 1 ⟨[(11, .sv (.agg [I g.fLetters, I g.fPlaces, LS ApiArrow.ty g.fArrows]))], [.gone]⟩ (by kernel_rfl) ?_
    have hp := h.1
    replace h := h.2
    refine WL.mtQ (Q := RoundsQ g) (x := fun (r : (List (List Int))) => .sv (.one (LS (lsT intT) r))) (p := fun _ => none) hn (by rfl) (mtq_call (samRounds_ct g hp) en56 (caps := []) [] rfl (by rfl) (by kernel_rfl) (by kernel_rfl) (by rfl) (fun _ => rfl) (by rfl)) (fun r hr_2 => ⟨by rfl, _, by rfl, ?_⟩)
    replace h := h r hr_2
    refine WL.run ht hn 1 ⟨[(5, .sv (.one (LS (lsT intT) r)))], [.gone]⟩ (by kernel_rfl) ?_
    refine WL.nil ?_
    refine En.seq ?_
    refine En.region ?_
    refine WL.run ht hn 4 ⟨[(13, .sv (.one (LS (lsT intT) r))), (16, .sv (.one (I (wr ((r.length : Int) - 1)))))], [.gone]⟩ (by kernel_rfl) ?_
    obtain ⟨e, he, h⟩ := h
    refine WL.val hn (by rfl) (val_index (T := (lsT intT)) (l := r) (i := (wr ((r.length : Int) - 1))) ht rfl (by rfl) (by rfl) (by rfl) (by rfl) (by rfl) (by rfl) he) (by rfl) ?_
    refine WL.val hn (by rfl) (val_load (s := .one (LS intT e)) ht rfl (by rfl) (by rfl) (by rfl) (by rfl) (by rfl)) (by rfl) ?_
    have hp := h.1
    replace h := h.2
    refine WL.mt0 (K := []) (p := some (1, rowI 3 intT (e))) hn (by rfl) (mt_callI 1 (cloneInt_ct e hp) en49 (caps := []) [] rfl rfl (by rfl) (by kernel_rfl) (by kernel_rfl) (by rfl) (by rfl)) (by rfl) (by rfl) (by rfl) ?_
    refine WL.run ht hn 2 ⟨[(2, .sv (.one (.own 1))), (3, .sv (.one (I 0)))], [.gone, rowI 3 intT (e)]⟩ (by kernel_rfl) ?_
    refine WL.nil ?_
    refine En.ret ?_
    refine En.seal (T := intT) (l := (e)) (e := 3) 1 rfl ?_
    exact En.back ht ((e), 0) h (by kernel_rfl) rfl
theorem en19 : ∀ args w, (callFunc 19 args).run Try.prog w = .ok (.enter 19 args) w := enters_of Try.func19 (by kernel_rfl) rfl
def ClassesQ (g : ApiGraph) (r : List Int × Int) : Prop := r.2 = samErr g ∧ (samErr g = 0 → StableC g r.1)
theorem samClasses_ok (g : ApiGraph) : samClasses_vc g (ClassesQ g) := by
  unfold samClasses_vc
  intro _
  refine ⟨fun h => ⟨rfl, fun e => ?_⟩, fun h => ?_⟩
  · rw [e] at h; cases h
  · have h0 : samErr g = 0 := by simpa using h
    refine ⟨samErr_ok h0, fun r ⟨h1, h2, h3⟩ => ?_⟩
    have hn := (samErr_ok h0).pl
    have hl := h3.len
    refine ⟨r.getD (r.length - 1) [], ?_, by omega, h0.symm, fun _ => h3⟩
    rw [wr_in (by omega) (by omega), show (r.length : Int) - 1 = ((r.length - 1 : Nat) : Int) by omega]
    exact idx_getS [] (by omega)
theorem samClasses_ct (g : ApiGraph) : Ct 19 [.sv (.agg [I g.fLetters, I g.fPlaces, LS ApiArrow.ty g.fArrows])] [] (ClassesQ g) (fun (r : ((List Int) × Int)) => .tup [.one (LS intT r.1), .one (I r.2)]) := samClasses_walk g (ClassesQ g) (samClasses_ok g)
end Go.Proofs.Ytapnmjeadbhffaa

/- Symbolic states of a walk: rows of rows, all of the call's own (grids): read. No condition. -/
namespace Go.Proofs.Ytapnmjeadbhffaa
open Go.RowKit Go.MapKept
set_option linter.unusedSimpArgs false
set_option linter.unusedVariables false
set_option maxRecDepth 100000

abbrev gridI {α : Type} (tyo ty : Nat) (T : Ty α) (L : List (List α)) : Item := .grid tyo ty T.s (L.map fun l => some (rowR T l, l.length))
section
variable {c : Cfg} {S S1 : St} {a : Act} {w : World} {g : Gh} {hs : Nat → Value} {tab : Tab} {n : Nat} {o : Oper} {ops : Array Oper} {rest : List Oper} {N : Po}
theorem grid_row {α : Type} {T : Ty α} {L : List (List α)} {tyo ty : Nat} {v : Value} (h : (gridI tyo ty T L).ok g hs w v) {p : Nat} {l : List α} (hp : L[p]? = some l) : ∃ cs, w.ownsAt ty T.s (gpart v (p + 1)) l.length cs ∧ rowRead T l g cs := by
  obtain ⟨us, ocs, _, _, _, _, h4, _⟩ := h
  exact (h4 p (rowR T l) l.length (by rw [List.getElem?_map, hp]; rfl)).2
theorem grid_out {α : Type} {T : Ty α} {L : List (List α)} {tyo ty : Nat} {v : Value} (h : (gridI tyo ty T L).ok g hs w v) : ∃ us, w.ownsAt tyo 1 (gpart v 0) L.length us ∧ ∀ p, p < L.length → us[p]? = some (gpart v (p + 1)) := by
  obtain ⟨us, ocs, rfl, h2, h3, _, h4, _⟩ := h
  rw [List.length_map] at h2 h3
  refine ⟨ocs, h3, fun p hp => ?_⟩
  exact (h4 p (rowR T L[p]) L[p].length (by rw [List.getElem?_map, List.getElem?_eq_getElem hp]; rfl)).1
/-- an address within a row that is owned -/
theorem run_indexOwn {t el s e : Nat} {ti te : TI} {v iv : Value} {ik : IntKind} {k : Int} {m : Nat} {cs : List Value} (ht : tab.ok) (h1 : tab t = some ti) (h2 : ti.sl = some el) (h3 : tab el = some te) (h4 : te.size = s) (h5 : 0 < s)
    (hv : w.ownsAt e s v m cs) (hi : iv = .int ik k) (hk : 0 ≤ k ∧ k < (m : Int)) : ∃ b of cap, v = .slice (some ⟨b, of, none⟩) m cap ∧ (Instr.indexAt t v iv).run Try.prog w = .ok (.pointer (some ⟨b, of + k.toNat * s, none⟩)) w := by
  have hu := slT_some ((ht t ti h1).sl.trans h2)
  obtain ⟨hl0, r1⟩ := hv
  subst hi
  rcases r1 with ⟨e1, e2⟩ | ⟨gb, of, cap, cur, e1, _⟩
  · omega
  · refine ⟨gb, of, cap, e1, ?_⟩
    simp only [Instr.indexAt, asIntOf, e1, Sem.run_bind, Sem.run_pure, Result.andThen_ok, run_underlying hu, if_pos hk, (ht el te h3).run_size, h4, svs_add]
/-- the address of a row -/
theorem val_indexG0 {α : Type} {T : Ty α} {L : List (List α)} {i tyo ty : Nat} {k : Int} {t el : Nat} {ti te : TI} {x ix : Operand} {ik : IntKind} (ht : tab.ok) (ho : o.op = .indexAddr t x ix) (h1 : tab t = some ti) (h2 : ti.sl = some el) (h3 : tab el = some te) (h4 : te.size = 1)
    (hx : evX S.F x = some (.sv (.one (.gs i 0)))) (hm : S.M[i]? = some (gridI tyo ty T L)) (hi : evK S.F ix = some (.int ik k)) (hk : 0 ≤ k ∧ k < (L.length : Int)) : Val c S o (.sv (.one (.ge i 0 k.toNat 1))) := fun a w g hs h => by
  have hv : a.eval x = gpart (hs i) 0 := (evX_ok h hx).1
  obtain ⟨us, r1, _⟩ := grid_out (h.items i _ hm)
  rw [← hv] at r1
  obtain ⟨b, of, cap, e1, e2⟩ := run_indexOwn (iv := a.eval ix) ht h1 h2 h3 h4 (by decide) r1 (evK_ok h hi) hk
  refine ⟨.pointer (some ⟨b, of + k.toNat * 1, none⟩), ?_, ⟨b, of, L.length, cap, by rw [← hv]; exact e1, rfl⟩, trivial⟩
  have : (execOp a.eval o) = (do pure (.value (← Instr.indexAt t (a.eval x) (a.eval ix))) : Sem Next) := by unfold execOp; rw [ho]
  rw [this]
  exact run_val e2
/-- the address of an element -/
theorem val_indexG {α : Type} {T : Ty α} {L : List (List α)} {l : List α} {i p tyo ty : Nat} {k : Int} {t el : Nat} {ti te : TI} {x ix : Operand} {ik : IntKind} (ht : tab.ok) (ho : o.op = .indexAddr t x ix) (h1 : tab t = some ti) (h2 : ti.sl = some el) (h3 : tab el = some te) (h4 : te.size = T.s) (h5 : 0 < T.s)
    (hx : evX S.F x = some (.sv (.one (.gs i (p + 1))))) (hm : S.M[i]? = some (gridI tyo ty T L)) (hp : L[p]? = some l) (hi : evK S.F ix = some (.int ik k)) (hk : 0 ≤ k ∧ k < (l.length : Int)) : Val c S o (.sv (.one (.ge i (p + 1) k.toNat T.s))) := fun a w g hs h => by
  have hv : a.eval x = gpart (hs i) (p + 1) := (evX_ok h hx).1
  obtain ⟨cs, r1, _⟩ := grid_row (h.items i _ hm) hp
  rw [← hv] at r1
  obtain ⟨b, of, cap, e1, e2⟩ := run_indexOwn (iv := a.eval ix) ht h1 h2 h3 h4 h5 r1 (evK_ok h hi) hk
  refine ⟨.pointer (some ⟨b, of + k.toNat * T.s, none⟩), ?_, ⟨b, of, l.length, cap, by rw [← hv]; exact e1, rfl⟩, trivial⟩
  have : (execOp a.eval o) = (do pure (.value (← Instr.indexAt t (a.eval x) (a.eval ix))) : Sem Next) := by unfold execOp; rw [ho]
  rw [this]
  exact run_val e2
/-- the cells of an element within a row that is owned -/
theorem own_cell {e s : Nat} {v : Value} {m : Nat} {cs : List Value} (hv : w.ownsAt e s v m cs) {b of cap q : Nat} (e1 : v = .slice (some ⟨b, of, none⟩) m cap) {k j : Nat} {u : Value} (hj : cs[k * s + j]? = some u) : w.cell? ((⟨b, of + k * s, none⟩ : Addr).add j) = some u := by
  obtain ⟨hl0, r1⟩ := hv
  rw [svs_add]
  rcases r1 with ⟨e3, _⟩ | ⟨gb, of', cap', cur, e3, e4, _, _, _, e5⟩
  · rw [e1] at e3; cases e3
  · rw [e1] at e3
    simp at e3
    obtain ⟨⟨rfl, rfl⟩, rfl⟩ := e3
    unfold World.cell?
    rw [e4]
    rw [← e5, List.getElem?_take] at hj
    split at hj
    · rw [List.getElem?_drop] at hj
      simpa [Nat.add_assoc] using hj
    · cases hj
/-- a row -/
theorem val_loadG0 {α : Type} {T : Ty α} {L : List (List α)} {i p tyo ty t : Nat} {ti : TI} {x : Operand} (ht : tab.ok) (ho : o.op = .load t x) (h1 : tab t = some ti) (h3 : ti.agg = false)
    (hx : evX S.F x = some (.sv (.one (.ge i 0 p 1)))) (hm : S.M[i]? = some (gridI tyo ty T L)) (hp : p < L.length) : Val c S o (.sv (.one (.gs i (p + 1)))) := fun a w g hs h => by
  obtain ⟨⟨b, of, nn, cap, e1, e2⟩, _⟩ := evX_ok h hx
  have hit := h.items i _ hm
  obtain ⟨us, r1, r2⟩ := grid_out hit
  obtain ⟨cs, r3, _⟩ := grid_row hit (List.getElem?_eq_getElem hp)
  have htk := ht t ti h1
  have hsl := ownsRow_slice r3
  have hcv : cellV (gpart (hs i) (p + 1)) := by obtain ⟨ao, m, cp, e⟩ := hsl; rw [e]; trivial
  have hnn : nn = L.length := by
    obtain ⟨_, r⟩ := r1
    rcases r with ⟨e3, _⟩ | ⟨gb, of', cap', cur, e3, _⟩
    · rw [e1] at e3; cases e3
    · rw [e1] at e3; simp at e3; exact e3.2.1
  subst hnn
  have hc := own_cell (q := 0) r1 e1 (k := p) (j := 0) (u := gpart (hs i) (p + 1)) (by rw [Nat.mul_one, Nat.add_zero]; exact r2 p hp)
  rw [svs_add, Nat.add_zero, Nat.mul_one] at hc
  have : (execOp a.eval o) = (do pure (.value (← Instr.loadAt t (a.eval x))) : Sem Next) := by unfold execOp; rw [ho]
  rw [this]
  refine ⟨gpart (hs i) (p + 1), run_val ?_, rfl, hcv⟩
  simp only [Instr.loadAt, e2, Instr.sureAddr, loadVar, Sem.run_bind, Sem.run_pure, Result.andThen_ok, htk.run_isAgg]
  rw [h3]
  simp [load, Sem.run, hc]
/-- an element -/
theorem val_loadG {α : Type} {T : Ty α} {L : List (List α)} {l : List α} {i p k tyo ty t : Nat} {y : α} {ti : TI} {x : Operand} (ht : tab.ok) (ho : o.op = .load t x) (h1 : tab t = some ti) (h2 : ti.size = T.s) (h3 : svFits ti (T.sv y) = true)
    (hx : evX S.F x = some (.sv (.one (.ge i (p + 1) k T.s)))) (hm : S.M[i]? = some (gridI tyo ty T L)) (hp : L[p]? = some l) (hy : l[k]? = some y) (hc : (T.sv y).refs = []) : Val c S o (.sv (T.sv y)) := fun a w g hs h => by
  obtain ⟨⟨b, of, nn, cap, e1, e2⟩, _⟩ := evX_ok h hx
  obtain ⟨cs, r1, r2⟩ := grid_row (h.items i _ hm) hp
  have htk := ht t ti h1
  have hnn : nn = l.length := by
    obtain ⟨_, r⟩ := r1
    rcases r with ⟨e3, _⟩ | ⟨gb, of', cap', cur, e3, _⟩
    · rw [e1] at e3; cases e3
    · rw [e1] at e3; simp at e3; exact e3.2.1
  subst hnn
  obtain ⟨u, u1, u2, u3⟩ := row_elem r2 hy
  have : (execOp a.eval o) = (do pure (.value (← Instr.loadAt t (a.eval x))) : Sem Next) := by unfold execOp; rw [ho]
  rw [this]
  have u1' : (T.sv y).ok g hs u := SV.ok_hs (fun i hi => by rw [hc] at hi; cases hi) u1
  refine ⟨u, run_val ?_, u1'⟩
  have hcell : ∀ j v, u.cells.toList[j]? = some v → w.cell? ((⟨b, of + k * T.s, none⟩ : Addr).add j) = some v := fun j v hj => own_cell (q := 0) r1 e1 (u3 j v (by simpa using hj))
  simp only [Instr.loadAt, e2, Instr.sureAddr, loadVar, Sem.run_bind, Sem.run_pure, Result.andThen_ok, htk.run_isAgg]
  cases hsv : T.sv y with
  | agg l' =>
    rw [hsv] at h3 u1
    simp only [svFits] at h3
    rw [h3]
    obtain ⟨cs', rfl, _⟩ := u1
    have hl := run_loadCells_list (P := Try.prog) w ⟨b, of + k * T.s, none⟩ cs' (by simpa [Value.cells] using hcell)
    have e5 : cs'.length = ti.size := by rw [h2, ← u2]; simp [Value.cells]
    rw [e5] at hl
    simp [htk.run_size, hl]
  | one x =>
    rw [hsv] at h3 u1
    have h3' : ti.agg = false ∧ cellV u := by
      have h6 := u1.2
      cases x <;> first | exact ⟨by simpa [svFits] using h3, h6⟩ | (simp [svFits] at h3)
    have hcv : u.cells = #[u] := cellV.cells h3'.2
    rw [h3'.1]
    have := hcell 0 u (by rw [hcv]; rfl)
    rw [svs_add, Nat.add_zero] at this
    simp [load, Sem.run, this]
/-- an element is written into a row that is owned -/
theorem run_storeOwn {α : Type} {T : Ty α} {l : List α} {t e : Nat} {ti : TI} {v pv uv : Value} {k : Nat} {y : α} {cs : List Value} (htk : TI.ok t ti) (h2 : ti.size = T.s) (hT : T.solid) (r : w.ownsAt e T.s v l.length cs) (r2 : rowRead T l g cs) {b of nn cap : Nat} (e1 : v = .slice (some ⟨b, of, none⟩) nn cap) (e2 : pv = .pointer (some ⟨b, of + k * T.s, none⟩)) (hk : k < l.length)
    (hval0 : (T.sv y).ok g hs0 uv) (hz : (svCells (T.sv y)).length = T.s) : ∃ w', (Instr.storeAt t pv uv).run Try.prog w = .ok () w' ∧ w.grownBy w' (some b) ∧ ∃ cs', w'.ownsAt e T.s v l.length cs' ∧ rowRead T (l.set k y) g cs' := by
  obtain ⟨hl0, r1⟩ := r
  have hcells := sv_cells (hT y) hval0
  have hlen : uv.cells.toList.length = T.s := by rw [← oks_length hcells]; exact hz
  rcases r1 with ⟨e3, e4⟩ | ⟨gb, of', cap', cur, e3, e4, e5, e6, e7, e8⟩
  · omega
  · rw [e1] at e3
    simp at e3
    obtain ⟨⟨rfl, rfl⟩, rfl, rfl⟩ := e3
    have hkl : k * T.s + T.s ≤ l.length * T.s := by rw [← Nat.succ_mul]; exact Nat.mul_le_mul_right _ hk
    have hlc : of + l.length * T.s ≤ cur.size := Nat.le_trans (Nat.add_le_add_left (Nat.mul_le_mul_right _ e5) _) e7
    have hst := run_storeCells_at (P := Try.prog) b (of + k * T.s) e uv.cells.toList 0 cur w e4 (by rw [hlen, Nat.add_zero, Nat.add_assoc]; exact Nat.le_trans (Nat.add_le_add_left hkl _) hlc) (fun u hu => (oks_cells hcells u hu).one)
    simp only [Nat.add_zero] at hst
    refine ⟨w.setRow b (cur.toList.take (of + k * T.s) ++ uv.cells.toList ++ cur.toList.drop (of + k * T.s + uv.cells.toList.length)).toArray, ?_, ?_, ?_⟩
    · simp only [Instr.storeAt, e2, Instr.sureAddr, storeVar, Sem.run_bind, Sem.run_pure, Result.andThen_ok, htk.run_size]
      rw [if_neg (by rw [h2]; simp at hlen; simp [hlen])]
      simp only [hst, Result.andThen_ok, Sem.run_pure]
    · exact ⟨rfl, rfl, rfl, by simp, fun q hq hne => setRow_other w b q _ (fun e => hne (by rw [e]))⟩
    · have hset := r2.set hk hval0 (by rw [← hlen]; simp)
      refine ⟨_, ⟨by have := hset.length; rw [List.length_set] at this; exact this, .inr ⟨b, of, cap, _, by rw [e1], setRow_heap w b _ _ _ _ e4, e5, e6, ?_, ?_⟩⟩, hset⟩
      · simp only [List.size_toArray, List.length_append, List.length_take, List.length_drop, Array.length_toList] at hlen ⊢
        omega
      · show (List.drop of (_ ++ uv.cells.toList ++ _)).take _ = _
        rw [drop_seg _ _ (by rw [Array.length_toList]; exact Nat.le_trans (Nat.add_le_add_left (Nat.le_trans (Nat.le_add_right _ _) hkl) _) hlc), ← e8, hlen]
        exact seg_take (cur.toList.drop of) uv.cells.toList (k * T.s) T.s (l.length * T.s) hlen hkl (by rw [List.length_drop, Array.length_toList]; exact Nat.le_sub_of_add_le (by rw [Nat.add_comm]; exact hlc))
/-- an element is written -/
theorem WL.storeG {α : Type} {T : Ty α} {L : List (List α)} {l : List α} {i p k tyo ty t : Nat} {y : α} {ti : TI} {x v : Operand} {S1 : St} (ht : tab.ok) (hn : c.n = n) (hw : wantE ops S.F o = some true) (ho : o.op = .store t x v) (h1 : tab t = some ti) (h2 : ti.size = T.s) (hT : T.solid)
    (hx : evX S.F x = some (.sv (.one (.ge i (p + 1) k T.s)))) (hm : S.M[i]? = some (gridI tyo ty T L)) (hp : L[p]? = some l) (hk : k < l.length) (hv : evX S.F v = some (.sv (T.sv y))) (hz : (svCells (T.sv y)).length = T.s) (hc : (T.sv y).refs = [])
    (e : putE n o.dst (.tup []) ⟨S.F, S.M.set i (gridI tyo ty T (L.set p (l.set k y)))⟩ = some S1) (h : WL c ops rest S1 N) : WL c ops (o :: rest) S N := fun a w ⟨g, hs, hh⟩ => by
  unfold wpList
  rw [if_pos (wantE_ok hh hw)]
  refine .inl ?_
  unfold Oper.wp
  obtain ⟨⟨b, of, nn, cap, e1, e2⟩, _⟩ := evX_ok hh hx
  have hit := hh.items i _ hm
  obtain ⟨cs, r1, r2⟩ := grid_row hit hp
  have hval : (T.sv y).ok g hs (a.eval v) := evX_ok hh hv
  have hval0 : (T.sv y).ok g hs0 (a.eval v) := SV.ok_hs (fun i hi => by rw [hc] at hi; cases hi) hval
  obtain ⟨w', k1, k2, cs', k3, k4⟩ := run_storeOwn (ht t ti h1) h2 hT r1 r2 e1 e2 hk hval0 hz
  obtain ⟨us, ocs, u1, u2, u3, u3', u4, u4', u5⟩ := hit
  have hpl := (List.getElem?_eq_some_iff.1 hp).1
  rw [List.length_map] at u2
  have hbp : blk (gpart (hs i) (p + 1)) = some b := by rw [e1]; rfl
  have hne : ∀ q, q < us.length → q ≠ p + 1 → (gpart (hs i) q).ownBlock = none ∨ (gpart (hs i) q).ownBlock ≠ some b := fun q hq hqp => by
    cases hb : (gpart (hs i) q).ownBlock with
    | none => exact .inl rfl
    | some b' => exact .inr (fun e => by cases e; exact u5 (p + 1) q b (by omega) hq (fun e => hqp e.symm) hbp (ownBlock_blk' hb))
  have hup := hh.updK (w' := w') (it' := gridI tyo ty T (L.set p (l.set k y))) hm rfl rfl (kb := some b) (fun b' e => by cases e; exact Blk.part u1 (by omega) hbp) k2 (by
    refine ⟨us, ocs, u1, by rw [List.length_map, List.length_set]; exact u2, ?_, u3', fun q r n hq => ?_, fun q hq => by rw [List.getElem?_map] at hq; cases hx : (L.set p (l.set k y))[q]? <;> (rw [hx] at hq; simp at hq), u5⟩
    · rw [List.length_map, List.length_set]
      rw [List.length_map] at u3
      exact u3.kept k2 (hne 0 (by omega) (by omega))
    · rw [List.getElem?_map, List.getElem?_set] at hq
      by_cases e : p = q
      · subst e
        rw [if_pos rfl, if_pos hpl] at hq
        simp only [Option.map_some, Option.some.injEq, Prod.mk.injEq] at hq
        obtain ⟨rfl, rfl⟩ := hq
        rw [List.length_set]
        exact ⟨(u4 p (rowR T l) l.length (by rw [List.getElem?_map, hp]; rfl)).1, cs', k3, k4⟩
      · rw [if_neg e] at hq
        obtain ⟨k0, cs2, k5, k6⟩ := u4 q r n (by rw [List.getElem?_map]; exact hq)
        have hql : q < L.length := by
          cases hL : L[q]? with
          | none => rw [hL] at hq; simp at hq
          | some _ => exact (List.getElem?_eq_some_iff.1 hL).1
        exact ⟨k0, cs2, k5.kept k2 (hne (q + 1) (by omega) (by omega)), k6⟩)
  have hrun : (execOp a.eval o).run Try.prog w = .ok .skip w' := by
    have : execOp a.eval o = (do Instr.storeAt t (a.eval x) (a.eval v); pure .skip : Sem Next) := by unfold execOp; rw [ho]
    rw [this]
    simp only [Sem.run_bind, k1, Result.andThen_ok, Sem.run_pure]
  rw [hrun]
  exact h _ _ ⟨g, hs, putE_ok hup hn undef_ok e⟩
end
end Go.Proofs.Ytapnmjeadbhffaa

/- Symbolic states of a walk: rows of rows, all of the call's own (grids): sealed. No condition. -/
namespace Go.Proofs.Ytapnmjeadbhffaa
open Go.RowKit Go.MapKept
set_option linter.unusedSimpArgs false
set_option linter.unusedVariables false
set_option maxRecDepth 100000

def At.subG (a : At) (i : Nat) (b : At) : At := match a with
  | .gs j 0 => match Nat.beq j i with
    | true => b
    | false => .gs j 0
  | a => a
def SV.subG (s : SV) (i : Nat) (b : At) : SV := match s with
  | .one a => .one (a.subG i b)
  | .agg l => .agg (l.map (·.subG i b))
def SC.subG (x : SC) (i : Nat) (b : At) : SC := match x with
  | .sv s => .sv (s.subG i b)
  | .tup l => .tup (l.map (·.subG i b))
def Item.subG (it : Item) (i : Nat) (b : At) : Item := match it with
  | .box cells ty fz => .box (cells.map (·.subG i b)) ty fz
  | it => it
section
variable {g : Gh} {hs : Nat → Value} {i : Nat} {b : At}
theorem At.subG_ok (hb : b.ok g hs (gpart (hs i) 0)) {a : At} {u : Value} (h : a.ok g hs u) : (a.subG i b).ok g hs u := by
  unfold At.subG
  split
  · rename_i j
    cases hj : Nat.beq j i with
    | true =>
      have := Nat.eq_of_beq_eq_true hj
      subst this
      have : u = gpart (hs j) 0 := h.1
      subst this
      exact hb
    | false => exact h
  · exact h
theorem oks_subG (hb : b.ok g hs (gpart (hs i) 0)) : ∀ {l : List At} {us : List Value}, oks g hs l us → oks g hs (l.map (·.subG i b)) us
  | [], [], _ => trivial
  | [], _ :: _, h => h.elim
  | _ :: _, [], h => h.elim
  | _ :: _, _ :: _, h => ⟨At.subG_ok hb h.1, h.2.1, oks_subG hb h.2.2⟩
theorem SV.subG_ok (hb : b.ok g hs (gpart (hs i) 0)) {a : SV} {u : Value} (h : a.ok g hs u) : (a.subG i b).ok g hs u := by
  cases a with
  | one a => exact At.subG_ok hb h
  | agg l =>
    obtain ⟨cs, h1, h2⟩ := h
    exact ⟨cs, h1, oks_subG hb h2⟩
theorem svs_subG (hb : b.ok g hs (gpart (hs i) 0)) : ∀ {l : List SV} {us : List Value}, SV.oks g hs l us → SV.oks g hs (l.map (·.subG i b)) us
  | [], [], _ => trivial
  | [], _ :: _, h => h.elim
  | _ :: _, [], h => h.elim
  | _ :: _, _ :: _, h => ⟨SV.subG_ok hb h.1, svs_subG hb h.2⟩
theorem SC.subG_ok (hb : b.ok g hs (gpart (hs i) 0)) {a : SC} {u : Value} (h : a.ok g hs u) : (a.subG i b).ok g hs u := by
  cases a with
  | sv s => exact SV.subG_ok hb h
  | tup l =>
    obtain ⟨cs, h1, h2⟩ := h
    exact ⟨cs, h1, svs_subG hb h2⟩
end
section
variable {c : Cfg} {S S1 : St} {a : Act} {w : World} {g : Gh} {hs : Nat → Value} {tab : Tab} {n : Nat} {o : Oper} {ops : Array Oper} {rest L : List Oper} {N : Po}
theorem grid_LS {α : Type} {T : Ty α} {L : List (List α)} {tyo ty : Nat} {v : Value} {g' : Gh} (h : (gridI tyo ty T L).ok g hs w v) (hle : Gh.le g g') (hb : ∀ b, Blk v b → g' b = w.heap[b]?) : (LS (lsT T) L).ok g' hs (gpart v 0) := by
  have hrow := fun p l hp => grid_row h (p := p) (l := l) hp
  obtain ⟨us, ocs, hv, h2, h3, hsl, h4, _, h5⟩ := h
  rw [List.length_map] at h2 h3
  have hg : ∀ k, k < us.length → ∀ b, (gpart v k).ownBlock = some b → g' b = w.heap[b]? := fun k hk b e => hb b (Blk.part hv hk (ownBlock_blk' e))
  have hlo : ocs.length = L.length := by have := h3.1; omega
  have hd : ∀ p u, ocs[p]? = some u → p < L.length ∧ u = gpart v (p + 1) := fun p u hp => by
    have hlt := (List.getElem?_eq_some_iff.1 hp).1
    have hlt' : p < L.length := by omega
    refine ⟨hlt', ?_⟩
    have := (h4 p (rowR T L[p]) L[p].length (by rw [List.getElem?_map, List.getElem?_eq_getElem hlt']; rfl)).1
    rw [hp] at this
    exact Option.some.inj this
  have hcell : ∀ u ∈ ocs, u.cells = #[u] := fun u hu => by
    obtain ⟨ao, m, cp, e⟩ := hsl u hu
    rw [e]
    rfl
  have h3' : w.ownsAt tyo (lsT T).s (gpart v 0) L.length ocs := h3
  refine row_LS h3' (g := g') ⟨ocs, ?_, hlo, fun k u l hu hl => ?_⟩ (fun _ _ e => e) (hg 0 (by omega))
  · have : ∀ l : List Value, (∀ u ∈ l, u.cells = #[u]) → l = l.flatMap fun u => u.cells.toList := fun l => by
      induction l with
      | nil => intro _; rfl
      | cons u l ih =>
        intro hc
        rw [List.flatMap_cons, hc u List.mem_cons_self, ← ih fun x hx => hc x (List.mem_cons_of_mem _ hx)]
        rfl
    exact this _ hcell
  · obtain ⟨h6, rfl⟩ := hd k u hu
    obtain ⟨cs, r1, r2⟩ := hrow k l hl
    refine ⟨row_LS r1 r2 hle (hg (k + 1) (by omega)), ?_⟩
    rw [hcell _ (List.mem_of_getElem? hu)]
    rfl
/-- the state behind the change -/
def sealG (S : St) (i : Nat) (b : At) : St := ⟨S.F.map fun e => (e.1, e.2.subG i b), (S.M.set i .gone).map (·.subG i b)⟩
theorem Ok'.sealG' {α : Type} {T : Ty α} {L : List (List α)} {tyo ty i : Nat} (h : Ok' c S a w g hs) (hm : S.M[i]? = some (gridI tyo ty T L)) : ∃ g', Gh.le g g' ∧ (∀ b, Blk (hs i) b → g' b = w.heap[b]?) ∧ Ok' c (sealG S i (LS (lsT T) L)) a w g' hs := by
  classical
  have hit := h.items i _ hm
  have hmine := h.mine i _ hm (by simp)
  let g' : Gh := fun x => if Blk (hs i) x then w.heap[x]? else g x
  have hle : Gh.le g g' := fun x o e => by
    show (if Blk (hs i) x then _ else g x) = some o
    by_cases hx : Blk (hs i) x
    · have := (hmine x hx).2 rfl
      rw [this.2] at e
      cases e
    · rw [if_neg hx]; exact e
  have hb : (LS (lsT T) L).ok g' hs (gpart (hs i) 0) := grid_LS hit hle (fun b hb => if_pos hb)
  have hset : ∀ (j : Nat) (jt : Item), ((S.M.set i .gone).map (·.subG i (LS (lsT T) L)))[j]? = some jt → jt ≠ .gone → ∃ kt, j ≠ i ∧ S.M[j]? = some kt ∧ jt = kt.subG i (LS (lsT T) L) ∧ kt ≠ .gone ∧ jt.fz = kt.fz := fun j jt hj hn => by
    rw [List.getElem?_map, List.getElem?_set] at hj
    by_cases e : i = j
    · rw [if_pos e] at hj
      split at hj
      · simp [Item.subG] at hj
        exact absurd hj.symm hn
      · cases hj
    · rw [if_neg e] at hj
      cases hk : S.M[j]? with
      | none => rw [hk] at hj; cases hj
      | some kt =>
        rw [hk] at hj
        simp at hj
        refine ⟨kt, Ne.symm e, rfl, hj.symm, fun e => ?_, ?_⟩
        · subst e; exact hn hj.symm
        · rw [← hj]; cases kt <;> rfl
  refine ⟨g', hle, fun b hb => if_pos hb, h.size, h.defers, ⟨h.base.os, h.base.tape, h.base.output, h.base.grows, h.base.frame, h.base.ghle.trans hle, fun x o e => ?_, fun x o e => ?_⟩, fun t x hx => ?_, fun j jt hj => ?_, fun j k jt kt hjk hj hk hfj hnk x hx => ?_, fun j jt hj hnj x hx => ?_⟩
  · by_cases hx : Blk (hs i) x
    · exact .inr ((hmine x hx).2 rfl).1
    · rw [show g' x = g x from if_neg hx] at e
      exact h.base.ghnew x o e
  · by_cases hx : Blk (hs i) x
    · rw [show g' x = w.heap[x]? from if_pos hx] at e
      exact e
    · rw [show g' x = g x from if_neg hx] at e
      exact h.base.pers x o e
  · obtain ⟨y, hy, e⟩ := List.mem_map.1 hx
    cases e
    exact SC.subG_ok hb (SC.mono hle (h.slots _ _ hy))
  · by_cases hn : jt = .gone
    · subst hn; trivial
    · obtain ⟨kt, h1, h2, rfl, h3, _⟩ := hset j jt hj hn
      have h4 := Item.mono hle (h.items j kt h2)
      cases kt with
      | box cells ty fz =>
        obtain ⟨b, us, k1, k2, k3, k4⟩ := h4
        exact ⟨b, us, k1, oks_subG hb k2, k3, k4⟩
      | _ => exact h4
  · obtain ⟨jt', h1, h2, rfl, h3, h4⟩ := hset j jt hj (fz_gone hfj)
    obtain ⟨kt', k1, k2, rfl, k3, k4⟩ := hset k kt hk hnk
    exact h.sep j k jt' kt' hjk h2 k2 (by rw [← h4]; exact hfj) k3 x hx
  · obtain ⟨jt', h1, h2, rfl, h3, h4⟩ := hset j jt hj hnj
    obtain ⟨m1, m2⟩ := h.mine j jt' h2 h3 x hx
    refine ⟨m1, fun hf => ?_⟩
    rw [h4] at hf
    refine ⟨(m2 hf).1, ?_⟩
    have hx' : ¬ Blk (hs i) x := fun e => h.sep j i jt' _ h1 h2 hm hf (by simp) x hx e
    rw [show g' x = g x from if_neg hx']
    exact (m2 hf).2
theorem Ok'.sealG {α : Type} {T : Ty α} {L : List (List α)} {tyo ty i : Nat} (h : Ok' c S a w g hs) (hm : S.M[i]? = some (gridI tyo ty T L)) : ∃ g', Ok' c (Proofs.Ytapnmjeadbhffaa.sealG S i (LS (lsT T) L)) a w g' hs := by
  obtain ⟨g', _, _, h'⟩ := h.sealG' hm
  exact ⟨g', h'⟩
theorem WL.sealG {α : Type} {T : Ty α} {L' : List (List α)} {tyo ty : Nat} (i : Nat) (hm : S.M[i]? = some (gridI tyo ty T L')) (h : WL c ops L (sealG S i (LS (lsT T) L')) N) : WL c ops L S N := fun a w ⟨g, hs, hk⟩ => by
  obtain ⟨g', hk'⟩ := hk.sealG hm
  exact h a w ⟨g', hs, hk'⟩
theorem En.sealG {α : Type} {T : Ty α} {L' : List (List α)} {tyo ty : Nat} (i : Nat) (hm : S.M[i]? = some (gridI tyo ty T L')) (h : En c (Proofs.Ytapnmjeadbhffaa.sealG S i (LS (lsT T) L')) N) : En c S N := fun a w ⟨g, hs, hk⟩ => by
  obtain ⟨g', hk'⟩ := hk.sealG hm
  exact h a w ⟨g', hs, hk'⟩
theorem own_slice {e : TypeId} {s m : Nat} {v : Value} {cs : List Value} (h : w.ownsAt e s v m cs) : ∃ ao cap, v = .slice ao m cap := by
  obtain ⟨_, h⟩ := h
  rcases h with ⟨rfl, rfl⟩ | ⟨gb, of, cap, cur, rfl, _⟩
  · exact ⟨none, 0, rfl⟩
  · exact ⟨_, cap, rfl⟩
theorem run_lenOwn {t el : Nat} {ti : TI} {x : Operand} {e : TypeId} {s m : Nat} {cs : List Value} (ht : tab.ok) (ho : o.op = .call ⟨.builtin .len, #[x], #[t]⟩) (h1 : tab t = some ti) (h2 : ti.sl = some el) (h : w.ownsAt e s (a.eval x) m cs) : (execOp a.eval o).run Try.prog w = .ok (.value (.int .i64 m)) w := by
  have hu := slT_some ((ht t ti h1).sl.trans h2)
  obtain ⟨ao, cap, e1⟩ := own_slice h
  have : execOp a.eval o = (do pure (.value (← Builtin.len_ #[t] o.type #[a.eval x])) : Sem Next) := by
    unfold execOp
    rw [ho]
    simp [resolve, invoke, builtin]
  rw [this, e1]
  exact run_val (len_slice hu w)
/-- how many rows -/
theorem val_lenG0 {α : Type} {T : Ty α} {L : List (List α)} {i tyo ty t el : Nat} {ti : TI} {x : Operand} (ht : tab.ok) (ho : o.op = .call ⟨.builtin .len, #[x], #[t]⟩) (h1 : tab t = some ti) (h2 : ti.sl = some el) (hx : evX S.F x = some (.sv (.one (.gs i 0)))) (hm : S.M[i]? = some (gridI tyo ty T L)) : Val c S o (.sv (.one (I (L.length : Int)))) := fun a w g hs h => by
  obtain ⟨us, r1, _⟩ := grid_out (h.items i _ hm)
  have hv : a.eval x = gpart (hs i) 0 := (evX_ok h hx).1
  rw [← hv] at r1
  exact ⟨_, run_lenOwn ht ho h1 h2 r1, rfl, trivial⟩
def nilT : Ty Unit := ⟨1, fun _ => .one (.v (.slice none 0 0))⟩
theorem nil_cells {k : Nat} {cs : List Value} (h : rowRead nilT (List.replicate k ()) g cs) : cs = List.replicate k (.slice none 0 0) := by
  obtain ⟨us, rfl, h2, h3⟩ := h
  have hu : ∀ u ∈ us, u = .slice none 0 0 := fun u hu => by
    obtain ⟨q, hq⟩ := List.mem_iff_getElem?.1 hu
    have hlt := (List.getElem?_eq_some_iff.1 hq).1
    rw [h2, List.length_replicate] at hlt
    exact (h3 q u () hq (by simp [hlt])).1.1
  have e : us = List.replicate k (.slice none 0 0) := List.eq_replicate_iff.2 ⟨by rw [h2, List.length_replicate], hu⟩
  subst e
  clear hu h2 h3
  induction k with
  | zero => rfl
  | succ k ih =>
    rw [List.replicate_succ, List.flatMap_cons, ih]
    rfl
/-- make: a row of rows that are nothing -/
theorem mt_makeG {α : Type} (T : Ty α) (ty : Nat) {zv : Value} (p : Nat) {t e : Nat} {ti te : TI} {x y : Operand} {k1 k2 : IntKind} {l cp : Int} (ht : tab.ok) (ho : o.op = .makeSlice t x y) (h1 : tab t = some ti) (h2 : ti.sl = some e) (h3 : tab e = some te) (h4 : te.size = 1)
    (hx : evK S.F x = some (.int k1 l)) (hy : evK S.F y = some (.int k2 cp)) (hl0 : 0 ≤ l) (hlc : l ≤ cp) (hb : cp * te.bytes ≤ 140737488355328) (hb2 : cp ≤ 140737488355328) (hzc : zv.cells.toList = te.zero) (hz : zv = .slice none 0 0) :
    MT c S o (.sv (.one (.gs p 0))) [] (some (p, gridI e ty T (List.replicate l.toNat []))) := fun a w g hs h N Z hN =>
  mt_make (T := nilT) () p ht ho h1 h2 h3 h4 (by decide) hx hy hl0 hlc hb hb2 hzc (fun _ => by subst hz; exact ⟨rfl, trivial⟩) a w g hs h N Z fun v w' g' h' m1 m2 m3 => by
    obtain ⟨⟨cs, k1, k2⟩, k3⟩ := m3
    have hcs := nil_cells k2
    subst hcs
    rw [List.length_replicate] at k1
    have hv : v = h' := by
      have := m2.1
      have e : newH hs (some (p, rowI e nilT (List.replicate l.toNat ()))) h' p = h' := by simp [newH]
      exact this.trans e
    refine hN v w' g' (.tuple (h' :: List.replicate l.toNat (.slice none 0 0)).toArray) m1 ⟨?_, m2.2⟩ ⟨⟨_, List.replicate l.toNat (.slice none 0 0), rfl, ?_, ?_, fun u hu => ⟨none, 0, 0, List.eq_of_mem_replicate hu⟩, fun q r n hq => ?_, fun q hq => ?_, fun q q' b hq hq' hne hb1 hb2 => ?_⟩, fun b hb1 => ?_⟩
    · show v = gpart (if p = p then _ else hs p) 0
      rw [if_pos rfl, hv]
      rfl
    · simp
    · rw [List.length_map, List.length_replicate]
      exact k1
    · rw [List.getElem?_map, List.getElem?_replicate] at hq
      split at hq
      · rename_i hlt
        simp only [Option.map_some, Option.some.injEq, Prod.mk.injEq] at hq
        obtain ⟨rfl, rfl⟩ := hq
        have : gpart (.tuple (h' :: List.replicate l.toNat (.slice none 0 0)).toArray) (q + 1) = .slice none 0 0 := by
          show (h' :: List.replicate l.toNat (.slice none 0 0)).getD (q + 1) undef = _
          simp [hlt]
        rw [this]
        refine ⟨by simp [hlt], [], ?_, rowRead.nil⟩
        exact World.ownsAt_nil _ _ _
      · cases hq
    · rw [List.getElem?_map, List.getElem?_replicate] at hq
      split at hq <;> simp at hq
    · have hnil : ∀ q, q < l.toNat + 1 → q ≠ 0 → blk (gpart (.tuple (h' :: List.replicate l.toNat (.slice none 0 0)).toArray) q) = none := fun q hq h0 => by
        obtain ⟨k, rfl⟩ : ∃ k, q = k + 1 := ⟨q - 1, by omega⟩
        show blk ((h' :: List.replicate l.toNat (.slice none 0 0)).getD (k + 1) undef) = none
        have : k < l.toNat := by omega
        simp [this, blk]
      simp only [List.length_cons, List.length_replicate] at hq hq'
      by_cases e1 : q = 0
      · rw [hnil q' hq' (by omega)] at hb2
        cases hb2
      · rw [hnil q hq e1] at hb1
        cases hb1
    · obtain ⟨u, hu, hub⟩ := hb1
      rcases List.mem_cons.1 hu with rfl | hu
      · exact k3 b (Blk.of hub)
      · rw [List.eq_of_mem_replicate hu] at hub
        cases hub
end
end Go.Proofs.Ytapnmjeadbhffaa

/- Symbolic states of a walk: rows of rows, all of the call's own (grids): a row put in, a row taken out, lent. No condition. -/
namespace Go.Proofs.Ytapnmjeadbhffaa
open Go.RowKit Go.MapKept
set_option linter.unusedSimpArgs false
set_option linter.unusedVariables false
set_option maxRecDepth 100000

/-- what does not speak of piece j, and of the grid i by its outer row alone -/
def At.keepG (i j : Nat) : At → Bool
  | .gs k q => !(Nat.beq k j) && (!(Nat.beq k i) || Nat.beq q 0)
  | .ge k q _ _ => !(Nat.beq k j) && (!(Nat.beq k i) || Nat.beq q 0)
  | a => a.refs.all fun k => !(Nat.beq k j) && !(Nat.beq k i)
def SV.keepG (i j : Nat) : SV → Bool
  | .one a => a.keepG i j
  | .agg l => l.all (·.keepG i j)
def SC.keepG (i j : Nat) : SC → Bool
  | .sv s => s.keepG i j
  | .tup l => l.all (·.keepG i j)
def Item.keepG (i j : Nat) : Item → Bool
  | .box cells _ _ => cells.all (·.keepG i j)
  | .iter k _ => !(Nat.beq k j) && !(Nat.beq k i)
  | _ => true
def dropG (i j : Nat) (F : List (Nat × SC)) : List (Nat × SC) := F.filter fun e => e.2.keepG i j
theorem beq_ne {a b : Nat} (h : (!(Nat.beq a b)) = true) : a ≠ b := fun e => by subst e; simp at h
section
variable {g : Gh} {hs hs' : Nat → Value} {i j : Nat}
theorem At.keepG_ok (h0 : gpart (hs' i) 0 = gpart (hs i) 0) (h1 : ∀ k, k ≠ i → k ≠ j → hs' k = hs k) {a : At} {u : Value} (hk : a.keepG i j = true) (h : a.ok g hs u) : a.ok g hs' u := by
  have gen : ∀ a : At, (a.refs.all fun k => !(Nat.beq k j) && !(Nat.beq k i)) = true → a.ok g hs u → a.ok g hs' u := fun a hk h => At.ok_hs (fun k hk' => by
    have := List.all_eq_true.1 hk k hk'
    rw [Bool.and_eq_true] at this
    exact h1 k (beq_ne this.2) (beq_ne this.1)) h
  have gp : ∀ k q, (!(Nat.beq k j) && (!(Nat.beq k i) || Nat.beq q 0)) = true → gpart (hs' k) q = gpart (hs k) q := fun k q hk => by
    rw [Bool.and_eq_true, Bool.or_eq_true] at hk
    by_cases e : k = i
    · subst e
      rcases hk.2 with h2 | h2
      · exact absurd rfl (beq_ne h2)
      · have := Nat.eq_of_beq_eq_true h2
        subst this
        exact h0
    · rw [h1 k e (beq_ne hk.1)]
  cases a with
  | gs k q =>
    obtain ⟨h2, h3⟩ := h
    refine ⟨?_, h3⟩
    show u = gpart (hs' k) q
    rw [gp k q hk]
    exact h2
  | ge k q m s =>
    obtain ⟨⟨b, o, n, cap, h2, h3⟩, h4⟩ := h
    exact ⟨⟨b, o, n, cap, by rw [gp k q hk]; exact h2, h3⟩, h4⟩
  | _ => exact gen _ hk h
theorem oks_keepG (h0 : gpart (hs' i) 0 = gpart (hs i) 0) (h1 : ∀ k, k ≠ i → k ≠ j → hs' k = hs k) : ∀ {l : List At} {us : List Value}, l.all (·.keepG i j) = true → oks g hs l us → oks g hs' l us
  | [], [], _, _ => trivial
  | [], _ :: _, _, h => h.elim
  | _ :: _, [], _, h => h.elim
  | _ :: _, _ :: _, hk, h => by
    rw [List.all_cons, Bool.and_eq_true] at hk
    exact ⟨At.keepG_ok h0 h1 hk.1 h.1, h.2.1, oks_keepG h0 h1 hk.2 h.2.2⟩
theorem SV.keepG_ok (h0 : gpart (hs' i) 0 = gpart (hs i) 0) (h1 : ∀ k, k ≠ i → k ≠ j → hs' k = hs k) {a : SV} {u : Value} (hk : a.keepG i j = true) (h : a.ok g hs u) : a.ok g hs' u := by
  cases a with
  | one a => exact At.keepG_ok h0 h1 hk h
  | agg l =>
    obtain ⟨cs, h2, h3⟩ := h
    exact ⟨cs, h2, oks_keepG h0 h1 hk h3⟩
theorem svs_keepG (h0 : gpart (hs' i) 0 = gpart (hs i) 0) (h1 : ∀ k, k ≠ i → k ≠ j → hs' k = hs k) : ∀ {l : List SV} {us : List Value}, l.all (·.keepG i j) = true → SV.oks g hs l us → SV.oks g hs' l us
  | [], [], _, _ => trivial
  | [], _ :: _, _, h => h.elim
  | _ :: _, [], _, h => h.elim
  | _ :: _, _ :: _, hk, h => by
    rw [List.all_cons, Bool.and_eq_true] at hk
    exact ⟨SV.keepG_ok h0 h1 hk.1 h.1, svs_keepG h0 h1 hk.2 h.2⟩
theorem SC.keepG_ok (h0 : gpart (hs' i) 0 = gpart (hs i) 0) (h1 : ∀ k, k ≠ i → k ≠ j → hs' k = hs k) {a : SC} {u : Value} (hk : a.keepG i j = true) (h : a.ok g hs u) : a.ok g hs' u := by
  cases a with
  | sv s => exact SV.keepG_ok h0 h1 hk h
  | tup l =>
    obtain ⟨us, h2, h3⟩ := h
    exact ⟨us, h2, svs_keepG h0 h1 hk h3⟩
theorem Item.keepG_ok (h0 : gpart (hs' i) 0 = gpart (hs i) 0) (h1 : ∀ k, k ≠ i → k ≠ j → hs' k = hs k) {w : World} {x : Value} {it : Item} (hk : it.keepG i j = true) (h : it.ok g hs w x) : it.ok g hs' w x := by
  cases it with
  | box cells ty fz =>
    obtain ⟨b, cs, h2, h3, h4⟩ := h
    exact ⟨b, cs, h2, oks_keepG h0 h1 hk h3, h4⟩
  | iter k r =>
    obtain ⟨rb, m, clock, seen, h2, h3, h4⟩ := h
    rw [Item.keepG, Bool.and_eq_true] at hk
    exact ⟨rb, m, clock, seen, h2, (h1 k (beq_ne hk.2) (beq_ne hk.1)).trans h3, h4⟩
  | _ => exact h
end
/-- values as they are -/
def rawT : Ty Value := ⟨1, fun v => .one (.v v)⟩
theorem rawT_solid : rawT.solid := fun a e => by cases e
theorem raw_cells {g : Gh} {l cs : List Value} (h : rowRead rawT l g cs) : cs = l := by
  obtain ⟨us, rfl, h2, h3⟩ := h
  induction us generalizing l with
  | nil => cases l with
    | nil => rfl
    | cons _ _ => simp at h2
  | cons u us ih =>
    cases l with
    | nil => simp at h2
    | cons v l =>
      obtain ⟨⟨h4, h5⟩, _⟩ := h3 0 u v rfl rfl
      have h4 : u = v := h4
      subst h4
      rw [List.flatMap_cons, cellV.cells h5, ih (by simpa using h2) fun q x y hx hy => h3 (q + 1) x y (by simpa using hx) (by simpa using hy)]
      rfl
theorem raw_read {g : Gh} {l : List Value} (h : ∀ u ∈ l, ∃ ao m cap, u = .slice ao m cap) : rowRead rawT l g l := by
  have hc : ∀ u ∈ l, cellV u := fun u hu => by obtain ⟨_, _, _, rfl⟩ := h u hu; trivial
  clear h
  refine ⟨l, ?_, rfl, fun q u v hu hv => ?_⟩
  · induction l with
    | nil => rfl
    | cons u l ih =>
      rw [List.flatMap_cons, cellV.cells (hc u List.mem_cons_self), ← ih fun x hx => hc x (List.mem_cons_of_mem _ hx)]
      rfl
  · rw [hu] at hv
    cases hv
    have h1 := hc u (List.mem_of_getElem? hu)
    exact ⟨⟨rfl, h1⟩, by rw [cellV.cells h1]; rfl⟩
theorem gpart_set_same {us : List Value} {k : Nat} {v : Value} (h : k < us.length) : gpart (.tuple (us.set k v).toArray) k = v := by
  show (us.set k v).getD k undef = v
  simp [h]
theorem gpart_set_ne {us : List Value} {k q : Nat} {v : Value} (h : q ≠ k) : gpart (.tuple (us.set k v).toArray) q = gpart (.tuple us.toArray) q := by
  show (us.set k v).getD q undef = us.getD q undef
  simp [List.getD_eq_getElem?_getD, List.getElem?_set, Ne.symm h]
theorem Blk_set {us : List Value} {k b : Nat} {v : Value} (h : Blk (.tuple (us.set k v).toArray) b) : Blk (.tuple us.toArray) b ∨ blk v = some b := by
  obtain ⟨u, hu, e⟩ := h
  rcases List.mem_or_eq_of_mem_set hu with h1 | h1
  · exact .inl ⟨u, h1, e⟩
  · exact .inr (h1 ▸ e)
section
variable {c : Cfg} {S S1 : St} {a : Act} {w : World} {g : Gh} {hs : Nat → Value} {tab : Tab} {n : Nat} {o : Oper} {ops : Array Oper} {rest : List Oper} {N : Po}
/-- a row of the call's own becomes a row of the grid -/
theorem Ok'.putG (h : Ok' c S a w g hs) {i j p tyo ty s m : Nat} {rows : List (Option (Rl (List Value) × Nat))} {r : Rl (List Value)} (hm : S.M[i]? = some (.grid tyo ty s rows)) (hj : S.M[j]? = some (.row ty s r m)) (hp : p < rows.length)
    {b of nn cap : Nat} (e1 : gpart (hs i) 0 = .slice (some ⟨b, of, none⟩) nn cap) {t : Nat} {ti : TI} (htk : TI.ok t ti) (hts : ti.size = 1) (hkM : S.M.all (·.keepG i j) = true) :
    ∃ w' hs', (Instr.storeAt t (.pointer (some ⟨b, of + p * 1, none⟩)) (hs j)).run Try.prog w = .ok () w' ∧ Ok' c ⟨dropG i j S.F, (S.M.set i (.grid tyo ty s (rows.set p (some (r, m))))).set j .gone⟩ a w' g hs' := by
  have hij : i ≠ j := fun e => by subst e; rw [hm] at hj; cases hj
  have hit := h.items i _ hm
  obtain ⟨csj, hcj, hrj⟩ := h.items j _ hj
  obtain ⟨us, ocs, u1, u2, u3, u3', u4, u4', u5⟩ := hit
  have hlo : ocs.length = rows.length := by have := u3.1; omega
  have hslj := own_slice hcj
  have hcvj : cellV (hs j) := by obtain ⟨_, _, e⟩ := hslj; rw [e]; trivial
  have hcj1 := cellV.cells hcvj
  rw [← hlo] at u3
  obtain ⟨w', k1, k2, cs', k3, k4⟩ := run_storeOwn (T := rawT) (l := ocs) (y := hs j) (k := p) (g := g) (t := t) (nn := nn) (cap := cap) (pv := .pointer (some ⟨b, of + p * 1, none⟩)) htk (by rw [hts]; rfl) rawT_solid u3 (raw_read u3') e1 rfl (by omega) ⟨rfl, hcvj⟩ rfl
  have := raw_cells k4
  subst this
  have hbi : Blk (hs i) b := Blk.part u1 (k := 0) (by omega) (by rw [e1]; rfl)
  have hl0 : p + 1 < us.length := by omega
  let hs' : Nat → Value := fun k => if k = i then .tuple (us.set (p + 1) (hs j)).toArray else hs k
  have hsi : hs' i = .tuple (us.set (p + 1) (hs j)).toArray := if_pos rfl
  have hsk : ∀ k, k ≠ i → hs' k = hs k := fun k hk => if_neg hk
  have hg0 : gpart (hs' i) 0 = gpart (hs i) 0 := by rw [hsi, gpart_set_ne (by omega), u1]
  have hgp : gpart (hs' i) (p + 1) = hs j := by rw [hsi, gpart_set_same hl0]
  have hgq : ∀ q, q ≠ p + 1 → gpart (hs' i) q = gpart (hs i) q := fun q hq => by rw [hsi, gpart_set_ne hq, u1]
  have hbj : ∀ b', blk (hs j) = some b' → ¬ Blk (hs i) b' := fun b' e => h.sep j i _ _ (Ne.symm hij) hj hm rfl (by simp) b' (Blk.of e)
  have hbs : ∀ b', Blk (hs' i) b' → Blk (hs i) b' ∨ blk (hs j) = some b' := fun b' hb => by
    rw [hsi] at hb
    rw [u1]
    exact Blk_set hb
  have hne : ∀ q, q < us.length → q ≠ 0 → (gpart (hs i) q).ownBlock = none ∨ (gpart (hs i) q).ownBlock ≠ some b := fun q hq hq0 => by
    cases hb : (gpart (hs i) q).ownBlock with
    | none => exact .inl rfl
    | some b' => exact .inr (fun e => by cases e; exact u5 0 q b (by omega) hq (fun e => hq0 e.symm) (by rw [e1]; rfl) (ownBlock_blk' hb))
  have hset : ∀ (k : Nat) (kt : Item), (((S.M.set i (.grid tyo ty s (rows.set p (some (r, m))))).set j .gone))[k]? = some kt → kt ≠ .gone → (k = i ∧ kt = .grid tyo ty s (rows.set p (some (r, m)))) ∨ (k ≠ i ∧ k ≠ j ∧ S.M[k]? = some kt) := fun k kt hk hn => by
    rw [List.getElem?_set] at hk
    by_cases ej : j = k
    · rw [if_pos ej] at hk
      split at hk
      · simp at hk; exact absurd hk.symm hn
      · cases hk
    · rw [if_neg ej, List.getElem?_set] at hk
      by_cases ei : i = k
      · rw [if_pos ei] at hk
        split at hk
        · simp at hk; exact .inl ⟨ei.symm, hk.symm⟩
        · cases hk
      · rw [if_neg ei] at hk
        exact .inr ⟨Ne.symm ei, Ne.symm ej, hk⟩
  refine ⟨w', hs', k1, h.size, h.defers, h.base.kept k2 (fun b' e => by cases e; exact (h.mine i _ hm (by simp) b hbi).2 rfl), fun t x hx => ?_, fun k kt hk => ?_, fun k l kt lt hkl hk hl hf hn b' hb => ?_, fun k kt hk hn b' hb => ?_⟩
  · obtain ⟨hx1, hx2⟩ := List.mem_filter.1 hx
    exact SC.keepG_ok hg0 (fun k hk _ => hsk k hk) hx2 (h.slots t x hx1)
  · by_cases hn : kt = .gone
    · subst hn; trivial
    · rcases hset k kt hk hn with ⟨rfl, rfl⟩ | ⟨h1, h2, h3⟩
      · refine ⟨us.set (p + 1) (hs j), ocs.set p (hs j), hsi, by simp [u2], ?_, fun u hu => ?_, fun q r' n' hq => ?_, fun q hq => ?_, fun q q' b' hq hq' hqq hb1 hb2 => ?_⟩
        · rw [hg0, List.length_set, ← hlo]
          exact k3
        · rcases List.mem_or_eq_of_mem_set hu with hu | hu
          · exact u3' u hu
          · obtain ⟨ao, cp, e⟩ := hslj
            exact ⟨ao, m, cp, hu.trans e⟩
        · rw [List.getElem?_set] at hq
          by_cases e : p = q
          · subst e
            rw [if_pos rfl, if_pos hp] at hq
            simp only [Option.some.injEq, Prod.mk.injEq] at hq
            obtain ⟨rfl, rfl⟩ := hq
            rw [hgp]
            refine ⟨by rw [List.getElem?_set_self (by omega)], csj, hcj.kept k2 ?_, hrj⟩
            cases hb : (hs j).ownBlock with
            | none => exact .inl rfl
            | some b' => exact .inr (fun e => by cases e; exact hbj b (ownBlock_blk' hb) hbi)
          · rw [if_neg e] at hq
            have hql := (List.getElem?_eq_some_iff.1 hq).1
            obtain ⟨k5, cs2, k6, k7⟩ := u4 q r' n' hq
            rw [hgq (q + 1) (by omega)]
            exact ⟨by rw [List.getElem?_set_ne e]; exact k5, cs2, k6.kept k2 (hne (q + 1) (by omega) (by omega)), k7⟩
        · rw [List.getElem?_set] at hq
          by_cases e : p = q
          · rw [if_pos e] at hq
            split at hq <;> simp at hq
          · rw [if_neg e] at hq
            rw [hgq (q + 1) (by omega)]
            exact u4' q hq
        · rw [List.length_set] at hq hq'
          by_cases e : q = p + 1
          · subst e
            rw [hgp] at hb1
            rw [hgq q' (Ne.symm hqq)] at hb2
            exact hbj b' hb1 (Blk.part u1 hq' hb2)
          · rw [hgq q e] at hb1
            by_cases e' : q' = p + 1
            · subst e'
              rw [hgp] at hb2
              exact hbj b' hb2 (Blk.part u1 hq hb1)
            · rw [hgq q' e'] at hb2
              exact u5 q q' b' hq hq' hqq hb1 hb2
      · rw [hsk k h1]
        refine Item.keepG_ok hg0 (fun k hk _ => hsk k hk) (List.all_eq_true.1 hkM kt (List.mem_of_getElem? h3)) ?_
        exact Item.kept k2 (h := h.items k kt h3) fun b' hb => ⟨(h.mine k kt h3 hn b' hb).1, fun e => by cases e; exact h.sep i k _ kt (Ne.symm h1) hm h3 rfl hn b hbi hb⟩
  · rcases hset k kt hk (fz_gone hf) with ⟨rfl, rfl⟩ | ⟨h1, h2, h3⟩
    · rcases hset l lt hl hn with ⟨rfl, rfl⟩ | ⟨l1, l2, l3⟩
      · exact absurd rfl hkl
      · rw [hsk l l1]
        rcases hbs b' hb with h4 | h4
        · exact h.sep k l _ lt hkl hm l3 rfl hn b' h4
        · exact h.sep j l _ lt (Ne.symm l2) hj l3 rfl hn b' (Blk.of h4)
    · rw [hsk k h1] at hb
      rcases hset l lt hl hn with ⟨rfl, rfl⟩ | ⟨l1, l2, l3⟩
      · intro hb2
        rcases hbs b' hb2 with h4 | h4
        · exact h.sep k l kt _ hkl h3 hm hf (by simp) b' hb h4
        · exact h.sep k j kt _ h2 h3 hj hf (by simp) b' hb (Blk.of h4)
      · rw [hsk l l1]
        exact h.sep k l kt lt hkl h3 l3 hf hn b' hb
  · rcases hset k kt hk hn with ⟨rfl, rfl⟩ | ⟨h1, h2, h3⟩
    · rcases hbs b' hb with h4 | h4
      · obtain ⟨m1, m2⟩ := h.mine k _ hm (by simp) b' h4
        exact ⟨Nat.lt_of_lt_of_le m1 k2.size, fun _ => m2 rfl⟩
      · obtain ⟨m1, m2⟩ := h.mine j _ hj (by simp) b' (Blk.of h4)
        exact ⟨Nat.lt_of_lt_of_le m1 k2.size, fun _ => m2 rfl⟩
    · rw [hsk k h1] at hb
      obtain ⟨m1, m2⟩ := h.mine k kt h3 hn b' hb
      exact ⟨Nat.lt_of_lt_of_le m1 k2.size, m2⟩
/-- t[p] = a row of the call's own -/
theorem WL.putG0 {i j p tyo ty s m t : Nat} {rows : List (Option (Rl (List Value) × Nat))} {r : Rl (List Value)} {ti : TI} {x v : Operand} {S1 : St} (ht : tab.ok) (hn : c.n = n) (hw : wantE ops S.F o = some true) (ho : o.op = .store t x v) (h1 : tab t = some ti) (h2 : ti.size = 1)
    (hx : evX S.F x = some (.sv (.one (.ge i 0 p 1)))) (hv : evX S.F v = some (.sv (.one (.own j)))) (hm : S.M[i]? = some (.grid tyo ty s rows)) (hj : S.M[j]? = some (.row ty s r m)) (hp : p < rows.length) (hkM : S.M.all (·.keepG i j) = true)
    (e : putE n o.dst (.tup []) ⟨dropG i j S.F, (S.M.set i (.grid tyo ty s (rows.set p (some (r, m))))).set j .gone⟩ = some S1) (h : WL c ops rest S1 N) : WL c ops (o :: rest) S N := fun a w ⟨g, hs, hh⟩ => by
  unfold wpList
  rw [if_pos (wantE_ok hh hw)]
  refine .inl ?_
  unfold Oper.wp
  obtain ⟨⟨b, of, nn, cap, e1, e2⟩, _⟩ := evX_ok hh hx
  have hvj : a.eval v = hs j := (evX_ok hh hv).1
  obtain ⟨w', hs', k1, k2⟩ := hh.putG hm hj hp e1 (ht t ti h1) h2 hkM
  have hrun : (execOp a.eval o).run Try.prog w = .ok .skip w' := by
    have : execOp a.eval o = (do Instr.storeAt t (a.eval x) (a.eval v); pure .skip : Sem Next) := by unfold execOp; rw [ho]
    rw [this, e2, hvj]
    simp only [Sem.run_bind, k1, Result.andThen_ok, Sem.run_pure]
  rw [hrun]
  exact h _ _ ⟨g, hs', putE_ok k2 hn undef_ok e⟩
theorem gridI_set {α : Type} {T : Ty α} {L : List (List α)} {l : List α} {p : Nat} : (L.map fun l => some (rowR T l, l.length)).set p (some (rowR T l, l.length)) = ((L.set p l).map fun l => some (rowR T l, l.length)) := by
  rw [List.map_set]
theorem WL.putG {α : Type} {T : Ty α} {L : List (List α)} {l : List α} {i j p tyo ty t : Nat} {ti : TI} {x v : Operand} {S1 : St} (ht : tab.ok) (hn : c.n = n) (hw : wantE ops S.F o = some true) (ho : o.op = .store t x v) (h1 : tab t = some ti) (h2 : ti.size = 1)
    (hx : evX S.F x = some (.sv (.one (.ge i 0 p 1)))) (hv : evX S.F v = some (.sv (.one (.own j)))) (hm : S.M[i]? = some (gridI tyo ty T L)) (hj : S.M[j]? = some (rowI ty T l)) (hp : p < L.length) (hkM : S.M.all (·.keepG i j) = true)
    (e : putE n o.dst (.tup []) ⟨dropG i j S.F, (S.M.set i (gridI tyo ty T (L.set p l))).set j .gone⟩ = some S1) (h : WL c ops rest S1 N) : WL c ops (o :: rest) S N :=
  WL.putG0 ht hn hw ho h1 h2 hx hv hm hj (by rw [List.length_map]; exact hp) hkM (by rw [gridI_set]; exact e) h
/-- a grid, lent: it is read as it stands, and stays the call's own -/
theorem mt_lendG {α : Type} {T : Ty α} {L : List (List α)} {tyo ty : Nat} {x : SC} (i : Nat) (hm : S.M[i]? = some (gridI tyo ty T L)) (hp : plainB x = true) (h : MT c (sealG S i (LS (lsT T) L)) o x [] none) : MT c S o x [] none := fun a w g hs hk N Z hN => by
  obtain ⟨g2, hk2⟩ := hk.sealG hm
  exact h a w g2 hs hk2 N Z fun v w' g' h' h1 h2 _ => hN v w' g h' (h1.back hk.base.pers) (plainB_ok hp h2) trivial
end
end Go.Proofs.Ytapnmjeadbhffaa

/- Symbolic states of a walk: copies into rows of the call's own. No condition. -/
namespace Go.Proofs.Ytapnmjeadbhffaa
open Go.RowKit Go.MapKept
set_option linter.unusedSimpArgs false
set_option linter.unusedVariables false
set_option maxRecDepth 100000

section
variable {c : Cfg} {S S1 : St} {a : Act} {w : World} {g : Gh} {hs : Nat → Value} {tab : Tab} {n : Nat} {o : Oper} {ops : Array Oper} {rest : List Oper} {N : Po}
theorem run_bounds {lo hi : Option Operand} {lv hv : Int} {m cap : Nat} (h : Ok' c S a w g hs) (hlo : (lo = none ∧ lv = 0) ∨ ∃ q, lo = some q ∧ evK S.F q = some (.int .i64 lv)) (hhi : (hi = none ∧ hv = m) ∨ ∃ q, hi = some q ∧ evK S.F q = some (.int .i64 hv)) (h5 : 0 ≤ lv ∧ lv ≤ hv ∧ hv ≤ m) (hc : m ≤ cap) : (Instr.sliceBounds true m cap (lo.map a.eval) (hi.map a.eval) none).run Try.prog w = .ok (lv.toNat, hv.toNat, cap) w := by
  unfold Instr.sliceBounds
  rcases hlo with ⟨rfl, rfl⟩ | ⟨q', rfl, hlo⟩ <;> rcases hhi with ⟨rfl, rfl⟩ | ⟨q, rfl, hhi⟩
  · simp
  · simp only [Option.map_none, Option.map_some, Sem.run_bind, Sem.run_pure, Result.andThen_ok, Instr.sliceBound, evK_ok h hhi, asIntOf]
    rw [if_pos (by omega)]
    simp
  · simp only [Option.map_none, Option.map_some, Sem.run_bind, Sem.run_pure, Result.andThen_ok, Instr.sliceBound, evK_ok h hlo, asIntOf]
    rw [if_pos (by omega)]
    simp
  · simp only [Option.map_some, Sem.run_bind, Sem.run_pure, Result.andThen_ok, Instr.sliceBound, evK_ok h hhi, evK_ok h hlo, asIntOf]
    rw [if_pos (by omega)]
    simp only [Sem.run_bind, Sem.run_pure, Result.andThen_ok]
    rw [if_pos (by omega)]
    simp
/-- a part of a row of the call's own, looked at beside the row -/
theorem val_view {α : Type} {T : Ty α} {l : List α} {i t el : Nat} {ti te : TI} {x : Operand} {lo hi : Option Operand} {lv hv : Int} (ht : tab.ok) (ho : o.op = .slice t x lo hi none) (h1 : tab t = some ti) (h2 : ti.sl = some el) (h3 : tab el = some te) (h4 : te.size = T.s)
    (hx : evX S.F x = some (.sv (.one (.own i)))) (hm : S.M[i]? = some (rowI el T l)) (hlo : (match lo with | some q => evK S.F q = some (.int .i64 lv) | none => lv = 0)) (hhi : (match hi with | some q => evK S.F q = some (.int .i64 hv) | none => hv = l.length)) (h5 : 0 ≤ lv ∧ lv ≤ hv ∧ hv ≤ l.length) :
    Val c S o (.sv (.one (.vw i lv.toNat (hv.toNat - lv.toNat) T.s))) := fun a w g hs h => by
  obtain ⟨h6, h7, h8⟩ := h5
  have hu := slT_some ((ht t ti h1).sl.trans h2)
  have hv0 : a.eval x = hs i := (evX_ok h hx).1
  obtain ⟨cs, ⟨hl0, r1⟩, r2⟩ := h.items i _ hm
  obtain ⟨ao, cap, e1, hcap, hao⟩ : ∃ ao cap, hs i = .slice ao l.length cap ∧ l.length ≤ cap ∧ ((ao = none ∧ cap = 0) ∨ ∃ gb of, ao = some ⟨gb, of, none⟩) := by
    rcases r1 with ⟨e3, e4⟩ | ⟨gb, of, cap, cur, e3, e4, e5, _⟩
    · exact ⟨none, 0, by rw [e3, e4], by rw [e4]; exact Nat.le_refl _, .inl ⟨rfl, rfl⟩⟩
    · exact ⟨_, cap, e3, e5, .inr ⟨gb, of, rfl⟩⟩
  have hb := run_bounds (lo := lo) (hi := hi) h (by cases lo <;> simp only at hlo <;> first | exact .inl ⟨rfl, hlo⟩ | exact .inr ⟨_, rfl, hlo⟩) (by cases hi <;> simp only at hhi <;> first | exact .inl ⟨rfl, hhi⟩ | exact .inr ⟨_, rfl, hhi⟩) ⟨h6, h7, h8⟩ hcap
  have this : execOp a.eval o = (do pure (.value (← Instr.sliceAt t (a.eval x) (lo.map a.eval) (hi.map a.eval) none)) : Sem Next) := by unfold execOp; rw [ho]; rfl
  have hrun : (Instr.sliceAt t (a.eval x) (lo.map a.eval) (hi.map a.eval) none).run Try.prog w = .ok (.slice (if cap = lv.toNat then ao else ao.map (·.add (lv.toNat * T.s))) (hv.toNat - lv.toNat) (cap - lv.toNat)) w := by
    simp only [Instr.sliceAt, Instr.slice, Sem.run_bind, run_underlying hu, Result.andThen_ok, hv0, e1, hb, (ht el te h3).run_size, Sem.run_pure, h4]
  rw [this]
  refine ⟨_, run_val hrun, ⟨_, _, rfl, fun e => ?_, fun h0 => ?_⟩, trivial⟩
  · rcases hao with ⟨e1, e2⟩ | ⟨gb, of, rfl⟩
    · omega
    · split at e <;> simp at e
  · rcases hao with ⟨_, e⟩ | ⟨gb, of, rfl⟩
    · omega
    · refine ⟨gb, of, _, _, e1, ?_⟩
      rw [if_neg (by omega)]
      simp [svs_add]
/-- where a copy goes to -/
def DstOk (c : Cfg) (S : St) (x : Operand) (i lo m : Nat) : Prop := ∀ a w g hs, Ok' c S a w g hs → ∃ ao cap, a.eval x = .slice ao m cap ∧ (0 < m → ∃ b o n cp, hs i = .slice (some ⟨b, o, none⟩) n cp ∧ ao = some ⟨b, o + lo, none⟩)
theorem dstVw {x : Operand} {i lo m : Nat} (hx : evX S.F x = some (.sv (.one (.vw i lo m 1)))) : DstOk c S x i lo m := fun a w g hs h => by
  obtain ⟨ao, cap, h1, _, h2⟩ := (evX_ok h hx).1
  refine ⟨ao, cap, h1, fun h0 => ?_⟩
  obtain ⟨b, o, n, cp, h3, h4⟩ := h2 h0
  exact ⟨b, o, n, cp, h3, by rw [h4, Nat.mul_one]⟩
theorem dstOwn {α : Type} {T : Ty α} {l : List α} {x : Operand} {i e : Nat} (hx : evX S.F x = some (.sv (.one (.own i)))) (hm : S.M[i]? = some (rowI e T l)) : DstOk c S x i 0 l.length := fun a w g hs h => by
  have hv0 : a.eval x = hs i := (evX_ok h hx).1
  obtain ⟨cs, ⟨hl0, r1⟩, r2⟩ := h.items i _ hm
  rcases r1 with ⟨e3, e4⟩ | ⟨gb, of, cap, cur, e3, e4, e5, _⟩
  · exact ⟨none, 0, by rw [hv0, e3, e4], fun h0 => by omega⟩
  · exact ⟨_, cap, hv0.trans e3, fun h0 => ⟨gb, of, _, _, e3, rfl⟩⟩
theorem srcVw {α : Type} {T : Ty α} {l : List α} {y : Operand} {i lo m e : Nat} (hs1 : T.s = 1) (hT : T.solid) (hy : evX S.F y = some (.sv (.one (.vw i lo m 1)))) (hm : S.M[i]? = some (rowI e T l)) (hlm : lo + m ≤ l.length) : SrcOk c S y T ((l.drop lo).take m) := fun a w g hs h => by
  obtain ⟨ao, cap, h1, hao, h2⟩ := (evX_ok h hy).1
  obtain ⟨cs, ⟨hl0, r1⟩, r2⟩ := h.items i _ hm
  have hln : ((l.drop lo).take m).length = m := by simp; omega
  rw [hs1, Nat.mul_one] at hl0
  have hr : rowRead T ((l.drop lo).take m) g ((cs.drop lo).take m) := by
    have := (r2.drop lo).take m
    rwa [hs1, Nat.mul_one, Nat.mul_one] at this
  by_cases h0 : 0 < m
  · obtain ⟨b, of, nn, cp, h3, rfl⟩ := h2 h0
    refine ⟨(cs.drop lo).take m, ⟨_, cap, by rw [h1, hln], (fun e => by cases e), by rw [hln, hs1]; simp; omega, fun j u hj => ⟨b, of + lo * 1, rfl, ?_⟩, fun u hu => (hr.cells hT u hu).one⟩, hr⟩
    rw [List.getElem?_take] at hj
    split at hj
    · rw [List.getElem?_drop] at hj
      rcases r1 with ⟨e3, _⟩ | ⟨gb, of', cap', cur, e3, e4, _, _, _, e5⟩
      · rw [h3] at e3; cases e3
      · rw [h3] at e3
        simp at e3
        obtain ⟨⟨rfl, rfl⟩, rfl, rfl⟩ := e3
        unfold World.cell?
        rw [e4]
        rw [← e5, List.getElem?_take] at hj
        split at hj
        · rw [List.getElem?_drop] at hj
          simpa [Nat.add_assoc] using hj
        · cases hj
    · cases hj
  · have hm0 : m = 0 := by omega
    subst hm0
    exact ⟨[], ⟨ao, cap, by rw [h1]; simp, fun e => ⟨hao e, by simp⟩, by simp, fun j u hj => by simp at hj, fun u hu => by simp at hu⟩, by simpa using rowRead.nil⟩
theorem copy_cells {α : Type} (C R X : List α) {of m lo k : Nat} (hR : (C.drop of).take m = R) (hm : of + m ≤ C.length) (hX : X.length = k) (hk : lo + k ≤ m) : ((C.take (of + lo) ++ X ++ C.drop (of + lo + k)).drop of).take m = R.take lo ++ X ++ R.drop (lo + k) := by
  subst hR
  have h1 : (C.take (of + lo)).drop of = ((C.drop of).take m).take lo := by
    rw [List.take_take, Nat.min_eq_left (by omega), List.drop_take, Nat.add_sub_cancel_left]
  rw [List.append_assoc, List.drop_append_of_le_length (by rw [List.length_take]; omega), h1]
  have h2 : (((C.drop of).take m).take lo).length = lo := by simp; omega
  have h3 : ∀ A D : List α, A.length = lo → (A ++ (X ++ D)).take m = A ++ (X ++ D.take (m - (lo + k))) := fun A D hA => by
    rw [List.take_append, List.take_of_length_le (by omega), List.take_append, List.take_of_length_le (l := X) (by omega)]
    congr 3
    omega
  rw [h3 _ _ h2, List.append_assoc]
  congr 2
  rw [List.drop_take, List.drop_drop, Nat.add_assoc]
/-- a copy into a row of the call's own -/
theorem me_copy {α : Type} {T : Ty α} {L es : List α} {i lo m t ts e : Nat} {ti te : TI} {x y : Operand} (hs1 : T.s = 1) (hT : T.solid) (ht : tab.ok) (ho : o.op = .call ⟨.builtin .copy, #[x, y], #[t, ts]⟩) (h1 : tab t = some ti) (h2 : ti.sl = some e) (h3 : tab e = some te) (h4 : te.size = 1)
    (hm : S.M[i]? = some (rowI e T L)) (hd : DstOk c S x i lo m) (hsrc : SrcOk c S y T es) (hlm : lo + m ≤ L.length) : ME c S o (.sv (.one (I ((min es.length m : Nat) : Int)))) [(i, rowI e T (L.take lo ++ es.take (min es.length m) ++ L.drop (lo + min es.length m)))] := fun a w g hs h N Z hN => by
  have hu := slT_some ((ht t ti h1).sl.trans h2)
  obtain ⟨cs, ⟨hl0, r1⟩, r2⟩ := h.items i _ hm
  rw [hs1, Nat.mul_one] at hl0
  obtain ⟨dp, dcap, d1, d2⟩ := hd a w g hs h
  obtain ⟨news, ⟨ao, sc, s1, s2, s3, s4, s5⟩, s6⟩ := hsrc a w g hs h
  rw [hs1, Nat.mul_one] at s3
  have hmine := h.mine i _ hm (by simp)
  have hisz : (Try.prog.info? e).map (·.size) = some 1 := by
    obtain ⟨x', z, i1, _, i3, _⟩ := (ht e te h3).parts
    rw [i1, Option.map_some, i3, h4]
  generalize hk : min es.length m = k at *
  have hcopy : execOp a.eval o = (do pure (.value (← Builtin.copy_ #[t, ts] o.type #[a.eval x, a.eval y])) : Sem Next) := by
    unfold execOp
    rw [ho]
    simp [resolve, invoke, builtin]
  have hnew : (L.take lo ++ es.take k ++ L.drop (lo + k)).length = L.length := by simp; omega
  have hread : rowRead T (L.take lo ++ es.take k ++ L.drop (lo + k)) g (cs.take lo ++ news.take k ++ cs.drop (lo + k)) := by
    have a1 := r2.take lo
    have a2 := s6.take k
    have a3 := r2.drop (lo + k)
    rw [hs1, Nat.mul_one] at a1 a2 a3
    exact (a1.append a2).append a3
  unfold Oper.wp
  by_cases h0 : 0 < k
  · obtain ⟨b, of, nn, cp, e1, rfl⟩ := d2 (by omega)
    rcases r1 with ⟨e3, _⟩ | ⟨gb, of', cap', cur, e3, e4, e5, e6, e7, e8⟩
    · rw [e1] at e3; cases e3
    · rw [e1] at e3
      simp at e3
      obtain ⟨⟨rfl, rfl⟩, rfl, rfl⟩ := e3
      rw [hs1, Nat.mul_one] at e7
      rw [hs1, Nat.mul_one] at e8
      cases ao with
      | none => have := (s2 rfl).2; omega
      | some ad =>
        have hlk : (news.take k).length = k := by simp; omega
        have had : ∀ j v, (news.take k)[j]? = some v → w.cell? (ad.add j) = some v := fun j v hj => by
          rw [List.getElem?_take] at hj
          split at hj
          · obtain ⟨b', o', k1, k2⟩ := s4 j v hj
            cases k1
            rw [svs_add]
            exact k2
          · cases hj
        have hrun := run_copy_row (P := Try.prog) w t ts o.type e b (of + lo) m dcap ad es.length sc cur e (news.take k) hu hisz e4 (by rw [hlk, ← hk]) had (by rw [hlk]; omega) (fun v hv => s5 v (List.mem_of_mem_take hv))
        rw [hcopy, d1, s1, run_valW hrun, hlk]
        have hgr : w.grownBy (w.setRow b (cur.toList.take (of + lo) ++ news.take k ++ cur.toList.drop (of + lo + k)).toArray) (some b) := ⟨rfl, rfl, rfl, by simp, fun q hq hne => setRow_other w b q _ (fun e => hne (by rw [e]))⟩
        have hbi : Blk (hs i) b := by rw [e1]; rfl
        refine hN _ _ g ⟨hgr.os, hgr.tape, hgr.output, hgr.size, fun b' hb hk => hgr.block b' hb (fun e => by cases e; exact hk i (by simp) hbi), Gh.le.refl g, fun b o e => .inl e, ?_⟩ (fun q hq b' hb => ?_) ⟨rfl, trivial⟩ (fun p hp => ?_)
        · exact (h.base.kept hgr (fun b' e => by cases e; exact (hmine b hbi).2 rfl)).pers
        · simp at hq
          subst hq
          exact ((hmine b' hb).2 rfl).2
        · rw [List.mem_singleton] at hp
          subst hp
          refine ⟨_, ⟨hread.length, .inr ⟨b, of, cp, _, ?_, setRow_heap w b _ _ _ _ e4, by rw [hnew]; exact e5, e6, ?_, ?_⟩⟩, hread⟩
          · rw [e1, hnew]
          · rw [hs1, Nat.mul_one]
            simp only [List.size_toArray, List.length_append, hlk, List.length_take, List.length_drop, Array.length_toList]
            omega
          · rw [hs1, Nat.mul_one, hnew]
            exact copy_cells _ _ _ e8 (by have h9 := Array.length_toList (xs := cur); omega) hlk (by omega)
  · have hk0 : k = 0 := by omega
    subst hk0
    have hrun := run_copy_none (P := Try.prog) w t ts o.type e dp ao m dcap es.length sc hu hisz hk
    rw [hcopy, d1, s1, run_valW hrun]
    refine hN _ _ g ⟨rfl, rfl, rfl, Nat.le_refl _, fun _ _ _ => rfl, Gh.le.refl g, fun b o e => .inl e, h.base.pers⟩ (fun q hq b' hb => ?_) ⟨rfl, trivial⟩ (fun p hp => ?_)
    · simp at hq
      subst hq
      exact ((hmine b' hb).2 rfl).2
    · rw [List.mem_singleton] at hp
      subst hp
      have e0 : L.take lo ++ es.take 0 ++ L.drop (lo + 0) = L := by simp
      rw [e0]
      exact h.items i _ hm
theorem view_le {lv hv : Int} {m : Nat} (h : partOk lv hv m) : lv.toNat + (hv.toNat - lv.toNat) ≤ m := by
  obtain ⟨h1, h2, h3⟩ := h
  omega
/-- an operation that writes a piece, one behind the other -/
theorem WL.me {x : SC} {i : Nat} {it it' : Item} (hn : c.n = n) (hw : wantE ops S.F o = some true) (hm : ME c S o x [(i, it')]) (hi : S.M[i]? = some it) (hf : it.fz = false) (hf' : it'.fz = false) (e : putE n o.dst x ⟨S.F, S.M.set i it'⟩ = some S1) (h : WL c ops rest S1 N) : WL c ops (o :: rest) S N := fun a w ⟨g, hs, hk⟩ => by
  unfold wpList
  rw [if_pos (wantE_ok hk hw)]
  refine .inl (hm a w g hs hk _ N fun v w' g' h1 h2 h3 h4 => ?_)
  have := hk.updS (us := [(i, it')]) (fun p hp => by simp at hp; subst hp; exact ⟨it, hi, hf⟩) (fun p hp => by simp at hp; subst hp; exact hf') h1 h2 h4
  exact h _ _ ⟨g', hs, putE_ok this hn h3 e⟩
end
end Go.Proofs.Ytapnmjeadbhffaa

