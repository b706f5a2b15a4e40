/- Lemmas towards the statement: mirrors of functions, and plain laws. No condition. -/
import Derived.Test.YtiinkohfldopbaaPackTopWithin6

/- The contract of TopWithin. No condition. -/
namespace Go.Proofs.Ytiinkohfldopbaa
open Go.RowKit Go.MapKept
set_option linter.unusedSimpArgs false
set_option linter.unusedVariables false
set_option maxRecDepth 100000

def topWithin_vc (x : ApiDet) (Q : Bool → Prop) : Prop :=
  x.fNext.length ≤ 9223372036854775807 →
  x.fMark.length ≤ 9223372036854775807 →
  (IfP (((leastR (ApiDet.mk 1 0 ([([0] : (List Int))] : (List (List Int))) ([1] : (List Int)))).2 != 0) || (((leastR (ApiDet.mk 1 0 ([([0] : (List Int))] : (List (List Int))) ([1] : (List Int)))).1.fNext.length : Int) != 1)) (Q false) (IfP (((upR x).2 != 0) || ((downR x).2 != 0)) (Q ((upR x).2 == (downR x).2)) (IfP (((mixR x (upR x).1 4).2 != 0) || ((mixR x (downR x).1 4).2 != 0)) (Q false) (∃ J : Bool → Prop, (IfP (((mixR x (upR x).1 4).1.fNext.length : Int) == 1) (∃ e, idx (mixR x (upR x).1 4).1.fMark 0 = some e ∧
  IfP (e == 0) (IfP (((mixR x (downR x).1 4).1.fNext.length : Int) == 1) (∃ e_2, idx (mixR x (downR x).1 4).1.fMark 0 = some e_2 ∧
  J (e_2 == 0)) (J false)) (J false)) (J false)) ∧
  (∀ (x2 : Bool), J x2 → Q x2)))))
theorem topWithin_walk (x : ApiDet) (Q : Bool → Prop) (h : topWithin_vc x Q) : Ct 3 [.sv (.agg [I x.fLetters, I x.fStart, LS (lsT intT) x.fNext, LS intT x.fMark])] [] Q (fun (r : Bool) => .sv (.one (B r))) := by
  have ht := tab_ok
  refine Ct.body Try.func3 rfl rfl rfl rfl (fun c hn => ?_)
  unfold topWithin_vc at h
  refine En.lenA 0 2 (by rfl) (by rfl) (fun hl => ?_)
  replace h := h hl
  clear hl
  refine En.lenA 0 3 (by rfl) (by rfl) (fun hl => ?_)
  replace h := h hl
  clear hl
  refine En.seq ?_
  refine En.region ?_
  refine WL.run ht hn 2 ⟨[(1, .sv (.one (.ptr 0 0)))], [.box [I x.fLetters, I x.fStart, LS (lsT intT) x.fNext, LS intT x.fMark] 25 false]⟩ (by kernel_rfl) ?_
  refine WL.nil ?_
  refine En.seq ?_
  refine En.region ?_
  refine WL.mt0 (K := []) (p := some (1, rowI 3 intT ([0] : (List Int)))) hn (by rfl) (mt_lit (T := intT) ([0] : (List Int)) (mt_bsl 1 (r := cellsOf intT ([0] : (List Int))) ht rfl (by rfl) (by rfl) (by rfl) (by kernel_rfl) (by rfl)) (fun _ h => by cases h) (fun _ => rfl) (fun _ => rfl) (by rfl) (Nat.le_of_ble_eq_true rfl)) (by rfl) (by rfl) (by rfl) ?_
  refine WL.seal (T := intT) (l := ([0] : (List Int))) (e := 3) 1 rfl ?_
  refine WL.run ht hn 0 ⟨[(1, .sv (.one (.ptr 0 0))), (11, .sv (.one (LS intT ([0] : (List Int)))))], [.box [I x.fLetters, I x.fStart, LS (lsT intT) x.fNext, LS intT x.fMark] 25 false, .gone]⟩ (by kernel_rfl) ?_
  refine WL.mt0 (K := []) (p := some (2, rowI 23 (lsT intT) ([([0] : (List Int))] : (List (List Int))))) hn (by rfl) (mt_lit (T := (lsT intT)) ([([0] : (List Int))] : (List (List Int))) (mt_bsl 2 (r := cellsOf (lsT intT) ([([0] : (List Int))] : (List (List Int)))) ht rfl (by rfl) (by rfl) (by rfl) (by kernel_rfl) (by rfl)) (fun _ h => by cases h) (fun _ => rfl) (fun _ => rfl) (by rfl) (Nat.le_of_ble_eq_true rfl)) (by rfl) (by rfl) (by rfl) ?_
  refine WL.mt0 (K := []) (p := some (3, rowI 3 intT ([1] : (List Int)))) hn (by rfl) (mt_lit (T := intT) ([1] : (List Int)) (mt_bsl 3 (r := cellsOf intT ([1] : (List Int))) ht rfl (by rfl) (by rfl) (by rfl) (by kernel_rfl) (by rfl)) (fun _ h => by cases h) (fun _ => rfl) (fun _ => rfl) (by rfl) (Nat.le_of_ble_eq_true rfl)) (by rfl) (by rfl) (by rfl) ?_
  refine WL.run ht hn 1 ⟨[(1, .sv (.one (.ptr 0 0))), (14, .sv (.agg [I 1, I 0, .own 2, .own 3]))], [.box [I x.fLetters, I x.fStart, LS (lsT intT) x.fNext, LS intT x.fMark] 25 false, .gone, rowI 23 (lsT intT) ([([0] : (List Int))] : (List (List Int))), rowI 3 intT ([1] : (List Int))]⟩ (by kernel_rfl) ?_
  refine WL.seal (T := (lsT intT)) (l := ([([0] : (List Int))] : (List (List Int)))) (e := 23) 2 rfl ?_
  refine WL.run ht hn 0 ⟨[(1, .sv (.one (.ptr 0 0))), (14, .sv (.agg [I 1, I 0, LS (lsT intT) ([([0] : (List Int))] : (List (List Int))), .own 3]))], [.box [I x.fLetters, I x.fStart, LS (lsT intT) x.fNext, LS intT x.fMark] 25 false, .gone, .gone, rowI 3 intT ([1] : (List Int))]⟩ (by kernel_rfl) ?_
  refine WL.seal (T := intT) (l := ([1] : (List Int))) (e := 3) 3 rfl ?_
  refine WL.run ht hn 0 ⟨[(1, .sv (.one (.ptr 0 0))), (14, .sv (.agg [I 1, I 0, LS (lsT intT) ([([0] : (List Int))] : (List (List Int))), LS intT ([1] : (List Int))]))], [.box [I x.fLetters, I x.fStart, LS (lsT intT) x.fNext, LS intT x.fMark] 25 false, .gone, .gone, .gone]⟩ (by kernel_rfl) ?_
  refine WL.mt0 (K := []) (p := none) hn (by rfl) (mt_call (detLeast_ct (ApiDet.mk 1 0 ([([0] : (List Int))] : (List (List Int))) ([1] : (List Int)))) en15 (caps := []) [] rfl (by rfl) (by kernel_rfl) (by kernel_rfl) (by rfl) (by rfl) (by rfl)) (by rfl) (by rfl) (by rfl) ?_
  refine WL.run ht hn 6 ⟨[(1, .sv (.one (.ptr 0 0))), (3, .sv (.one (.ptr 4 0))), (4, .sv (.one (I (leastR (ApiDet.mk 1 0 ([([0] : (List Int))] : (List (List Int))) ([1] : (List Int)))).2)))], [.box [I x.fLetters, I x.fStart, LS (lsT intT) x.fNext, LS intT x.fMark] 25 false, .gone, .gone, .gone, .box [I (leastR (ApiDet.mk 1 0 ([([0] : (List Int))] : (List (List Int))) ([1] : (List Int)))).1.fLetters, I (leastR (ApiDet.mk 1 0 ([([0] : (List Int))] : (List (List Int))) ([1] : (List Int)))).1.fStart, LS (lsT intT) (leastR (ApiDet.mk 1 0 ([([0] : (List Int))] : (List (List Int))) ([1] : (List Int)))).1.fNext, LS intT (leastR (ApiDet.mk 1 0 ([([0] : (List Int))] : (List (List Int))) ([1] : (List Int)))).1.fMark] 25 false]⟩ (by kernel_rfl) ?_
  refine WL.nil ?_
  refine En.seq ?_
  refine En.seq ?_
  refine En.region ?_
  refine WL.run ht hn 3 ⟨[(1, .sv (.one (.ptr 0 0))), (3, .sv (.one (.ptr 4 0))), (20, .sv (.one (B ((leastR (ApiDet.mk 1 0 ([([0] : (List Int))] : (List (List Int))) ([1] : (List Int)))).2 != 0))))], [.box [I x.fLetters, I x.fStart, LS (lsT intT) x.fNext, LS intT x.fMark] 25 false, .gone, .gone, .gone, .box [I (leastR (ApiDet.mk 1 0 ([([0] : (List Int))] : (List (List Int))) ([1] : (List Int)))).1.fLetters, I (leastR (ApiDet.mk 1 0 ([([0] : (List Int))] : (List (List Int))) ([1] : (List Int)))).1.fStart, LS (lsT intT) (leastR (ApiDet.mk 1 0 ([([0] : (List Int))] : (List (List Int))) ([1] : (List Int)))).1.fNext, LS intT (leastR (ApiDet.mk 1 0 ([([0] : (List Int))] : (List (List Int))) ([1] : (List Int)))).1.fMark] 25 false]⟩ (by kernel_rfl) ?_
  refine WL.thru ⟨[(1, .sv (.one (.ptr 0 0))), (25, .sv (.one (B (((leastR (ApiDet.mk 1 0 ([([0] : (List Int))] : (List (List Int))) ([1] : (List Int)))).2 != 0) || (((leastR (ApiDet.mk 1 0 ([([0] : (List Int))] : (List (List Int))) ([1] : (List Int)))).1.fNext.length : Int) != 1)))))], [.box [I x.fLetters, I x.fStart, LS (lsT intT) x.fNext, LS intT x.fMark] 25 false, .gone, .gone, .gone, .gone]⟩ ?_ ?_
  · refine splitB ((leastR (ApiDet.mk 1 0 ([([0] : (List Int))] : (List (List Int))) ([1] : (List Int)))).2 != 0) (fun hb0 => ?_) (fun hb0 => ?_)
    · refine WL.setB 20 hb0 (by kernel_rfl) ?_
      refine WL.run ht hn 5 ⟨[(1, .sv (.one (.ptr 0 0))), (25, .sv (.one (B true)))], [.box [I x.fLetters, I x.fStart, LS (lsT intT) x.fNext, LS intT x.fMark] 25 false, .gone, .gone, .gone, .gone]⟩ (by kernel_rfl) ?_
      exact WL.nil (sub_ok (by simp only [hb0]; kernel_rfl))
    · refine WL.setB 20 hb0 (by kernel_rfl) ?_
      refine WL.run ht hn 5 ⟨[(1, .sv (.one (.ptr 0 0))), (25, .sv (.one (B (((leastR (ApiDet.mk 1 0 ([([0] : (List Int))] : (List (List Int))) ([1] : (List Int)))).1.fNext.length : Int) != 1))))], [.box [I x.fLetters, I x.fStart, LS (lsT intT) x.fNext, LS intT x.fMark] 25 false, .gone, .gone, .gone, .gone]⟩ (by kernel_rfl) ?_
      exact WL.nil (sub_ok (by simp only [hb0]; kernel_rfl))
  · refine En.cond (b := (((leastR (ApiDet.mk 1 0 ([([0] : (List Int))] : (List (List Int))) ([1] : (List Int)))).2 != 0) || (((leastR (ApiDet.mk 1 0 ([([0] : (List Int))] : (List (List Int))) ([1] : (List Int)))).1.fNext.length : Int) != 1))) (by kernel_rfl) (fun hb => ?_) (fun hb => ?_)
    · replace h := h.1 hb
      refine En.seq ?_
      refine En.region ?_
      refine WL.run ht hn 1 ⟨[(2, .sv (.one (B false)))], [.gone, .gone, .gone, .gone, .gone]⟩ (by kernel_rfl) ?_
      refine WL.nil ?_
      refine En.ret ?_
      exact En.back ht false h (by kernel_rfl) rfl
    · replace h := h.2 hb
      refine En.skip ?_
      refine En.seq ?_
      refine En.region ?_
      refine WL.run ht hn 1 ⟨[(1, .sv (.one (.ptr 0 0))), (27, .sv (.agg [I x.fLetters, I x.fStart, LS (lsT intT) x.fNext, LS intT x.fMark]))], [.box [I x.fLetters, I x.fStart, LS (lsT intT) x.fNext, LS intT x.fMark] 25 false, .gone, .gone, .gone, .gone]⟩ (by kernel_rfl) ?_
      refine WL.mt0 (K := []) (p := none) hn (by rfl) (mt_call (higUp_ct x) en16 (caps := []) [] rfl (by rfl) (by kernel_rfl) (by kernel_rfl) (by rfl) (by rfl) (by rfl)) (by rfl) (by rfl) (by rfl) ?_
      refine WL.run ht hn 6 ⟨[(1, .sv (.one (.ptr 0 0))), (4, .sv (.one (I (upR x).2))), (5, .sv (.one (.ptr 5 0)))], [.box [I x.fLetters, I x.fStart, LS (lsT intT) x.fNext, LS intT x.fMark] 25 false, .gone, .gone, .gone, .gone, .box [I (upR x).1.fLetters, I (upR x).1.fStart, LS (lsT intT) (upR x).1.fNext, LS intT (upR x).1.fMark] 25 false]⟩ (by kernel_rfl) ?_
      refine WL.nil ?_
      refine En.seq ?_
      refine En.region ?_
      refine WL.run ht hn 1 ⟨[(1, .sv (.one (.ptr 0 0))), (4, .sv (.one (I (upR x).2))), (5, .sv (.one (.ptr 5 0))), (32, .sv (.agg [I x.fLetters, I x.fStart, LS (lsT intT) x.fNext, LS intT x.fMark]))], [.box [I x.fLetters, I x.fStart, LS (lsT intT) x.fNext, LS intT x.fMark] 25 false, .gone, .gone, .gone, .gone, .box [I (upR x).1.fLetters, I (upR x).1.fStart, LS (lsT intT) (upR x).1.fNext, LS intT (upR x).1.fMark] 25 false]⟩ (by kernel_rfl) ?_
      refine WL.mt0 (K := []) (p := none) hn (by rfl) (mt_call (higDown_ct x) en17 (caps := []) [] rfl (by rfl) (by kernel_rfl) (by kernel_rfl) (by rfl) (by rfl) (by rfl)) (by rfl) (by rfl) (by rfl) ?_
      refine WL.run ht hn 6 ⟨[(1, .sv (.one (.ptr 0 0))), (4, .sv (.one (I (upR x).2))), (5, .sv (.one (.ptr 5 0))), (6, .sv (.one (.ptr 6 0))), (7, .sv (.one (I (downR x).2)))], [.box [I x.fLetters, I x.fStart, LS (lsT intT) x.fNext, LS intT x.fMark] 25 false, .gone, .gone, .gone, .gone, .box [I (upR x).1.fLetters, I (upR x).1.fStart, LS (lsT intT) (upR x).1.fNext, LS intT (upR x).1.fMark] 25 false, .box [I (downR x).1.fLetters, I (downR x).1.fStart, LS (lsT intT) (downR x).1.fNext, LS intT (downR x).1.fMark] 25 false]⟩ (by kernel_rfl) ?_
      refine WL.nil ?_
      refine En.seq ?_
      refine En.seq ?_
      refine En.region ?_
      refine WL.run ht hn 3 ⟨[(1, .sv (.one (.ptr 0 0))), (4, .sv (.one (I (upR x).2))), (5, .sv (.one (.ptr 5 0))), (6, .sv (.one (.ptr 6 0))), (7, .sv (.one (I (downR x).2))), (38, .sv (.one (B ((upR x).2 != 0))))], [.box [I x.fLetters, I x.fStart, LS (lsT intT) x.fNext, LS intT x.fMark] 25 false, .gone, .gone, .gone, .gone, .box [I (upR x).1.fLetters, I (upR x).1.fStart, LS (lsT intT) (upR x).1.fNext, LS intT (upR x).1.fMark] 25 false, .box [I (downR x).1.fLetters, I (downR x).1.fStart, LS (lsT intT) (downR x).1.fNext, LS intT (downR x).1.fMark] 25 false]⟩ (by kernel_rfl) ?_
      refine WL.thru ⟨[(1, .sv (.one (.ptr 0 0))), (4, .sv (.one (I (upR x).2))), (5, .sv (.one (.ptr 5 0))), (6, .sv (.one (.ptr 6 0))), (7, .sv (.one (I (downR x).2))), (41, .sv (.one (B (((upR x).2 != 0) || ((downR x).2 != 0)))))], [.box [I x.fLetters, I x.fStart, LS (lsT intT) x.fNext, LS intT x.fMark] 25 false, .gone, .gone, .gone, .gone, .box [I (upR x).1.fLetters, I (upR x).1.fStart, LS (lsT intT) (upR x).1.fNext, LS intT (upR x).1.fMark] 25 false, .box [I (downR x).1.fLetters, I (downR x).1.fStart, LS (lsT intT) (downR x).1.fNext, LS intT (downR x).1.fMark] 25 false]⟩ ?_ ?_
      · refine splitB ((upR x).2 != 0) (fun hb0 => ?_) (fun hb0 => ?_)
        · refine WL.setB 38 hb0 (by kernel_rfl) ?_
          refine WL.run ht hn 3 ⟨[(1, .sv (.one (.ptr 0 0))), (4, .sv (.one (I (upR x).2))), (5, .sv (.one (.ptr 5 0))), (6, .sv (.one (.ptr 6 0))), (7, .sv (.one (I (downR x).2))), (41, .sv (.one (B true)))], [.box [I x.fLetters, I x.fStart, LS (lsT intT) x.fNext, LS intT x.fMark] 25 false, .gone, .gone, .gone, .gone, .box [I (upR x).1.fLetters, I (upR x).1.fStart, LS (lsT intT) (upR x).1.fNext, LS intT (upR x).1.fMark] 25 false, .box [I (downR x).1.fLetters, I (downR x).1.fStart, LS (lsT intT) (downR x).1.fNext, LS intT (downR x).1.fMark] 25 false]⟩ (by kernel_rfl) ?_
          exact WL.nil (sub_ok (by simp only [hb0]; kernel_rfl))
        · refine WL.setB 38 hb0 (by kernel_rfl) ?_
          refine WL.run ht hn 3 ⟨[(1, .sv (.one (.ptr 0 0))), (4, .sv (.one (I (upR x).2))), (5, .sv (.one (.ptr 5 0))), (6, .sv (.one (.ptr 6 0))), (7, .sv (.one (I (downR x).2))), (41, .sv (.one (B ((downR x).2 != 0))))], [.box [I x.fLetters, I x.fStart, LS (lsT intT) x.fNext, LS intT x.fMark] 25 false, .gone, .gone, .gone, .gone, .box [I (upR x).1.fLetters, I (upR x).1.fStart, LS (lsT intT) (upR x).1.fNext, LS intT (upR x).1.fMark] 25 false, .box [I (downR x).1.fLetters, I (downR x).1.fStart, LS (lsT intT) (downR x).1.fNext, LS intT (downR x).1.fMark] 25 false]⟩ (by kernel_rfl) ?_
          exact WL.nil (sub_ok (by simp only [hb0]; kernel_rfl))
      · refine En.cond (b := (((upR x).2 != 0) || ((downR x).2 != 0))) (by kernel_rfl) (fun hb => ?_) (fun hb => ?_)
        · replace h := h.1 hb
          refine En.seq ?_
          refine En.region ?_
          refine WL.run ht hn 4 ⟨[(2, .sv (.one (B ((upR x).2 == (downR x).2))))], [.gone, .gone, .gone, .gone, .gone, .gone, .gone]⟩ (by kernel_rfl) ?_
          refine WL.nil ?_
          refine En.ret ?_
          exact En.back ht ((upR x).2 == (downR x).2) h (by kernel_rfl) rfl
        · replace h := h.2 hb
          refine En.skip ?_
          refine En.seq ?_
          refine En.region ?_
          refine WL.run ht hn 2 ⟨[(1, .sv (.one (.ptr 0 0))), (6, .sv (.one (.ptr 6 0))), (46, .sv (.agg [I x.fLetters, I x.fStart, LS (lsT intT) x.fNext, LS intT x.fMark])), (47, .sv (.agg [I (upR x).1.fLetters, I (upR x).1.fStart, LS (lsT intT) (upR x).1.fNext, LS intT (upR x).1.fMark]))], [.box [I x.fLetters, I x.fStart, LS (lsT intT) x.fNext, LS intT x.fMark] 25 false, .gone, .gone, .gone, .gone, .gone, .box [I (downR x).1.fLetters, I (downR x).1.fStart, LS (lsT intT) (downR x).1.fNext, LS intT (downR x).1.fMark] 25 false]⟩ (by kernel_rfl) ?_
          refine WL.mt0 (K := []) (p := none) hn (by rfl) (mt_call (detMixed_ct x (upR x).1 4) en18 (caps := []) [] rfl (by rfl) (by kernel_rfl) (by kernel_rfl) (by rfl) (by rfl) (by rfl)) (by rfl) (by rfl) (by rfl) ?_
          refine WL.run ht hn 6 ⟨[(1, .sv (.one (.ptr 0 0))), (4, .sv (.one (I (mixR x (upR x).1 4).2))), (6, .sv (.one (.ptr 6 0))), (8, .sv (.one (.ptr 7 0)))], [.box [I x.fLetters, I x.fStart, LS (lsT intT) x.fNext, LS intT x.fMark] 25 false, .gone, .gone, .gone, .gone, .gone, .box [I (downR x).1.fLetters, I (downR x).1.fStart, LS (lsT intT) (downR x).1.fNext, LS intT (downR x).1.fMark] 25 false, .box [I (mixR x (upR x).1 4).1.fLetters, I (mixR x (upR x).1 4).1.fStart, LS (lsT intT) (mixR x (upR x).1 4).1.fNext, LS intT (mixR x (upR x).1 4).1.fMark] 25 false]⟩ (by kernel_rfl) ?_
          refine WL.nil ?_
          refine En.seq ?_
          refine En.region ?_
          refine WL.run ht hn 2 ⟨[(4, .sv (.one (I (mixR x (upR x).1 4).2))), (8, .sv (.one (.ptr 7 0))), (52, .sv (.agg [I x.fLetters, I x.fStart, LS (lsT intT) x.fNext, LS intT x.fMark])), (53, .sv (.agg [I (downR x).1.fLetters, I (downR x).1.fStart, LS (lsT intT) (downR x).1.fNext, LS intT (downR x).1.fMark]))], [.gone, .gone, .gone, .gone, .gone, .gone, .gone, .box [I (mixR x (upR x).1 4).1.fLetters, I (mixR x (upR x).1 4).1.fStart, LS (lsT intT) (mixR x (upR x).1 4).1.fNext, LS intT (mixR x (upR x).1 4).1.fMark] 25 false]⟩ (by kernel_rfl) ?_
          refine WL.mt0 (K := []) (p := none) hn (by rfl) (mt_call (detMixed_ct x (downR x).1 4) en18 (caps := []) [] rfl (by rfl) (by kernel_rfl) (by kernel_rfl) (by rfl) (by rfl) (by rfl)) (by rfl) (by rfl) (by rfl) ?_
          refine WL.run ht hn 6 ⟨[(4, .sv (.one (I (mixR x (upR x).1 4).2))), (7, .sv (.one (I (mixR x (downR x).1 4).2))), (8, .sv (.one (.ptr 7 0))), (9, .sv (.one (.ptr 8 0)))], [.gone, .gone, .gone, .gone, .gone, .gone, .gone, .box [I (mixR x (upR x).1 4).1.fLetters, I (mixR x (upR x).1 4).1.fStart, LS (lsT intT) (mixR x (upR x).1 4).1.fNext, LS intT (mixR x (upR x).1 4).1.fMark] 25 false, .box [I (mixR x (downR x).1 4).1.fLetters, I (mixR x (downR x).1 4).1.fStart, LS (lsT intT) (mixR x (downR x).1 4).1.fNext, LS intT (mixR x (downR x).1 4).1.fMark] 25 false]⟩ (by kernel_rfl) ?_
          refine WL.nil ?_
          refine En.seq ?_
          refine En.seq ?_
          refine En.region ?_
          refine WL.run ht hn 3 ⟨[(7, .sv (.one (I (mixR x (downR x).1 4).2))), (8, .sv (.one (.ptr 7 0))), (9, .sv (.one (.ptr 8 0))), (59, .sv (.one (B ((mixR x (upR x).1 4).2 != 0))))], [.gone, .gone, .gone, .gone, .gone, .gone, .gone, .box [I (mixR x (upR x).1 4).1.fLetters, I (mixR x (upR x).1 4).1.fStart, LS (lsT intT) (mixR x (upR x).1 4).1.fNext, LS intT (mixR x (upR x).1 4).1.fMark] 25 false, .box [I (mixR x (downR x).1 4).1.fLetters, I (mixR x (downR x).1 4).1.fStart, LS (lsT intT) (mixR x (downR x).1 4).1.fNext, LS intT (mixR x (downR x).1 4).1.fMark] 25 false]⟩ (by kernel_rfl) ?_
          refine WL.thru ⟨[(8, .sv (.one (.ptr 7 0))), (9, .sv (.one (.ptr 8 0))), (62, .sv (.one (B (((mixR x (upR x).1 4).2 != 0) || ((mixR x (downR x).1 4).2 != 0)))))], [.gone, .gone, .gone, .gone, .gone, .gone, .gone, .box [I (mixR x (upR x).1 4).1.fLetters, I (mixR x (upR x).1 4).1.fStart, LS (lsT intT) (mixR x (upR x).1 4).1.fNext, LS intT (mixR x (upR x).1 4).1.fMark] 25 false, .box [I (mixR x (downR x).1 4).1.fLetters, I (mixR x (downR x).1 4).1.fStart, LS (lsT intT) (mixR x (downR x).1 4).1.fNext, LS intT (mixR x (downR x).1 4).1.fMark] 25 false]⟩ ?_ ?_
          · refine splitB ((mixR x (upR x).1 4).2 != 0) (fun hb0 => ?_) (fun hb0 => ?_)
            · refine WL.setB 59 hb0 (by kernel_rfl) ?_
              refine WL.run ht hn 3 ⟨[(8, .sv (.one (.ptr 7 0))), (9, .sv (.one (.ptr 8 0))), (62, .sv (.one (B true)))], [.gone, .gone, .gone, .gone, .gone, .gone, .gone, .box [I (mixR x (upR x).1 4).1.fLetters, I (mixR x (upR x).1 4).1.fStart, LS (lsT intT) (mixR x (upR x).1 4).1.fNext, LS intT (mixR x (upR x).1 4).1.fMark] 25 false, .box [I (mixR x (downR x).1 4).1.fLetters, I (mixR x (downR x).1 4).1.fStart, LS (lsT intT) (mixR x (downR x).1 4).1.fNext, LS intT (mixR x (downR x).1 4).1.fMark] 25 false]⟩ (by kernel_rfl) ?_
              exact WL.nil (sub_ok (by simp only [hb0]; kernel_rfl))
            · refine WL.setB 59 hb0 (by kernel_rfl) ?_
              refine WL.run ht hn 3 ⟨[(8, .sv (.one (.ptr 7 0))), (9, .sv (.one (.ptr 8 0))), (62, .sv (.one (B ((mixR x (downR x).1 4).2 != 0))))], [.gone, .gone, .gone, .gone, .gone, .gone, .gone, .box [I (mixR x (upR x).1 4).1.fLetters, I (mixR x (upR x).1 4).1.fStart, LS (lsT intT) (mixR x (upR x).1 4).1.fNext, LS intT (mixR x (upR x).1 4).1.fMark] 25 false, .box [I (mixR x (downR x).1 4).1.fLetters, I (mixR x (downR x).1 4).1.fStart, LS (lsT intT) (mixR x (downR x).1 4).1.fNext, LS intT (mixR x (downR x).1 4).1.fMark] 25 false]⟩ (by kernel_rfl) ?_
              exact WL.nil (sub_ok (by simp only [hb0]; kernel_rfl))
          · refine En.cond (b := (((mixR x (upR x).1 4).2 != 0) || ((mixR x (downR x).1 4).2 != 0))) (by kernel_rfl) (fun hb => ?_) (fun hb => ?_)
            · replace h := h.1 hb
              refine En.seq ?_
              refine En.region ?_
              refine WL.run ht hn 1 ⟨[(2, .sv (.one (B false)))], [.gone, .gone, .gone, .gone, .gone, .gone, .gone, .gone, .gone]⟩ (by kernel_rfl) ?_
              refine WL.nil ?_
              refine En.ret ?_
              exact En.back ht false h (by kernel_rfl) rfl
            · replace h := h.2 hb
              refine En.skip ?_
              obtain ⟨J, h, hJ⟩ := h
              refine En.seqJ (σ := Bool) (fun zz => J zz) (fun zz => ⟨[(2, .sv (.one (B zz)))], [.gone, .gone, .gone, .gone, .gone, .gone, .gone, .gone, .gone]⟩) ?_ ?_
              · refine En.region ?_
                refine WL.run ht hn 5 ⟨[(8, .sv (.one (.ptr 7 0))), (9, .sv (.one (.ptr 8 0))), (67, .sv (.one (B (((mixR x (upR x).1 4).1.fNext.length : Int) == 1))))], [.gone, .gone, .gone, .gone, .gone, .gone, .gone, .box [I (mixR x (upR x).1 4).1.fLetters, I (mixR x (upR x).1 4).1.fStart, LS (lsT intT) (mixR x (upR x).1 4).1.fNext, LS intT (mixR x (upR x).1 4).1.fMark] 25 false, .box [I (mixR x (downR x).1 4).1.fLetters, I (mixR x (downR x).1 4).1.fStart, LS (lsT intT) (mixR x (downR x).1 4).1.fNext, LS intT (mixR x (downR x).1 4).1.fMark] 25 false]⟩ (by kernel_rfl) ?_
                refine splitB (((mixR x (upR x).1 4).1.fNext.length : Int) == 1) (fun hb => ?_) (fun hb => ?_)
                · replace h := h.1 hb
                  refine WL.setB 67 hb (by kernel_rfl) ?_
                  refine WL.run ht hn 2 ⟨[(9, .sv (.one (.ptr 8 0))), (67, .sv (.one (B true))), (69, .sv (.one (LS intT (mixR x (upR x).1 4).1.fMark)))], [.gone, .gone, .gone, .gone, .gone, .gone, .gone, .gone, .box [I (mixR x (downR x).1 4).1.fLetters, I (mixR x (downR x).1 4).1.fStart, LS (lsT intT) (mixR x (downR x).1 4).1.fNext, LS intT (mixR x (downR x).1 4).1.fMark] 25 false]⟩ (by kernel_rfl) ?_
                  obtain ⟨e, he, h⟩ := h
                  refine WL.val hn (by rfl) (val_index (T := intT) (l := (mixR x (upR x).1 4).1.fMark) (i := 0) ht rfl (by rfl) (by rfl) (by rfl) (by rfl) (by rfl) (by rfl) he) (by rfl) ?_
                  refine WL.val hn (by rfl) (val_load (s := .one (I e)) ht rfl (by rfl) (by rfl) (by rfl) (by rfl) (by rfl)) (by rfl) ?_
                  refine WL.run ht hn 3 ⟨[(9, .sv (.one (.ptr 8 0))), (74, .sv (.one (B (e == 0))))], [.gone, .gone, .gone, .gone, .gone, .gone, .gone, .gone, .box [I (mixR x (downR x).1 4).1.fLetters, I (mixR x (downR x).1 4).1.fStart, LS (lsT intT) (mixR x (downR x).1 4).1.fNext, LS intT (mixR x (downR x).1 4).1.fMark] 25 false]⟩ (by kernel_rfl) ?_
                  refine splitB (e == 0) (fun hb => ?_) (fun hb => ?_)
                  · replace h := h.1 hb
                    refine WL.setB 74 hb (by kernel_rfl) ?_
                    refine WL.run ht hn 6 ⟨[(9, .sv (.one (.ptr 8 0))), (80, .sv (.one (B (((mixR x (downR x).1 4).1.fNext.length : Int) == 1))))], [.gone, .gone, .gone, .gone, .gone, .gone, .gone, .gone, .box [I (mixR x (downR x).1 4).1.fLetters, I (mixR x (downR x).1 4).1.fStart, LS (lsT intT) (mixR x (downR x).1 4).1.fNext, LS intT (mixR x (downR x).1 4).1.fMark] 25 false]⟩ (by kernel_rfl) ?_
                    refine splitB (((mixR x (downR x).1 4).1.fNext.length : Int) == 1) (fun hb => ?_) (fun hb => ?_)
                    · replace h := h.1 hb
                      refine WL.setB 80 hb (by kernel_rfl) ?_
                      refine WL.run ht hn 2 ⟨[(80, .sv (.one (B true))), (82, .sv (.one (LS intT (mixR x (downR x).1 4).1.fMark)))], [.gone, .gone, .gone, .gone, .gone, .gone, .gone, .gone, .gone]⟩ (by kernel_rfl) ?_
                      obtain ⟨e_2, he_2, h⟩ := h
                      refine WL.val hn (by rfl) (val_index (T := intT) (l := (mixR x (downR x).1 4).1.fMark) (i := 0) ht rfl (by rfl) (by rfl) (by rfl) (by rfl) (by rfl) (by rfl) he_2) (by rfl) ?_
                      refine WL.val hn (by rfl) (val_load (s := .one (I e_2)) ht rfl (by rfl) (by rfl) (by rfl) (by rfl) (by rfl)) (by rfl) ?_
                      refine WL.run ht hn 3 ⟨[(2, .sv (.one (B (e_2 == 0))))], [.gone, .gone, .gone, .gone, .gone, .gone, .gone, .gone, .gone]⟩ (by kernel_rfl) ?_
                      refine WL.nil ?_
                      exact En.at (I := fun zz => J zz) (T := fun zz => ⟨[(2, .sv (.one (B zz)))], [.gone, .gone, .gone, .gone, .gone, .gone, .gone, .gone, .gone]⟩) (e_2 == 0) h (by kernel_rfl)
                    · replace h := h.2 hb
                      refine WL.setB 80 hb (by kernel_rfl) ?_
                      refine WL.run ht hn 7 ⟨[(2, .sv (.one (B false)))], [.gone, .gone, .gone, .gone, .gone, .gone, .gone, .gone, .gone]⟩ (by kernel_rfl) ?_
                      refine WL.nil ?_
                      exact En.at (I := fun zz => J zz) (T := fun zz => ⟨[(2, .sv (.one (B zz)))], [.gone, .gone, .gone, .gone, .gone, .gone, .gone, .gone, .gone]⟩) false h (by kernel_rfl)
                  · replace h := h.2 hb
                    refine WL.setB 74 hb (by kernel_rfl) ?_
                    refine WL.run ht hn 13 ⟨[(2, .sv (.one (B false)))], [.gone, .gone, .gone, .gone, .gone, .gone, .gone, .gone, .gone]⟩ (by kernel_rfl) ?_
                    refine WL.nil ?_
                    exact En.at (I := fun zz => J zz) (T := fun zz => ⟨[(2, .sv (.one (B zz)))], [.gone, .gone, .gone, .gone, .gone, .gone, .gone, .gone, .gone]⟩) false h (by kernel_rfl)
                · replace h := h.2 hb
                  refine WL.setB 67 hb (by kernel_rfl) ?_
                  refine WL.run ht hn 20 ⟨[(2, .sv (.one (B false)))], [.gone, .gone, .gone, .gone, .gone, .gone, .gone, .gone, .gone]⟩ (by kernel_rfl) ?_
                  refine WL.nil ?_
                  exact En.at (I := fun zz => J zz) (T := fun zz => ⟨[(2, .sv (.one (B zz)))], [.gone, .gone, .gone, .gone, .gone, .gone, .gone, .gone, .gone]⟩) false h (by kernel_rfl)
              · intro x2 h
                replace h := hJ _ h
                show En c ⟨[(2, .sv (.one (B x2)))], [.gone, .gone, .gone, .gone, .gone, .gone, .gone, .gone, .gone]⟩ _
                refine En.ret ?_
                exact En.back ht x2 h (by kernel_rfl) rfl
theorem en3 : ∀ args w, (callFunc 3 args).run Try.prog w = .ok (.enter 3 args) w := enters_of Try.func3 (by kernel_rfl) rfl
theorem lang_01 {d : ApiDet} (h : DetOk d) (q : Nat) (w : List Nat) : langD d q w = 0 ∨ langD d q w = 1 := by
  unfold langD
  by_cases hq : w.foldl (stepD d) q < d.fMark.length
  · exact h.mark _ (getD_mem hq)
  · left
    rw [List.getD_eq_getElem?_getD, List.getElem?_eq_none (by omega)]
    rfl
theorem upOk {x : ApiDet} (h : smallD x) : CanonOk x.fLetters.toNat (upLang x) 32 := by
  have hst := h.1.start
  have h1 : setN x.fNext.length ((2 ^ x.fStart.toNat : Nat) : Int) := one_in (by omega)
  obtain ⟨m, hm, hl⟩ := sets_all x.fNext.length
  have h2n : 2 ^ x.fNext.length ≤ 2 ^ 5 := Nat.pow_le_pow_right (by decide) h.2
  have := canonOk_keys (go := fun s (a : Nat) => orS s (stepS x s (a : Int))) (mark := fun s => meetB s (goodS x)) (L := x.fLetters.toNat) ((hm _).1 h1) fun k a hk _ => (hm _).1 (orS_in ((hm _).2 hk) stepS_in)
  exact (this.congr fun w _ => up_lang h w).mono (by omega)
theorem downOk {x : ApiDet} (h : smallD x) : CanonOk x.fLetters.toNat (downLang x x.fLetters.toNat) 32 := by
  obtain ⟨m, hm, hl⟩ := sets_all x.fNext.length
  have h2n : 2 ^ x.fNext.length ≤ 2 ^ 5 := Nat.pow_le_pow_right (by decide) h.2
  have := canonOk_keys (go := fun s (a : Nat) => clo x x.fLetters.toNat (stepS x s (a : Int))) (mark := fun s => meetB s (goodS x)) (L := x.fLetters.toNat) (k0 := clo x x.fLetters.toNat ((2 ^ x.fStart.toNat : Nat) : Int)) ((hm _).1 clo_in) fun k a hk _ => (hm _).1 clo_in
  exact (this.congr fun w hw => down_lang h hw).mono (by omega)
def tinyDet : ApiDet := ⟨1, 0, [[0]], [1]⟩
theorem tiny_least : leastR tinyDet = (⟨1, 0, [[0]], [1]⟩, 0) := by
  have h0 : detErr tinyDet = 0 := by decide
  unfold leastR
  rw [if_pos h0]
  congr 1
  refine (canon_congr (s := fun _ => 1) fun w hw => ?_).trans canon_const
  have : ∀ w : List Nat, (∀ a ∈ w, a < 1) → w.foldl (stepD tinyDet) 0 = 0 := by
    intro w
    induction w with
    | nil => intro _; rfl
    | cons a w ih =>
      intro hw
      have ha : a = 0 := by have := hw a List.mem_cons_self; omega
      subst ha
      exact ih fun b hb => hw b (List.mem_cons_of_mem _ hb)
  show tinyDet.fMark.getD (w.foldl (stepD tinyDet) 0) 0 = 1
  rw [this w hw]
  rfl
/-- what x accepts and a larger language does not: nothing -/
theorem mix_none {x : ApiDet} (h : smallD x) {r : Lang} (hr : CanonOk x.fLetters.toNat r 32) (h01 : ∀ w, r w = 0 ∨ r w = 1) (hle : ∀ w, (∀ a ∈ w, a < x.fLetters.toNat) → langD x x.fStart.toNat w = 1 → r w = 1) : mixR x (canon x.fLetters.toNat r) 4 = (⟨x.fLetters.toNat, 0, [List.replicate x.fLetters.toNat 0], [0]⟩, 0) := by
  have hlet := h.1.letters
  have hn := h.2
  have hU := hr.det (by omega) (by omega) h01
  have hc := hr.count
  have h2 : twoErr x (canon x.fLetters.toNat r) = 0 := (twoErr_iff _ _).2 ⟨h.1, hU, by rw [hr.letters]; omega⟩
  have h3 : x.fNext.length * (canon x.fLetters.toNat r).fNext.length ≤ 5 * 32 := Nat.mul_le_mul hn hc
  unfold mixR
  rw [if_pos h2, if_pos (by decide), if_pos (by omega)]
  congr 1
  refine (canon_congr (s := fun _ => 0) fun w hw => ?_).trans canon_const
  show tabB 4 (langD x x.fStart.toNat w) (langD (canon x.fLetters.toNat r) (canon x.fLetters.toNat r).fStart.toNat w) = 0
  rw [hr.start, show (0 : Int).toNat = 0 from rfl, hr.lang w hw]
  have h4 := lang_01 h.1 x.fStart.toNat w
  rw [tabB_01 (by decide) h4 (h01 w)]
  rcases h4 with e | e
  · rw [e]
    rcases h01 w with e2 | e2 <;> rw [e2] <;> decide
  · rw [e, hle w hw e]
    decide
theorem topWithin_ct (x : ApiDet)  : Ct 3 [.sv (.agg [I x.fLetters, I x.fStart, LS (lsT intT) x.fNext, LS intT x.fMark])] [] (fun (_ : Unit) => True) (fun _ => .sv (.one (B (true)))) := by
  refine (topWithin_walk x (fun res_ => res_ = (true)) ?_).fun
  intro _ _
  rw [show (ApiDet.mk 1 0 ([([0] : (List Int))] : (List (List Int))) ([1] : (List Int))) = tinyDet from rfl, tiny_least]
  refine ⟨(fun h => by cases h), fun _ => ?_⟩
  by_cases h0 : smallErr x = 0
  · have hx : smallD x := (smallErr_iff x).1 h0
    have hu : upR x = (canon x.fLetters.toNat (upLang x), 0) := by unfold upR; rw [if_pos h0]
    have hd : downR x = (canon x.fLetters.toNat (downLang x x.fLetters.toNat), 0) := by unfold downR; rw [if_pos h0]
    rw [hu, hd]
    simp only
    rw [mix_none hx (upOk hx) upLang_01 fun w _ e => upLang_iff.2 ⟨w, List.Sublist.refl _, e⟩, mix_none hx (downOk hx) downLang_01 fun w hw e => downLang_iff.2 ⟨w, hw, List.Sublist.refl _, e⟩]
    refine ⟨(fun h => by cases h), fun _ => ⟨(fun h => by cases h), fun _ => ⟨fun b => b = true, ⟨fun _ => ⟨0, rfl, fun _ => ⟨fun _ => ⟨0, rfl, rfl⟩, (fun h => by cases h)⟩, (fun h => by cases h)⟩, (fun h => by cases h)⟩, fun b hb => hb⟩⟩⟩
  · have hu : (upR x).2 = smallErr x := by unfold upR; rw [if_neg h0]
    have hd : (downR x).2 = smallErr x := by unfold downR; rw [if_neg h0]
    rw [hu, hd]
    refine ⟨fun _ => by simp, fun h => ?_⟩
    simp [h0] at h
end Go.Proofs.Ytiinkohfldopbaa

