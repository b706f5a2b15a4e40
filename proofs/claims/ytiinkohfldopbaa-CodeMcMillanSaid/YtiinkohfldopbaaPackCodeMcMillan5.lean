/- Lemmas towards the statement: mirrors of functions, and plain laws. No condition. -/
import Derived.Test.YtiinkohfldopbaaPackCodeMcMillan4

/- Contracts of package code: Kraft's words. No condition. -/
namespace Go.Proofs.Ytiinkohfldopbaa
open Go.RowKit Go.MapKept
set_option linter.unusedSimpArgs false
set_option linter.unusedVariables false
set_option maxRecDepth 100000

def krC1_vc (n : Int) (Q : Bool → Prop) : Prop :=
  Q ((decide (n < 1)) || (decide (n > 30)))
theorem krC1_walk (n : Int) (Q : Bool → Prop) (h : krC1_vc n Q) : Ct 78 [.sv (.one (I n))] [] Q (fun (r : Bool) => .sv (.one (B r))) := by
  have ht := tab_ok
  refine Ct.body Try.func78 rfl rfl rfl rfl (fun c hn => ?_)
  unfold krC1_vc at h
  refine En.seq ?_
  refine En.region ?_
  refine WL.run ht hn 1 ⟨[(0, .sv (.one (I n)))], []⟩ (by kernel_rfl) ?_
  refine WL.nil ?_
  refine En.seq ?_
  refine En.region ?_
  refine WL.run ht hn 3 ⟨[(0, .sv (.one (I n))), (5, .sv (.one (B (decide (n < 1)))))], []⟩ (by kernel_rfl) ?_
  refine WL.thru ⟨[(2, .sv (.one (B ((decide (n < 1)) || (decide (n > 30))))))], []⟩ ?_ ?_
  · refine splitB (decide (n < 1)) (fun hb0 => ?_) (fun hb0 => ?_)
    · refine WL.setB 5 hb0 (by kernel_rfl) ?_
      refine WL.run ht hn 4 ⟨[(2, .sv (.one (B true)))], []⟩ (by kernel_rfl) ?_
      exact WL.nil (sub_ok (by simp only [hb0]; kernel_rfl))
    · refine WL.setB 5 hb0 (by kernel_rfl) ?_
      refine WL.run ht hn 4 ⟨[(2, .sv (.one (B (decide (n > 30)))))], []⟩ (by kernel_rfl) ?_
      exact WL.nil (sub_ok (by simp only [hb0]; kernel_rfl))
  · refine En.ret ?_
    exact En.back ht ((decide (n < 1)) || (decide (n > 30))) h (by kernel_rfl) rfl
theorem en78 : ∀ args w, (callFunc 78 args).run Try.prog w = .ok (.enter 78 args) w := enters_of Try.func78 (by kernel_rfl) rfl
theorem krC1_ct (n : Int)  : Ct 78 [.sv (.one (I n))] [] (fun (_ : Unit) => True) (fun _ => .sv (.one (B ((decide (n < 1)) || (decide (n > 30)))))) := by
  refine (krC1_walk n (fun res_ => res_ = ((decide (n < 1)) || (decide (n > 30)))) ?_).fun
  rfl
def isNan_vc (x : Int) (Q : Bool → Prop) : Prop :=
  Q (x != x)
theorem isNan_walk (x : Int) (Q : Bool → Prop) (h : isNan_vc x Q) : Ct 140 [.sv (.one (I x))] [] Q (fun (r : Bool) => .sv (.one (B r))) := by
  have ht := tab_ok
  refine Ct.body Try.func140 rfl rfl rfl rfl (fun c hn => ?_)
  unfold isNan_vc at h
  refine En.seq ?_
  refine En.region ?_
  refine WL.run ht hn 1 ⟨[(0, .sv (.one (I x)))], []⟩ (by kernel_rfl) ?_
  refine WL.nil ?_
  refine En.seq ?_
  refine En.region ?_
  refine WL.run ht hn 4 ⟨[(2, .sv (.one (B (x != x))))], []⟩ (by kernel_rfl) ?_
  refine WL.nil ?_
  refine En.ret ?_
  exact En.back ht (x != x) h (by kernel_rfl) rfl
theorem en140 : ∀ args w, (callFunc 140 args).run Try.prog w = .ok (.enter 140 args) w := enters_of Try.func140 (by kernel_rfl) rfl
theorem isNan_ct (x : Int)  : Ct 140 [.sv (.one (I x))] [] (fun (_ : Unit) => True) (fun _ => .sv (.one (B (false)))) := by
  refine (isNan_walk x (fun res_ => res_ = (false)) ?_).fun
  unfold isNan_vc
  simp
def cmpC_vc (x : Int) (y : Int) (Q : Int → Prop) : Prop :=
  IfP (false) (IfP (false) (Q 0) (Q (-1))) (IfP (false) (Q 1) (IfP (decide (x < y)) (Q (-1)) (IfP (decide (x > y)) (Q 1) (Q 0))))
theorem cmpC_walk (x : Int) (y : Int) (Q : Int → Prop) (h : cmpC_vc x y Q) : Ct 81 [.sv (.one (I x)), .sv (.one (I y))] [] Q (fun (r : Int) => .sv (.one (I r))) := by
  have ht := tab_ok
  refine Ct.body Try.func81 rfl rfl rfl rfl (fun c hn => ?_)
  unfold cmpC_vc at h
  refine En.seq ?_
  refine En.region ?_
  refine WL.run ht hn 1 ⟨[(0, .sv (.one (I x))), (1, .sv (.one (I y)))], []⟩ (by kernel_rfl) ?_
  refine WL.nil ?_
  refine En.seq ?_
  refine En.region ?_
  refine WL.run ht hn 1 ⟨[(0, .sv (.one (I x))), (1, .sv (.one (I y))), (7, .sv (.one (I x)))], []⟩ (by kernel_rfl) ?_
  refine WL.mt0 (K := []) (p := none) hn (by rfl) (mt_call (isNan_ct x) en140 (caps := []) [] rfl (by rfl) (by kernel_rfl) (by kernel_rfl) (by rfl) (by rfl) (by rfl)) (by rfl) (by rfl) (by rfl) ?_
  refine WL.run ht hn 1 ⟨[(0, .sv (.one (I x))), (1, .sv (.one (I y))), (5, .sv (.one (B (false))))], []⟩ (by kernel_rfl) ?_
  refine WL.nil ?_
  refine En.seq ?_
  refine En.region ?_
  refine WL.run ht hn 1 ⟨[(0, .sv (.one (I x))), (1, .sv (.one (I y))), (5, .sv (.one (B (false)))), (9, .sv (.one (I y)))], []⟩ (by kernel_rfl) ?_
  refine WL.mt0 (K := []) (p := none) hn (by rfl) (mt_call (isNan_ct y) en140 (caps := []) [] rfl (by rfl) (by kernel_rfl) (by kernel_rfl) (by rfl) (by rfl) (by rfl)) (by rfl) (by rfl) (by rfl) ?_
  refine WL.run ht hn 1 ⟨[(0, .sv (.one (I x))), (1, .sv (.one (I y))), (5, .sv (.one (B (false)))), (6, .sv (.one (B (false))))], []⟩ (by kernel_rfl) ?_
  refine WL.nil ?_
  refine En.seq ?_
  refine En.seq ?_
  refine En.region ?_
  refine WL.run ht hn 1 ⟨[(0, .sv (.one (I x))), (1, .sv (.one (I y))), (6, .sv (.one (B (false)))), (11, .sv (.one (B (false))))], []⟩ (by kernel_rfl) ?_
  refine WL.nil ?_
  refine En.cond (b := (false)) (by kernel_rfl) (fun hb => ?_) (fun hb => ?_)
  · replace h := h.1 hb
    refine En.seq ?_
    refine En.seq ?_
    refine En.region ?_
    refine WL.run ht hn 1 ⟨[(12, .sv (.one (B (false))))], []⟩ (by kernel_rfl) ?_
    refine WL.nil ?_
    refine En.cond (b := (false)) (by kernel_rfl) (fun hb => ?_) (fun hb => ?_)
    · replace h := h.1 hb
      refine En.seq ?_
      refine En.region ?_
      refine WL.run ht hn 1 ⟨[(4, .sv (.one (I 0)))], []⟩ (by kernel_rfl) ?_
      refine WL.nil ?_
      refine En.ret ?_
      exact En.back ht 0 h (by kernel_rfl) rfl
    · replace h := h.2 hb
      refine En.skip ?_
      refine En.seq ?_
      refine En.region ?_
      refine WL.run ht hn 1 ⟨[(4, .sv (.one (I (-1))))], []⟩ (by kernel_rfl) ?_
      refine WL.nil ?_
      refine En.ret ?_
      exact En.back ht (-1) h (by kernel_rfl) rfl
  · replace h := h.2 hb
    refine En.skip ?_
    refine En.seq ?_
    refine En.seq ?_
    refine En.region ?_
    refine WL.run ht hn 1 ⟨[(0, .sv (.one (I x))), (1, .sv (.one (I y))), (13, .sv (.one (B (false))))], []⟩ (by kernel_rfl) ?_
    refine WL.nil ?_
    refine En.cond (b := (false)) (by kernel_rfl) (fun hb => ?_) (fun hb => ?_)
    · replace h := h.1 hb
      refine En.seq ?_
      refine En.region ?_
      refine WL.run ht hn 1 ⟨[(4, .sv (.one (I 1)))], []⟩ (by kernel_rfl) ?_
      refine WL.nil ?_
      refine En.ret ?_
      exact En.back ht 1 h (by kernel_rfl) rfl
    · replace h := h.2 hb
      refine En.skip ?_
      refine En.seq ?_
      refine En.seq ?_
      refine En.region ?_
      refine WL.run ht hn 3 ⟨[(0, .sv (.one (I x))), (1, .sv (.one (I y))), (16, .sv (.one (B (decide (x < y)))))], []⟩ (by kernel_rfl) ?_
      refine WL.nil ?_
      refine En.cond (b := (decide (x < y))) (by kernel_rfl) (fun hb => ?_) (fun hb => ?_)
      · replace h := h.1 hb
        refine En.seq ?_
        refine En.region ?_
        refine WL.run ht hn 1 ⟨[(4, .sv (.one (I (-1))))], []⟩ (by kernel_rfl) ?_
        refine WL.nil ?_
        refine En.ret ?_
        exact En.back ht (-1) h (by kernel_rfl) rfl
      · replace h := h.2 hb
        refine En.skip ?_
        refine En.seq ?_
        refine En.seq ?_
        refine En.region ?_
        refine WL.run ht hn 3 ⟨[(19, .sv (.one (B (decide (x > y)))))], []⟩ (by kernel_rfl) ?_
        refine WL.nil ?_
        refine En.cond (b := (decide (x > y))) (by kernel_rfl) (fun hb => ?_) (fun hb => ?_)
        · replace h := h.1 hb
          refine En.seq ?_
          refine En.region ?_
          refine WL.run ht hn 1 ⟨[(4, .sv (.one (I 1)))], []⟩ (by kernel_rfl) ?_
          refine WL.nil ?_
          refine En.ret ?_
          exact En.back ht 1 h (by kernel_rfl) rfl
        · replace h := h.2 hb
          refine En.skip ?_
          refine En.seq ?_
          refine En.region ?_
          refine WL.run ht hn 1 ⟨[(4, .sv (.one (I 0)))], []⟩ (by kernel_rfl) ?_
          refine WL.nil ?_
          refine En.ret ?_
          exact En.back ht 0 h (by kernel_rfl) rfl
theorem en81 : ∀ args w, (callFunc 81 args).run Try.prog w = .ok (.enter 81 args) w := enters_of Try.func81 (by kernel_rfl) rfl
def cmpI (x y : Int) : Int := if x < y then -1 else if x > y then 1 else 0
theorem cmpC_ct (x : Int) (y : Int)  : Ct 81 [.sv (.one (I x)), .sv (.one (I y))] [] (fun (_ : Unit) => True) (fun _ => .sv (.one (I (cmpI x y)))) := by
  refine (cmpC_walk x y (fun res_ => res_ = (cmpI x y)) ?_).fun
  unfold cmpC_vc cmpI
  refine ⟨fun h => Bool.noConfusion h, fun _ => ⟨fun h => Bool.noConfusion h, fun _ => ⟨fun h => ?_, fun h => ⟨fun h2 => ?_, fun h2 => ?_⟩⟩⟩⟩
  · have h := of_decide_eq_true h; rw [if_pos h]
  · have h := of_decide_eq_false h; have h2 := of_decide_eq_true h2; rw [if_neg h, if_pos h2]
  · have h := of_decide_eq_false h; have h2 := of_decide_eq_false h2; rw [if_neg h, if_neg h2]
def krC2_vc (i : Int) (k : Int) (s : (List Int)) (Q : Int → Prop) : Prop :=
  ∃ e, idx s i = some e ∧
  ∃ e_2, idx s k = some e_2 ∧
  Q (cmpI e e_2)
theorem krC2_walk (i : Int) (k : Int) (s : (List Int)) (Q : Int → Prop) (h : krC2_vc i k s Q) : Ct 80 [.sv (.one (I i)), .sv (.one (I k)), .sv (.one (.ptr 0 0))] [.box [LS intT s] 23 true] Q (fun (r : Int) => .sv (.one (I r))) := by
  have ht := tab_ok
  refine Ct.body Try.func80 rfl rfl rfl rfl (fun c hn => ?_)
  unfold krC2_vc at h
  refine En.seq ?_
  refine En.region ?_
  refine WL.run ht hn 1 ⟨[(0, .sv (.one (I i))), (1, .sv (.one (I k))), (2, .sv (.one (.ptr 0 0)))], [.box [LS intT s] 23 true]⟩ (by kernel_rfl) ?_
  refine WL.nil ?_
  refine En.seq ?_
  obtain ⟨e, he, h⟩ := h
  obtain ⟨e_2, he_2, h⟩ := h
  refine En.regionA ⟨[(0, .sv (.one (I i))), (1, .sv (.one (I k))), (2, .sv (.one (.ptr 0 0)))], [.sv (.one (LS intT s)), .sv (.one (I i)), .sv (.one (.pe (svR (.one (I e))) 1)), .sv (.one (I e)), .sv (.one (LS intT s)), .sv (.one (I k)), .sv (.one (.pe (svR (.one (I e_2))) 1)), .sv (.one (I e_2)), .sv (.one (I (cmpI e e_2))), .sv (.one (I (cmpI e e_2)))], [⟨.box [LS intT s] 23 true, none, none, none⟩]⟩ ⟨[(5, .sv (.one (I (cmpI e e_2))))], [.gone]⟩ (by kernel_rfl) hn (by kernel_rfl) (by rfl) (by kernel_rfl) ?_ (by kernel_rfl) ?_
  · exact ⟨.mt ⟨[(2, .sv (.one (.ptr 0 0)))], [.box [LS intT s] 23 true]⟩ [] none (by kernel_rfl) (by rfl) (mt_ev ht (by kernel_rfl)) rfl rfl rfl rfl,
    .mt ⟨[(0, .sv (.one (I i)))], []⟩ [] none (by kernel_rfl) (by rfl) (mt_ev ht (by kernel_rfl)) rfl rfl rfl rfl,
    .mt ⟨[(6, .sv (.one (LS intT s))), (7, .sv (.one (I i)))], []⟩ [] none (by kernel_rfl) (by rfl) (mt_val (val_index (T := intT) (l := s) (i := i) ht rfl (by rfl) (by rfl) (by rfl) (by rfl) (by rfl) (by rfl) he)) rfl rfl rfl rfl,
    .mt ⟨[(8, .sv (.one (.pe (svR (.one (I e))) 1)))], []⟩ [] none (by kernel_rfl) (by rfl) (mt_val (val_load (s := .one (I e)) ht rfl (by rfl) (by rfl) (by rfl) (by rfl) (by rfl))) rfl rfl rfl rfl,
    .mt ⟨[(2, .sv (.one (.ptr 0 0)))], [.box [LS intT s] 23 true]⟩ [] none (by kernel_rfl) (by rfl) (mt_ev ht (by kernel_rfl)) rfl rfl rfl rfl,
    .mt ⟨[(1, .sv (.one (I k)))], []⟩ [] none (by kernel_rfl) (by rfl) (mt_ev ht (by kernel_rfl)) rfl rfl rfl rfl,
    .mt ⟨[(10, .sv (.one (LS intT s))), (11, .sv (.one (I k)))], []⟩ [] none (by kernel_rfl) (by rfl) (mt_val (val_index (T := intT) (l := s) (i := k) ht rfl (by rfl) (by rfl) (by rfl) (by rfl) (by rfl) (by rfl) he_2)) rfl rfl rfl rfl,
    .mt ⟨[(12, .sv (.one (.pe (svR (.one (I e_2))) 1)))], []⟩ [] none (by kernel_rfl) (by rfl) (mt_val (val_load (s := .one (I e_2)) ht rfl (by rfl) (by rfl) (by rfl) (by rfl) (by rfl))) rfl rfl rfl rfl,
    .mt ⟨[(9, .sv (.one (I e))), (13, .sv (.one (I e_2)))], []⟩ [] none (by kernel_rfl) (by rfl) (mt_call (cmpC_ct e e_2) en81 (caps := []) [] rfl (by rfl) (by kernel_rfl) (by kernel_rfl) (by rfl) (by rfl) (by rfl)) rfl rfl rfl rfl,
    .mt ⟨[(14, .sv (.one (I (cmpI e e_2))))], []⟩ [] none (by kernel_rfl) (by rfl) (mt_ev ht (by kernel_rfl)) rfl rfl rfl rfl,
    trivial⟩
  · refine En.ret ?_
    exact En.back ht (cmpI e e_2) h (by kernel_rfl) rfl
theorem en80 : ∀ args w, (callFunc 80 args).run Try.prog w = .ok (.enter 80 args) w := enters_of Try.func80 (by kernel_rfl) rfl
def InIx (s : List Int) (i : Int) : Prop := 0 ≤ i ∧ i < s.length
def krCmp (s : List Int) (y : Int × Int) : Int := cmpI (s.getD y.1.toNat 0) (s.getD y.2.toNat 0)
def krDom (s : List Int) (y : Int × Int) : Prop := InIx s y.1 ∧ InIx s y.2
theorem krC2_ct (i : Int) (k : Int) (s : (List Int)) (hp : InIx s i ∧ InIx s k)  : Ct 80 [.sv (.one (I i)), .sv (.one (I k)), .sv (.one (.ptr 0 0))] [.box [LS intT s] 23 true] (fun (_ : Unit) => True) (fun _ => .sv (.one (I (cmpI (s.getD i.toNat 0) (s.getD k.toNat 0))))) := by
  refine (krC2_walk i k s (fun res_ => res_ = (cmpI (s.getD i.toNat 0) (s.getD k.toNat 0))) ?_).fun
  unfold krC2_vc
  obtain ⟨⟨h1, h2⟩, h3, h4⟩ := hp
  refine ⟨_, idx_of 0 h1 h2, _, idx_of 0 h3 h4, ?_⟩
  rfl
def insDown (φ : Int × Int → Int) (a : Nat) : Nat → List Int → List Int
  | 0, R => R
  | j + 1, R => if (decide (a < j + 1) && decide (φ (R.getD (j + 1) 0, R.getD j 0) < 0)) = true then insDown φ a j ((R.set (j + 1) (R.getD j 0)).set j (R.getD (j + 1) 0)) else R
def insUp (φ : Int × Int → Int) (a : Nat) : Nat → Nat → List Int → List Int
  | 0, _, R => R
  | n + 1, i, R => insUp φ a n (i + 1) (insDown φ a i R)
def insAll (φ : Int × Int → Int) (a b : Nat) (R : List Int) : List Int := insUp φ a (b - (a + 1)) (a + 1) R
structure InsPre (dom : Int × Int → Prop) (R : List Int) (a b : Int) : Prop where
  dom : ∀ x ∈ R, ∀ y ∈ R, dom (x, y)
  a0 : 0 ≤ a ∧ a ≤ R.length
  b0 : 0 ≤ b ∧ b ≤ R.length
  len : R.length ≤ 1000
theorem swap_perm {R : List Int} {j : Nat} (h : j + 1 < R.length) : ((R.set (j + 1) (R.getD j 0)).set j (R.getD (j + 1) 0)).Perm R := by
  have := @List.set_set_perm Int R (j + 1) j h (by omega)
  rwa [show R.getD j 0 = R[j] from by simp [show j < R.length by omega], show R.getD (j + 1) 0 = R[j + 1] from by simp [h]]
theorem insDown_perm {φ : Int × Int → Int} {a : Nat} : ∀ {j : Nat} {R : List Int}, j < R.length → (insDown φ a j R).Perm R
  | 0, R, _ => .refl R
  | j + 1, R, h => by
    rw [insDown]
    split
    · exact (insDown_perm (by rw [List.length_set, List.length_set]; omega)).trans (swap_perm h)
    · exact .refl R
theorem insUp_perm {φ : Int × Int → Int} {a : Nat} : ∀ {n i : Nat} {R : List Int}, i + n ≤ R.length → (insUp φ a n i R).Perm R
  | 0, _, R, _ => .refl R
  | n + 1, i, R, h => by
    rw [insUp]
    have hp := insDown_perm (φ := φ) (a := a) (j := i) (R := R) (by omega)
    exact (insUp_perm (by rw [hp.length_eq]; omega)).trans hp
theorem insDown_stay {φ : Int × Int → Int} {a j : Nat} {R : List Int} (h : (decide (a < j) && decide (φ (R.getD j 0, R.getD (j - 1) 0) < 0)) = false) : insDown φ a j R = R := by
  cases j with
  | zero => rfl
  | succ j => rw [insDown, if_neg (by rw [Nat.add_sub_cancel] at h; rw [h]; decide)]
theorem insDown_go {φ : Int × Int → Int} {a j : Nat} {R : List Int} (h : (decide (a < j + 1) && decide (φ (R.getD (j + 1) 0, R.getD j 0) < 0)) = true) : insDown φ a j ((R.set (j + 1) (R.getD j 0)).set j (R.getD (j + 1) 0)) = insDown φ a (j + 1) R := by
  rw [insDown, if_pos h]
def insS_vc (R : (List Int)) (a : Int) (b : Int) (dom : ((Int × Int) → Prop)) (φ : ((Int × Int) → Int)) (Q : (List Int) → Prop) : Prop :=
  ∃ (Inv : Int → (List Int) → Prop) (mu : Int → (List Int) → Nat), Inv (wr (a + 1)) R ∧
  ∀ (x8 : Int) (l0 : (List Int)) , Inv x8 l0 → (IfP (decide (x8 < b)) (∃ (Inv_2 : Int → (List Int) → Prop) (mu_2 : Int → (List Int) → Nat), Inv_2 x8 l0 ∧
  ∀ (x9 : Int) (l0_2 : (List Int)) , Inv_2 x9 l0_2 → (∃ J : Bool → Prop, (IfP (decide (x9 > a)) (∃ e, idx l0_2 x9 = some e ∧
  ∃ e_2, idx l0_2 (wr (x9 - 1)) = some e_2 ∧
  (dom (e, e_2)) ∧
  J (decide ((φ (e, e_2)) < 0))) (J false)) ∧
  (∀ (x34 : Bool), J x34 → IfP x34 (∃ e_3, idx l0_2 (wr (x9 - 1)) = some e_3 ∧
  ∃ e_4, idx l0_2 x9 = some e_4 ∧
  ∃ e_5, idx l0_2 x9 = some e_5 ∧
  ∃ e_6, idx (l0_2.set (x9).toNat e_3) (wr (x9 - 1)) = some e_6 ∧
  (Inv_2 (wr (x9 - 1)) ((l0_2.set (x9).toNat e_3).set ((wr (x9 - 1))).toNat e_4) ∧ mu_2 (wr (x9 - 1)) ((l0_2.set (x9).toNat e_3).set ((wr (x9 - 1))).toNat e_4) < mu_2 x9 l0_2)) ((Inv (wr (x8 + 1)) l0_2 ∧ mu (wr (x8 + 1)) l0_2 < mu x8 l0))))) (Q l0))
theorem insS_walk (R : (List Int)) (a : Int) (b : Int) (dom : ((Int × Int) → Prop)) (φ : ((Int × Int) → Int)) (Q : (List Int) → Prop) (h : insS_vc R a b dom φ Q) : CtE 193 [.sv (.one (.own 0)), .sv (.one (I a)), .sv (.one (I b)), .sv (.one (.rd (fvR (fun (x : (Int × Int)) => [.sv (.one (I x.1)), .sv (.one (I x.2))]) (fun (r : Int) => .sv (.one (I r))) dom φ)))] [rowI 3 intT R] [0] Q (fun (r : (List Int)) => .tup []) (fun (r : (List Int)) => [rowI 3 intT r]) := by
  have ht := tab_ok
  refine CtE.bodyR Try.func193 rfl rfl rfl (by kernel_rfl) (fun c Vk hn => ?_)
  unfold insS_vc at h
  show En c ⟨[(0, .sv (.one (.pown 0 (Vk 0)))), (1, .sv (.one (I a))), (2, .sv (.one (I b))), (3, .sv (.one (.rd (fvR (fun (x : (Int × Int)) => [.sv (.one (I x.1)), .sv (.one (I x.2))]) (fun (r : Int) => .sv (.one (I r))) dom φ))))], [rowI 3 intT R]⟩ _
  refine En.seq ?_
  refine En.region ?_
  refine WL.run ht hn 3 ⟨[(0, .sv (.one (.pown 0 (Vk 0)))), (1, .sv (.one (I a))), (2, .sv (.one (I b))), (3, .sv (.one (.rd (fvR (fun (x : (Int × Int)) => [.sv (.one (I x.1)), .sv (.one (I x.2))]) (fun (r : Int) => .sv (.one (I r))) dom φ)))), (8, .sv (.one (I (wr (a + 1)))))], [rowI 3 intT R]⟩ (by kernel_rfl) ?_
  refine WL.nil ?_
  refine En.block ?_
  obtain ⟨Inv, mu, h0_2, hI_2⟩ := h
  refine En.loop (σ := Int × (List Int)) (fun zz => Inv zz.1 zz.2) (fun zz => mu zz.1 zz.2) (fun zz => ⟨[(0, .sv (.one (.pown 0 (Vk 0)))), (1, .sv (.one (I a))), (2, .sv (.one (I b))), (3, .sv (.one (.rd (fvR (fun (x : (Int × Int)) => [.sv (.one (I x.1)), .sv (.one (I x.2))]) (fun (r : Int) => .sv (.one (I r))) dom φ)))), (8, .sv (.one (I zz.1)))], [rowI 3 intT zz.2]⟩) ((wr (a + 1)), R) h0_2 (sub_ok (by kernel_rfl)) ?_
  rintro ⟨x8, l0⟩ h
  replace h := hI_2 _ _ h
  show En c ⟨[(0, .sv (.one (.pown 0 (Vk 0)))), (1, .sv (.one (I a))), (2, .sv (.one (I b))), (3, .sv (.one (.rd (fvR (fun (x : (Int × Int)) => [.sv (.one (I x.1)), .sv (.one (I x.2))]) (fun (r : Int) => .sv (.one (I r))) dom φ)))), (8, .sv (.one (I x8)))], [rowI 3 intT l0]⟩ _
  refine En.seq ?_
  refine En.seq ?_
  refine En.region ?_
  refine WL.run ht hn 3 ⟨[(0, .sv (.one (.pown 0 (Vk 0)))), (1, .sv (.one (I a))), (2, .sv (.one (I b))), (3, .sv (.one (.rd (fvR (fun (x : (Int × Int)) => [.sv (.one (I x.1)), .sv (.one (I x.2))]) (fun (r : Int) => .sv (.one (I r))) dom φ)))), (8, .sv (.one (I x8))), (14, .sv (.one (B (decide (x8 < b)))))], [rowI 3 intT l0]⟩ (by kernel_rfl) ?_
  refine WL.nil ?_
  refine En.cond (b := (decide (x8 < b))) (by kernel_rfl) (fun hb => ?_) (fun hb => ?_)
  · replace h := h.1 hb
    refine En.skip ?_
    refine En.seq ?_
    refine En.block ?_
    refine En.seq ?_
    refine En.region ?_
    refine WL.run ht hn 2 ⟨[(0, .sv (.one (.pown 0 (Vk 0)))), (1, .sv (.one (I a))), (2, .sv (.one (I b))), (3, .sv (.one (.rd (fvR (fun (x : (Int × Int)) => [.sv (.one (I x.1)), .sv (.one (I x.2))]) (fun (r : Int) => .sv (.one (I r))) dom φ)))), (8, .sv (.one (I x8))), (9, .sv (.one (I x8)))], [rowI 3 intT l0]⟩ (by kernel_rfl) ?_
    refine WL.nil ?_
    refine En.block ?_
    obtain ⟨Inv_2, mu_2, h0, hI⟩ := h
    refine En.loop (σ := Int × (List Int)) (fun zz => Inv_2 zz.1 zz.2) (fun zz => mu_2 zz.1 zz.2) (fun zz => ⟨[(0, .sv (.one (.pown 0 (Vk 0)))), (1, .sv (.one (I a))), (2, .sv (.one (I b))), (3, .sv (.one (.rd (fvR (fun (x : (Int × Int)) => [.sv (.one (I x.1)), .sv (.one (I x.2))]) (fun (r : Int) => .sv (.one (I r))) dom φ)))), (8, .sv (.one (I x8))), (9, .sv (.one (I zz.1)))], [rowI 3 intT zz.2]⟩) (x8, l0) h0 (sub_ok (by kernel_rfl)) ?_
    rintro ⟨x9, l0_2⟩ h
    replace h := hI _ _ h
    show En c ⟨[(0, .sv (.one (.pown 0 (Vk 0)))), (1, .sv (.one (I a))), (2, .sv (.one (I b))), (3, .sv (.one (.rd (fvR (fun (x : (Int × Int)) => [.sv (.one (I x.1)), .sv (.one (I x.2))]) (fun (r : Int) => .sv (.one (I r))) dom φ)))), (8, .sv (.one (I x8))), (9, .sv (.one (I x9)))], [rowI 3 intT l0_2]⟩ _
    refine En.seq ?_
    obtain ⟨J, h, hJ⟩ := h
    refine En.seqJ (σ := Bool) (fun zz => J zz) (fun zz => ⟨[(0, .sv (.one (.pown 0 (Vk 0)))), (1, .sv (.one (I a))), (2, .sv (.one (I b))), (3, .sv (.one (.rd (fvR (fun (x : (Int × Int)) => [.sv (.one (I x.1)), .sv (.one (I x.2))]) (fun (r : Int) => .sv (.one (I r))) dom φ)))), (8, .sv (.one (I x8))), (9, .sv (.one (I x9))), (34, .sv (.one (B zz)))], [rowI 3 intT l0_2]⟩) ?_ ?_
    · refine splitB (decide (x9 > a)) (fun hb_2 => ?_) (fun hb_2 => ?_)
      · replace h := h.1 hb_2
        obtain ⟨e, he, h⟩ := h
        obtain ⟨e_2, he_2, h⟩ := h
        have hp_2 := h.1
        replace h := h.2
        refine En.regionA ⟨[(0, .sv (.one (.pown 0 (Vk 0)))), (1, .sv (.one (I a))), (2, .sv (.one (I b))), (3, .sv (.one (.rd (fvR (fun (x : (Int × Int)) => [.sv (.one (I x.1)), .sv (.one (I x.2))]) (fun (r : Int) => .sv (.one (I r))) dom φ)))), (8, .sv (.one (I x8))), (9, .sv (.one (I x9)))], [.sv (.one (I x9)), .sv (.one (I a)), .sv (.one (B true)), .sv (.one (B true)), .sv (.one (.rd (fvR (fun (x : (Int × Int)) => [.sv (.one (I x.1)), .sv (.one (I x.2))]) (fun (r : Int) => .sv (.one (I r))) dom φ))), .sv (.one (.own 0)), .sv (.one (I x9)), .sv (.one (.oe 0 ((x9).toNat) 1)), .sv (.one (I e)), .sv (.one (.own 0)), .sv (.one (I x9)), .sv (.one (I (wr (x9 - 1)))), .sv (.one (.oe 0 (((wr (x9 - 1))).toNat) 1)), .sv (.one (I e_2)), .sv (.one (I (φ (e, e_2)))), .sv (.one (B (decide ((φ (e, e_2)) < 0)))), .sv (.one (B (decide ((φ (e, e_2)) < 0))))], [⟨rowI 3 intT l0_2, none, none, none⟩]⟩ ⟨[(0, .sv (.one (.pown 0 (Vk 0)))), (1, .sv (.one (I a))), (2, .sv (.one (I b))), (3, .sv (.one (.rd (fvR (fun (x : (Int × Int)) => [.sv (.one (I x.1)), .sv (.one (I x.2))]) (fun (r : Int) => .sv (.one (I r))) dom φ)))), (8, .sv (.one (I x8))), (9, .sv (.one (I x9))), (34, .sv (.one (B (decide ((φ (e, e_2)) < 0)))))], [rowI 3 intT l0_2]⟩ (by kernel_rfl) hn (by kernel_rfl) (by rfl) (by kernel_rfl) ?_ (by kernel_rfl) ?_
        · exact ⟨.mt ⟨[(9, .sv (.one (I x9)))], []⟩ [] none (by kernel_rfl) (by rfl) (mt_ev ht (by kernel_rfl)) rfl rfl rfl rfl,
    .mt ⟨[(1, .sv (.one (I a)))], []⟩ [] none (by kernel_rfl) (by rfl) (mt_ev ht (by kernel_rfl)) rfl rfl rfl rfl,
    .mt ⟨[(18, .sv (.one (I x9))), (19, .sv (.one (I a)))], []⟩ [] none (by kernel_rfl) (by rfl) (mt_castB hb_2 (mt_ev ht (by kernel_rfl))) rfl rfl rfl rfl,
    .mt ⟨[(20, .sv (.one (B true)))], []⟩ [] none (by kernel_rfl) (by rfl) (mt_ev ht (by kernel_rfl)) rfl rfl rfl rfl,
    .mt ⟨[(3, .sv (.one (.rd (fvR (fun (x : (Int × Int)) => [.sv (.one (I x.1)), .sv (.one (I x.2))]) (fun (r : Int) => .sv (.one (I r))) dom φ)))), (21, .sv (.one (B true)))], []⟩ [] none (by kernel_rfl) (by rfl) (mt_ev ht (by kernel_rfl)) rfl rfl rfl rfl,
    .mt ⟨[(0, .sv (.one (.pown 0 (Vk 0)))), (21, .sv (.one (B true)))], []⟩ [] none (by kernel_rfl) (by rfl) (mt_ev ht (by kernel_rfl)) rfl rfl rfl rfl,
    .mt ⟨[(9, .sv (.one (I x9))), (21, .sv (.one (B true)))], []⟩ [] none (by kernel_rfl) (by rfl) (mt_ev ht (by kernel_rfl)) rfl rfl rfl rfl,
    .mt ⟨[(21, .sv (.one (B true))), (23, .sv (.one (.own 0))), (24, .sv (.one (I x9)))], [rowI 3 intT l0_2]⟩ [] none (by kernel_rfl) (by rfl) (mt_val (val_indexO (T := intT) (l := l0_2) (k := x9) ht rfl (by rfl) (by rfl) (by rfl) (by rfl) (by decide) (by rfl) (by rfl) (by rfl) he)) rfl rfl rfl rfl,
    .mt ⟨[(21, .sv (.one (B true))), (25, .sv (.one (.oe 0 ((x9).toNat) 1)))], [rowI 3 intT l0_2]⟩ [] none (by kernel_rfl) (by rfl) (mt_val (val_loadO (T := intT) (l := l0_2) (y := e) ht rfl (by rfl) (by rfl) (by rfl) (by rfl) (by rfl) (idx_some he).2.2 (by rfl))) rfl rfl rfl rfl,
    .mt ⟨[(0, .sv (.one (.pown 0 (Vk 0)))), (21, .sv (.one (B true)))], []⟩ [] none (by kernel_rfl) (by rfl) (mt_ev ht (by kernel_rfl)) rfl rfl rfl rfl,
    .mt ⟨[(9, .sv (.one (I x9))), (21, .sv (.one (B true)))], []⟩ [] none (by kernel_rfl) (by rfl) (mt_ev ht (by kernel_rfl)) rfl rfl rfl rfl,
    .mt ⟨[(21, .sv (.one (B true))), (28, .sv (.one (I x9)))], []⟩ [] none (by kernel_rfl) (by rfl) (mt_ev ht (by kernel_rfl)) rfl rfl rfl rfl,
    .mt ⟨[(21, .sv (.one (B true))), (27, .sv (.one (.own 0))), (29, .sv (.one (I (wr (x9 - 1)))))], [rowI 3 intT l0_2]⟩ [] none (by kernel_rfl) (by rfl) (mt_val (val_indexO (T := intT) (l := l0_2) (k := (wr (x9 - 1))) ht rfl (by rfl) (by rfl) (by rfl) (by rfl) (by decide) (by rfl) (by rfl) (by rfl) he_2)) rfl rfl rfl rfl,
    .mt ⟨[(21, .sv (.one (B true))), (30, .sv (.one (.oe 0 (((wr (x9 - 1))).toNat) 1)))], [rowI 3 intT l0_2]⟩ [] none (by kernel_rfl) (by rfl) (mt_val (val_loadO (T := intT) (l := l0_2) (y := e_2) ht rfl (by rfl) (by rfl) (by rfl) (by rfl) (by rfl) (idx_some he_2).2.2 (by rfl))) rfl rfl rfl rfl,
    .mt ⟨[(21, .sv (.one (B true))), (22, .sv (.one (.rd (fvR (fun (x : (Int × Int)) => [.sv (.one (I x.1)), .sv (.one (I x.2))]) (fun (r : Int) => .sv (.one (I r))) dom φ)))), (26, .sv (.one (I e))), (31, .sv (.one (I e_2)))], []⟩ [] none (by kernel_rfl) (by rfl) (mt_callv (ins := (fun (x : (Int × Int)) => [.sv (.one (I x.1)), .sv (.one (I x.2))])) (out := (fun (r : Int) => .sv (.one (I r)))) (dom := dom) (φ := φ) (e, e_2) hp_2 rfl (by rfl) (by rfl) (by rfl) (by rfl)) rfl rfl rfl rfl,
    .mt ⟨[(21, .sv (.one (B true))), (32, .sv (.one (I (φ (e, e_2)))))], []⟩ [] none (by kernel_rfl) (by rfl) (mt_ev ht (by kernel_rfl)) rfl rfl rfl rfl,
    .mt ⟨[(21, .sv (.one (B true))), (33, .sv (.one (B (decide ((φ (e, e_2)) < 0)))))], []⟩ [] none (by kernel_rfl) (by rfl) (mt_ev ht (by kernel_rfl)) rfl rfl rfl rfl,
    trivial⟩
        · exact En.at (I := fun zz => J zz) (T := fun zz => ⟨[(0, .sv (.one (.pown 0 (Vk 0)))), (1, .sv (.one (I a))), (2, .sv (.one (I b))), (3, .sv (.one (.rd (fvR (fun (x : (Int × Int)) => [.sv (.one (I x.1)), .sv (.one (I x.2))]) (fun (r : Int) => .sv (.one (I r))) dom φ)))), (8, .sv (.one (I x8))), (9, .sv (.one (I x9))), (34, .sv (.one (B zz)))], [rowI 3 intT l0_2]⟩) (decide ((φ (e, e_2)) < 0)) h (by kernel_rfl)
      · replace h := h.2 hb_2
        refine En.regionA ⟨[(0, .sv (.one (.pown 0 (Vk 0)))), (1, .sv (.one (I a))), (2, .sv (.one (I b))), (3, .sv (.one (.rd (fvR (fun (x : (Int × Int)) => [.sv (.one (I x.1)), .sv (.one (I x.2))]) (fun (r : Int) => .sv (.one (I r))) dom φ)))), (8, .sv (.one (I x8))), (9, .sv (.one (I x9)))], [.sv (.one (I x9)), .sv (.one (I a)), .sv (.one (B false)), .sv (.one (B false)), .tup [], .tup [], .tup [], .tup [], .tup [], .tup [], .tup [], .tup [], .tup [], .tup [], .tup [], .tup [], .sv (.one (B false))], [⟨rowI 3 intT l0_2, none, none, none⟩]⟩ ⟨[(0, .sv (.one (.pown 0 (Vk 0)))), (1, .sv (.one (I a))), (2, .sv (.one (I b))), (3, .sv (.one (.rd (fvR (fun (x : (Int × Int)) => [.sv (.one (I x.1)), .sv (.one (I x.2))]) (fun (r : Int) => .sv (.one (I r))) dom φ)))), (8, .sv (.one (I x8))), (9, .sv (.one (I x9))), (34, .sv (.one (B false)))], [rowI 3 intT l0_2]⟩ (by kernel_rfl) hn (by kernel_rfl) (by rfl) (by kernel_rfl) ?_ (by kernel_rfl) ?_
        · exact ⟨.mt ⟨[(9, .sv (.one (I x9)))], []⟩ [] none (by kernel_rfl) (by rfl) (mt_ev ht (by kernel_rfl)) rfl rfl rfl rfl,
    .mt ⟨[(1, .sv (.one (I a)))], []⟩ [] none (by kernel_rfl) (by rfl) (mt_ev ht (by kernel_rfl)) rfl rfl rfl rfl,
    .mt ⟨[(18, .sv (.one (I x9))), (19, .sv (.one (I a)))], []⟩ [] none (by kernel_rfl) (by rfl) (mt_castB hb_2 (mt_ev ht (by kernel_rfl))) rfl rfl rfl rfl,
    .mt ⟨[(20, .sv (.one (B false)))], []⟩ [] none (by kernel_rfl) (by rfl) (mt_ev ht (by kernel_rfl)) rfl rfl rfl rfl,
    .skip ⟨[(21, .sv (.one (B false)))], []⟩ (by kernel_rfl) (by rfl) rfl rfl rfl rfl,
    .skip ⟨[(21, .sv (.one (B false)))], []⟩ (by kernel_rfl) (by rfl) rfl rfl rfl rfl,
    .skip ⟨[(21, .sv (.one (B false)))], []⟩ (by kernel_rfl) (by rfl) rfl rfl rfl rfl,
    .skip ⟨[(21, .sv (.one (B false)))], []⟩ (by kernel_rfl) (by rfl) rfl rfl rfl rfl,
    .skip ⟨[(21, .sv (.one (B false)))], []⟩ (by kernel_rfl) (by rfl) rfl rfl rfl rfl,
    .skip ⟨[(21, .sv (.one (B false)))], []⟩ (by kernel_rfl) (by rfl) rfl rfl rfl rfl,
    .skip ⟨[(21, .sv (.one (B false)))], []⟩ (by kernel_rfl) (by rfl) rfl rfl rfl rfl,
    .skip ⟨[(21, .sv (.one (B false)))], []⟩ (by kernel_rfl) (by rfl) rfl rfl rfl rfl,
    .skip ⟨[(21, .sv (.one (B false)))], []⟩ (by kernel_rfl) (by rfl) rfl rfl rfl rfl,
    .skip ⟨[(21, .sv (.one (B false)))], []⟩ (by kernel_rfl) (by rfl) rfl rfl rfl rfl,
    .skip ⟨[(21, .sv (.one (B false)))], []⟩ (by kernel_rfl) (by rfl) rfl rfl rfl rfl,
    .skip ⟨[(21, .sv (.one (B false)))], []⟩ (by kernel_rfl) (by rfl) rfl rfl rfl rfl,
    .mt ⟨[(21, .sv (.one (B false))), (33, .tup [])], []⟩ [] none (by kernel_rfl) (by rfl) (mt_ev ht (by kernel_rfl)) rfl rfl rfl rfl,
    trivial⟩
        · exact En.at (I := fun zz => J zz) (T := fun zz => ⟨[(0, .sv (.one (.pown 0 (Vk 0)))), (1, .sv (.one (I a))), (2, .sv (.one (I b))), (3, .sv (.one (.rd (fvR (fun (x : (Int × Int)) => [.sv (.one (I x.1)), .sv (.one (I x.2))]) (fun (r : Int) => .sv (.one (I r))) dom φ)))), (8, .sv (.one (I x8))), (9, .sv (.one (I x9))), (34, .sv (.one (B zz)))], [rowI 3 intT l0_2]⟩) false h (by kernel_rfl)
    · intro x34 h
      replace h := hJ _ h
      show En c ⟨[(0, .sv (.one (.pown 0 (Vk 0)))), (1, .sv (.one (I a))), (2, .sv (.one (I b))), (3, .sv (.one (.rd (fvR (fun (x : (Int × Int)) => [.sv (.one (I x.1)), .sv (.one (I x.2))]) (fun (r : Int) => .sv (.one (I r))) dom φ)))), (8, .sv (.one (I x8))), (9, .sv (.one (I x9))), (34, .sv (.one (B x34)))], [rowI 3 intT l0_2]⟩ _
      refine En.cond (b := x34) (by kernel_rfl) (fun hb => ?_) (fun hb => ?_)
      · replace h := h.1 hb
        refine En.skip ?_
        refine En.seq ?_
        refine En.block ?_
        obtain ⟨e_3, he_3, h⟩ := h
        obtain ⟨e_4, he_4, h⟩ := h
        obtain ⟨e_5, he_5, h⟩ := h
        refine En.regionT ⟨[(0, .sv (.one (.pown 0 (Vk 0)))), (1, .sv (.one (I a))), (2, .sv (.one (I b))), (3, .sv (.one (.rd (fvR (fun (x : (Int × Int)) => [.sv (.one (I x.1)), .sv (.one (I x.2))]) (fun (r : Int) => .sv (.one (I r))) dom φ)))), (8, .sv (.one (I x8))), (9, .sv (.one (I x9)))], [.sv (.one (.own 0)), .sv (.one (I x9)), .sv (.one (.own 0)), .sv (.one (I x9)), .sv (.one (I (wr (x9 - 1)))), .sv (.one (.own 0)), .sv (.one (I x9)), .sv (.one (I (wr (x9 - 1)))), .sv (.one (.oe 0 (((wr (x9 - 1))).toNat) 1)), .sv (.one (I e_3)), .sv (.one (.own 0)), .sv (.one (I x9)), .sv (.one (.oe 0 ((x9).toNat) 1)), .sv (.one (I e_4)), .sv (.one (.oe 0 ((x9).toNat) 1)), .tup []], [⟨rowI 3 intT l0_2, none, none, some (15, rowI 3 intT (l0_2.set (x9).toNat e_3))⟩]⟩ 16 ⟨[(0, .sv (.one (.pown 0 (Vk 0)))), (1, .sv (.one (I a))), (2, .sv (.one (I b))), (3, .sv (.one (.rd (fvR (fun (x : (Int × Int)) => [.sv (.one (I x.1)), .sv (.one (I x.2))]) (fun (r : Int) => .sv (.one (I r))) dom φ)))), (8, .sv (.one (I x8))), (9, .sv (.one (I x9))), (39, .sv (.one (.own 0))), (41, .sv (.one (I (wr (x9 - 1))))), (50, .sv (.one (I e_4)))], [rowI 3 intT (l0_2.set (x9).toNat e_3)]⟩ (by kernel_rfl) hn (by kernel_rfl) (by kernel_rfl) (by kernel_rfl) (by rfl) (by kernel_rfl) ?_ (by kernel_rfl) ?_
        · exact ⟨.mt ⟨[(0, .sv (.one (.pown 0 (Vk 0))))], []⟩ [] none (by kernel_rfl) (by rfl) (mt_ev ht (by kernel_rfl)) rfl rfl rfl rfl,
    .mt ⟨[(9, .sv (.one (I x9)))], []⟩ [] none (by kernel_rfl) (by rfl) (mt_ev ht (by kernel_rfl)) rfl rfl rfl rfl,
    .mt ⟨[(0, .sv (.one (.pown 0 (Vk 0))))], []⟩ [] none (by kernel_rfl) (by rfl) (mt_ev ht (by kernel_rfl)) rfl rfl rfl rfl,
    .mt ⟨[(9, .sv (.one (I x9)))], []⟩ [] none (by kernel_rfl) (by rfl) (mt_ev ht (by kernel_rfl)) rfl rfl rfl rfl,
    .mt ⟨[(40, .sv (.one (I x9)))], []⟩ [] none (by kernel_rfl) (by rfl) (mt_ev ht (by kernel_rfl)) rfl rfl rfl rfl,
    .mt ⟨[(0, .sv (.one (.pown 0 (Vk 0))))], []⟩ [] none (by kernel_rfl) (by rfl) (mt_ev ht (by kernel_rfl)) rfl rfl rfl rfl,
    .mt ⟨[(9, .sv (.one (I x9)))], []⟩ [] none (by kernel_rfl) (by rfl) (mt_ev ht (by kernel_rfl)) rfl rfl rfl rfl,
    .mt ⟨[(43, .sv (.one (I x9)))], []⟩ [] none (by kernel_rfl) (by rfl) (mt_ev ht (by kernel_rfl)) rfl rfl rfl rfl,
    .mt ⟨[(42, .sv (.one (.own 0))), (44, .sv (.one (I (wr (x9 - 1)))))], [rowI 3 intT l0_2]⟩ [] none (by kernel_rfl) (by rfl) (mt_val (val_indexO (T := intT) (l := l0_2) (k := (wr (x9 - 1))) ht rfl (by rfl) (by rfl) (by rfl) (by rfl) (by decide) (by rfl) (by rfl) (by rfl) he_3)) rfl rfl rfl rfl,
    .mt ⟨[(45, .sv (.one (.oe 0 (((wr (x9 - 1))).toNat) 1)))], [rowI 3 intT l0_2]⟩ [] none (by kernel_rfl) (by rfl) (mt_val (val_loadO (T := intT) (l := l0_2) (y := e_3) ht rfl (by rfl) (by rfl) (by rfl) (by rfl) (by rfl) (idx_some he_3).2.2 (by rfl))) rfl rfl rfl rfl,
    .mt ⟨[(0, .sv (.one (.pown 0 (Vk 0))))], []⟩ [] none (by kernel_rfl) (by rfl) (mt_ev ht (by kernel_rfl)) rfl rfl rfl rfl,
    .mt ⟨[(9, .sv (.one (I x9)))], []⟩ [] none (by kernel_rfl) (by rfl) (mt_ev ht (by kernel_rfl)) rfl rfl rfl rfl,
    .mt ⟨[(47, .sv (.one (.own 0))), (48, .sv (.one (I x9)))], [rowI 3 intT l0_2]⟩ [] none (by kernel_rfl) (by rfl) (mt_val (val_indexO (T := intT) (l := l0_2) (k := x9) ht rfl (by rfl) (by rfl) (by rfl) (by rfl) (by decide) (by rfl) (by rfl) (by rfl) he_4)) rfl rfl rfl rfl,
    .mt ⟨[(49, .sv (.one (.oe 0 ((x9).toNat) 1)))], [rowI 3 intT l0_2]⟩ [] none (by kernel_rfl) (by rfl) (mt_val (val_loadO (T := intT) (l := l0_2) (y := e_4) ht rfl (by rfl) (by rfl) (by rfl) (by rfl) (by rfl) (idx_some he_4).2.2 (by rfl))) rfl rfl rfl rfl,
    .mt ⟨[(37, .sv (.one (.own 0))), (38, .sv (.one (I x9)))], [rowI 3 intT l0_2]⟩ [] none (by kernel_rfl) (by rfl) (mt_val (val_indexO (T := intT) (l := l0_2) (k := x9) ht rfl (by rfl) (by rfl) (by rfl) (by rfl) (by decide) (by rfl) (by rfl) (by rfl) he_5)) rfl rfl rfl rfl,
    .mu ⟨[(46, .sv (.one (I e_3))), (51, .sv (.one (.oe 0 ((x9).toNat) 1)))], [rowI 3 intT l0_2]⟩ 0 _ _ rfl rfl (by kernel_rfl) (by rfl) (mu_storeO (T := intT) (l := l0_2) (y := e_3) ht rfl (by rfl) (by rfl) (fun _ h => by cases h) (by rfl) (by rfl) (idx_lt he_5) (by rfl) (by rfl) (by rfl)) rfl rfl rfl rfl rfl rfl rfl,
    trivial⟩
        · obtain ⟨e_6, he_6, h⟩ := h
          refine WL.val hn (by rfl) (val_indexO (T := intT) (l := (l0_2.set (x9).toNat e_3)) (k := (wr (x9 - 1))) ht rfl (by rfl) (by rfl) (by rfl) (by rfl) (by decide) (by rfl) (by rfl) (by rfl) he_6) (by rfl) ?_
          refine WL.storeO (T := intT) (l := (l0_2.set (x9).toNat e_3)) (y := e_4) ht hn (by rfl) rfl (by rfl) (by rfl) (fun _ h => by cases h) (by rfl) (by rfl) (idx_lt he_6) (by rfl) (by rfl) (by rfl) (by rfl) ?_
          refine WL.nil ?_
          refine En.region ?_
          refine WL.run ht hn 3 ⟨[(0, .sv (.one (.pown 0 (Vk 0)))), (1, .sv (.one (I a))), (2, .sv (.one (I b))), (3, .sv (.one (.rd (fvR (fun (x : (Int × Int)) => [.sv (.one (I x.1)), .sv (.one (I x.2))]) (fun (r : Int) => .sv (.one (I r))) dom φ)))), (8, .sv (.one (I x8))), (9, .sv (.one (I (wr (x9 - 1)))))], [rowI 3 intT ((l0_2.set (x9).toNat e_3).set ((wr (x9 - 1))).toNat e_4)]⟩ (by kernel_rfl) ?_
          refine WL.nil ?_
          exact En.at (I := fun zz => Inv_2 zz.1 zz.2 ∧ mu_2 zz.1 zz.2 < mu_2 x9 l0_2) (T := fun zz => ⟨[(0, .sv (.one (.pown 0 (Vk 0)))), (1, .sv (.one (I a))), (2, .sv (.one (I b))), (3, .sv (.one (.rd (fvR (fun (x : (Int × Int)) => [.sv (.one (I x.1)), .sv (.one (I x.2))]) (fun (r : Int) => .sv (.one (I r))) dom φ)))), (8, .sv (.one (I x8))), (9, .sv (.one (I zz.1)))], [rowI 3 intT zz.2]⟩) ((wr (x9 - 1)), ((l0_2.set (x9).toNat e_3).set ((wr (x9 - 1))).toNat e_4)) h (by kernel_rfl)
      · replace h := h.2 hb
        refine En.exit rfl ?_
        refine En.region ?_
        refine WL.run ht hn 3 ⟨[(0, .sv (.one (.pown 0 (Vk 0)))), (1, .sv (.one (I a))), (2, .sv (.one (I b))), (3, .sv (.one (.rd (fvR (fun (x : (Int × Int)) => [.sv (.one (I x.1)), .sv (.one (I x.2))]) (fun (r : Int) => .sv (.one (I r))) dom φ)))), (8, .sv (.one (I (wr (x8 + 1)))))], [rowI 3 intT l0_2]⟩ (by kernel_rfl) ?_
        refine WL.nil ?_
        exact En.at (I := fun zz => Inv zz.1 zz.2 ∧ mu zz.1 zz.2 < mu x8 l0) (T := fun zz => ⟨[(0, .sv (.one (.pown 0 (Vk 0)))), (1, .sv (.one (I a))), (2, .sv (.one (I b))), (3, .sv (.one (.rd (fvR (fun (x : (Int × Int)) => [.sv (.one (I x.1)), .sv (.one (I x.2))]) (fun (r : Int) => .sv (.one (I r))) dom φ)))), (8, .sv (.one (I zz.1)))], [rowI 3 intT zz.2]⟩) ((wr (x8 + 1)), l0_2) h (by kernel_rfl)
  · replace h := h.2 hb
    refine En.exit rfl ?_
    exact En.backR [0] ht l0 h (by kernel_rfl) (by rfl) rfl
theorem en193 : ∀ args w, (callFunc 193 args).run Try.prog w = .ok (.enter 193 args) w := enters_of Try.func193 (by kernel_rfl) rfl
theorem insS_ct (R : (List Int)) (a : Int) (b : Int) (dom : ((Int × Int) → Prop)) (φ : ((Int × Int) → Int)) (hp : InsPre dom R a b)  : CtE 193 [.sv (.one (.own 0)), .sv (.one (I a)), .sv (.one (I b)), .sv (.one (.rd (fvR (fun (x : (Int × Int)) => [.sv (.one (I x.1)), .sv (.one (I x.2))]) (fun (r : Int) => .sv (.one (I r))) dom φ)))] [rowI 3 intT R] [0] (fun (_ : Unit) => True) (fun _ => .tup []) (fun _ => [rowI 3 intT (insAll φ a.toNat b.toNat R)]) := by
  refine (insS_walk R a b dom φ (fun res_ => res_ = insAll φ a.toNat b.toNat R) ?_).imp (fun r hr => ⟨(), trivial, by subst hr; rfl, by subst hr; rfl⟩)
  obtain ⟨hd, ⟨ha, hal⟩, ⟨hb0, hbl⟩, hl⟩ := hp
  unfold insS_vc
  refine ⟨fun x l => ∃ i : Nat, x = i ∧ a.toNat < i ∧ (i ≤ b.toNat ∨ i = a.toNat + 1) ∧ l.length = R.length ∧ (∀ y ∈ l, y ∈ R) ∧ insUp φ a.toNat (b.toNat - i) i l = insAll φ a.toNat b.toNat R, fun x _ => b.toNat - x.toNat, ⟨a.toNat + 1, by rw [wr_in (by omega) (by omega)]; omega, by omega, .inr rfl, rfl, fun _ h => h, rfl⟩, ?_⟩
  rintro x l ⟨i, rfl, hi, hib0, hlen, hm, he⟩
  refine ⟨fun hb => ?_, fun hb => ?_⟩
  · have hib : (i : Int) < b := of_decide_eq_true hb
    refine ⟨fun y m => ∃ j : Nat, y = j ∧ j ≤ i ∧ m.length = R.length ∧ (∀ z ∈ m, z ∈ R) ∧ insDown φ a.toNat j m = insDown φ a.toNat i l, fun y _ => y.toNat, ⟨i, rfl, Nat.le_refl _, hlen, hm, rfl⟩, ?_⟩
    rintro y m ⟨j, rfl, hj, hml, hmm, hme⟩
    refine ⟨fun b' => b' = (decide (a.toNat < j) && decide (φ (m.getD j 0, m.getD (j - 1) 0) < 0)), ⟨fun hc => ?_, fun hc => ?_⟩, ?_⟩
    · have hc : (j : Int) > a := of_decide_eq_true hc
      have hw : wr ((j : Int) - 1) = ((j - 1 : Nat) : Int) := by rw [wr_in (by omega) (by omega)]; omega
      refine ⟨_, idx_getN 0 (by omega), _, by rw [hw]; exact idx_getN 0 (by omega), hd _ (hmm _ (getD_mem (by omega))) _ (hmm _ (getD_mem (by omega))), ?_⟩
      show decide _ = (_ && _)
      rw [decide_eq_true (show a.toNat < j by omega), Bool.true_and]
    · have hc := of_decide_eq_false hc
      show false = (_ && _)
      rw [decide_eq_false (show ¬ a.toNat < j by omega)]
      rfl
    · rintro b' rfl
      refine ⟨fun hc => ?_, fun hc => ?_⟩
      · have hc2 := of_decide_eq_true ((Bool.and_eq_true _ _).mp hc).1
        obtain ⟨j, rfl⟩ : ∃ k, j = k + 1 := ⟨j - 1, by omega⟩
        have hw : wr (((j + 1 : Nat) : Int) - 1) = (j : Int) := by rw [wr_in (by omega) (by omega)]; omega
        rw [Nat.add_sub_cancel] at hc
        rw [hw, Int.toNat_natCast, Int.toNat_natCast]
        have hjm : j + 1 < m.length := by omega
        refine ⟨_, idx_getN 0 (by omega), _, idx_getN 0 hjm, _, idx_getN 0 hjm, _, idx_getN 0 (by rw [List.length_set]; omega), ⟨j, rfl, by omega, ?_, fun z hz => hmm z ((swap_perm hjm).mem_iff.1 hz), ?_⟩, ?_⟩
        · rw [List.length_set, List.length_set, hml]
        · rw [insDown_go hc, hme]
        · show (j : Int).toNat < ((j + 1 : Nat) : Int).toNat
          omega
      · have hst := insDown_stay hc
        rw [hst] at hme
        subst hme
        rw [wsucc (by omega)]
        refine ⟨⟨i + 1, rfl, by omega, .inl (by omega), hml, hmm, ?_⟩, ?_⟩
        · rw [← he, show b.toNat - i = (b.toNat - (i + 1)) + 1 by omega, insUp]
        · show b.toNat - ((i + 1 : Nat) : Int).toNat < b.toNat - (i : Int).toNat
          omega
  · have hib := of_decide_eq_false hb
    show l = _
    rw [← he, show b.toNat - i = 0 by omega, insUp]
theorem en194 : ∀ args w, (callFunc 194 args).run Try.prog w = .ok (.enter 194 args) w := enters_of Try.func194 (by kernel_rfl) rfl
theorem noMerge_ct (R : List Int) (a m b : Int) (dom : ((Int × Int) → Prop)) (φ : ((Int × Int) → Int)) (hp : False) : CtE 194 [.sv (.one (.own 0)), .sv (.one (I a)), .sv (.one (I m)), .sv (.one (I b)), .sv (.one (.rd (fvR (fun (x : (Int × Int)) => [.sv (.one (I x.1)), .sv (.one (I x.2))]) (fun (r : Int) => .sv (.one (I r))) dom φ)))] [rowI 3 intT R] [0] (fun (_ : Unit) => True) (fun _ => .tup []) (fun _ => [rowI 3 intT R]) := hp.elim
def stabS_vc (R : (List Int)) (n : Int) (dom : ((Int × Int) → Prop)) (φ : ((Int × Int) → Int)) (Q : (List Int) → Prop) : Prop :=
  ∃ (Inv : Int → Int → (List Int) → Prop) (mu : Int → Int → (List Int) → Nat), Inv 0 20 R ∧
  ∀ (x7 : Int) (x8 : Int) (l0 : (List Int)) , Inv x7 x8 l0 → (IfP (decide (x8 ≤ n)) ((InsPre (dom) (l0) (x7) (x8)) ∧
  (Inv x8 (wr (x8 + 20)) (insAll (φ) (x7).toNat (x8).toNat (l0)) ∧ mu x8 (wr (x8 + 20)) (insAll (φ) (x7).toNat (x8).toNat (l0)) < mu x7 x8 l0)) ((InsPre (dom) (l0) (x7) (n)) ∧
  ∃ (Inv_2 : Int → (List Int) → Prop) (mu_2 : Int → (List Int) → Nat), Inv_2 20 (insAll (φ) (x7).toNat (n).toNat (l0)) ∧
  ∀ (x6 : Int) (l0_2 : (List Int)) , Inv_2 x6 l0_2 → (IfP (decide (x6 < n)) (∃ (Inv_3 : Int → Int → (List Int) → Prop) (mu_3 : Int → Int → (List Int) → Nat), Inv_3 0 (wr (2 * x6)) l0_2 ∧
  ∀ (x7_2 : Int) (x8_2 : Int) (l0_3 : (List Int)) , Inv_3 x7_2 x8_2 l0_3 → (IfP (decide (x8_2 ≤ n)) ((False) ∧
  (Inv_3 x8_2 (wr (x8_2 + (wr (2 * x6)))) (l0_3) ∧ mu_3 x8_2 (wr (x8_2 + (wr (2 * x6)))) (l0_3) < mu_3 x7_2 x8_2 l0_3)) (∃ J : (List Int) → Prop, (IfP (decide ((wr (x7_2 + x6)) < n)) ((False) ∧
  J (l0_3)) (J l0_3)) ∧
  (∀ (l0_4 : (List Int)), J l0_4 → (Inv_2 (wr (x6 * 2)) l0_4 ∧ mu_2 (wr (x6 * 2)) l0_4 < mu_2 x6 l0_2))))) (Q l0_2))))
theorem stabS_walk (R : (List Int)) (n : Int) (dom : ((Int × Int) → Prop)) (φ : ((Int × Int) → Int)) (Q : (List Int) → Prop) (h : stabS_vc R n dom φ Q) : CtE 139 [.sv (.one (.own 0)), .sv (.one (I n)), .sv (.one (.rd (fvR (fun (x : (Int × Int)) => [.sv (.one (I x.1)), .sv (.one (I x.2))]) (fun (r : Int) => .sv (.one (I r))) dom φ)))] [rowI 3 intT R] [0] Q (fun (r : (List Int)) => .tup []) (fun (r : (List Int)) => [rowI 3 intT r]) := by
  have ht := tab_ok
  refine CtE.bodyR Try.func139 rfl rfl rfl (by kernel_rfl) (fun c Vk hn => ?_)
  unfold stabS_vc at h
  show En c ⟨[(0, .sv (.one (.pown 0 (Vk 0)))), (1, .sv (.one (I n))), (2, .sv (.one (.rd (fvR (fun (x : (Int × Int)) => [.sv (.one (I x.1)), .sv (.one (I x.2))]) (fun (r : Int) => .sv (.one (I r))) dom φ))))], [rowI 3 intT R]⟩ _
  refine En.seq ?_
  refine En.region ?_
  refine WL.run ht hn 1 ⟨[(0, .sv (.one (.pown 0 (Vk 0)))), (1, .sv (.one (I n))), (2, .sv (.one (.rd (fvR (fun (x : (Int × Int)) => [.sv (.one (I x.1)), .sv (.one (I x.2))]) (fun (r : Int) => .sv (.one (I r))) dom φ)))), (6, .sv (.one (I 20)))], [rowI 3 intT R]⟩ (by kernel_rfl) ?_
  refine WL.nil ?_
  refine En.seq ?_
  refine En.region ?_
  refine WL.run ht hn 3 ⟨[(0, .sv (.one (.pown 0 (Vk 0)))), (1, .sv (.one (I n))), (2, .sv (.one (.rd (fvR (fun (x : (Int × Int)) => [.sv (.one (I x.1)), .sv (.one (I x.2))]) (fun (r : Int) => .sv (.one (I r))) dom φ)))), (6, .sv (.one (I 20))), (7, .sv (.one (I 0))), (8, .sv (.one (I 20)))], [rowI 3 intT R]⟩ (by kernel_rfl) ?_
  refine WL.nil ?_
  refine En.seq ?_
  refine En.block ?_
  obtain ⟨Inv, mu, h0_3, hI_3⟩ := h
  refine En.loop (σ := Int × Int × (List Int)) (fun zz => Inv zz.1 zz.2.1 zz.2.2) (fun zz => mu zz.1 zz.2.1 zz.2.2) (fun zz => ⟨[(0, .sv (.one (.pown 0 (Vk 0)))), (1, .sv (.one (I n))), (2, .sv (.one (.rd (fvR (fun (x : (Int × Int)) => [.sv (.one (I x.1)), .sv (.one (I x.2))]) (fun (r : Int) => .sv (.one (I r))) dom φ)))), (6, .sv (.one (I 20))), (7, .sv (.one (I zz.1))), (8, .sv (.one (I zz.2.1)))], [rowI 3 intT zz.2.2]⟩) (0, 20, R) h0_3 (sub_ok (by kernel_rfl)) ?_
  rintro ⟨x7, x8, l0⟩ h
  replace h := hI_3 _ _ _ h
  show En c ⟨[(0, .sv (.one (.pown 0 (Vk 0)))), (1, .sv (.one (I n))), (2, .sv (.one (.rd (fvR (fun (x : (Int × Int)) => [.sv (.one (I x.1)), .sv (.one (I x.2))]) (fun (r : Int) => .sv (.one (I r))) dom φ)))), (6, .sv (.one (I 20))), (7, .sv (.one (I x7))), (8, .sv (.one (I x8)))], [rowI 3 intT l0]⟩ _
  refine En.seq ?_
  refine En.seq ?_
  refine En.region ?_
  refine WL.run ht hn 3 ⟨[(0, .sv (.one (.pown 0 (Vk 0)))), (1, .sv (.one (I n))), (2, .sv (.one (.rd (fvR (fun (x : (Int × Int)) => [.sv (.one (I x.1)), .sv (.one (I x.2))]) (fun (r : Int) => .sv (.one (I r))) dom φ)))), (6, .sv (.one (I 20))), (7, .sv (.one (I x7))), (8, .sv (.one (I x8))), (13, .sv (.one (B (decide (x8 ≤ n)))))], [rowI 3 intT l0]⟩ (by kernel_rfl) ?_
  refine WL.nil ?_
  refine En.cond (b := (decide (x8 ≤ n))) (by kernel_rfl) (fun hb => ?_) (fun hb => ?_)
  · replace h := h.1 hb
    refine En.skip ?_
    refine En.block ?_
    refine En.seq ?_
    refine En.region ?_
    refine WL.run ht hn 4 ⟨[(0, .sv (.one (.pown 0 (Vk 0)))), (1, .sv (.one (I n))), (2, .sv (.one (.rd (fvR (fun (x : (Int × Int)) => [.sv (.one (I x.1)), .sv (.one (I x.2))]) (fun (r : Int) => .sv (.one (I r))) dom φ)))), (6, .sv (.one (I 20))), (8, .sv (.one (I x8))), (14, .sv (.one (.own 0))), (15, .sv (.one (I x7))), (16, .sv (.one (I x8))), (17, .sv (.one (.rd (fvR (fun (x : (Int × Int)) => [.sv (.one (I x.1)), .sv (.one (I x.2))]) (fun (r : Int) => .sv (.one (I r))) dom φ))))], [rowI 3 intT l0]⟩ (by kernel_rfl) ?_
    have hp := h.1
    replace h := h.2
    refine WL.callE (insS_ct l0 x7 x8 dom φ hp) en193 (caps := []) [0] hn (by rfl) rfl (by rfl) (argsAs (by kernel_rfl) (by rfl)) (by kernel_rfl) (by decide) (by rfl) (by rfl) (fun _ _ => ⟨by rfl, _, by rfl, ?_⟩)
    refine WL.nil ?_
    refine En.seq ?_
    refine En.region ?_
    refine WL.run ht hn 2 ⟨[(0, .sv (.one (.pown 0 (Vk 0)))), (1, .sv (.one (I n))), (2, .sv (.one (.rd (fvR (fun (x : (Int × Int)) => [.sv (.one (I x.1)), .sv (.one (I x.2))]) (fun (r : Int) => .sv (.one (I r))) dom φ)))), (6, .sv (.one (I 20))), (7, .sv (.one (I x8))), (8, .sv (.one (I x8)))], [rowI 3 intT (insAll (φ) (x7).toNat (x8).toNat (l0))]⟩ (by kernel_rfl) ?_
    refine WL.nil ?_
    refine En.region ?_
    refine WL.run ht hn 4 ⟨[(0, .sv (.one (.pown 0 (Vk 0)))), (1, .sv (.one (I n))), (2, .sv (.one (.rd (fvR (fun (x : (Int × Int)) => [.sv (.one (I x.1)), .sv (.one (I x.2))]) (fun (r : Int) => .sv (.one (I r))) dom φ)))), (6, .sv (.one (I 20))), (7, .sv (.one (I x8))), (8, .sv (.one (I (wr (x8 + 20)))))], [rowI 3 intT (insAll (φ) (x7).toNat (x8).toNat (l0))]⟩ (by kernel_rfl) ?_
    refine WL.nil ?_
    exact En.at (I := fun zz => Inv zz.1 zz.2.1 zz.2.2 ∧ mu zz.1 zz.2.1 zz.2.2 < mu x7 x8 l0) (T := fun zz => ⟨[(0, .sv (.one (.pown 0 (Vk 0)))), (1, .sv (.one (I n))), (2, .sv (.one (.rd (fvR (fun (x : (Int × Int)) => [.sv (.one (I x.1)), .sv (.one (I x.2))]) (fun (r : Int) => .sv (.one (I r))) dom φ)))), (6, .sv (.one (I 20))), (7, .sv (.one (I zz.1))), (8, .sv (.one (I zz.2.1)))], [rowI 3 intT zz.2.2]⟩) (x8, (wr (x8 + 20)), (insAll (φ) (x7).toNat (x8).toNat (l0))) h (by kernel_rfl)
  · replace h := h.2 hb
    refine En.exit rfl ?_
    refine En.seq ?_
    refine En.region ?_
    refine WL.run ht hn 4 ⟨[(0, .sv (.one (.pown 0 (Vk 0)))), (1, .sv (.one (I n))), (2, .sv (.one (.rd (fvR (fun (x : (Int × Int)) => [.sv (.one (I x.1)), .sv (.one (I x.2))]) (fun (r : Int) => .sv (.one (I r))) dom φ)))), (6, .sv (.one (I 20))), (23, .sv (.one (.own 0))), (24, .sv (.one (I x7))), (25, .sv (.one (I n))), (26, .sv (.one (.rd (fvR (fun (x : (Int × Int)) => [.sv (.one (I x.1)), .sv (.one (I x.2))]) (fun (r : Int) => .sv (.one (I r))) dom φ))))], [rowI 3 intT l0]⟩ (by kernel_rfl) ?_
    have hp := h.1
    replace h := h.2
    refine WL.callE (insS_ct l0 x7 n dom φ hp) en193 (caps := []) [0] hn (by rfl) rfl (by rfl) (argsAs (by kernel_rfl) (by rfl)) (by kernel_rfl) (by decide) (by rfl) (by rfl) (fun _ _ => ⟨by rfl, _, by rfl, ?_⟩)
    refine WL.nil ?_
    refine En.block ?_
    obtain ⟨Inv_2, mu_2, h0_2, hI_2⟩ := h
    refine En.loop (σ := Int × (List Int)) (fun zz => Inv_2 zz.1 zz.2) (fun zz => mu_2 zz.1 zz.2) (fun zz => ⟨[(0, .sv (.one (.pown 0 (Vk 0)))), (1, .sv (.one (I n))), (2, .sv (.one (.rd (fvR (fun (x : (Int × Int)) => [.sv (.one (I x.1)), .sv (.one (I x.2))]) (fun (r : Int) => .sv (.one (I r))) dom φ)))), (6, .sv (.one (I zz.1)))], [rowI 3 intT zz.2]⟩) (20, (insAll (φ) (x7).toNat (n).toNat (l0))) h0_2 (sub_ok (by kernel_rfl)) ?_
    rintro ⟨x6, l0_2⟩ h
    replace h := hI_2 _ _ h
    show En c ⟨[(0, .sv (.one (.pown 0 (Vk 0)))), (1, .sv (.one (I n))), (2, .sv (.one (.rd (fvR (fun (x : (Int × Int)) => [.sv (.one (I x.1)), .sv (.one (I x.2))]) (fun (r : Int) => .sv (.one (I r))) dom φ)))), (6, .sv (.one (I x6)))], [rowI 3 intT l0_2]⟩ _
    refine En.seq ?_
    refine En.seq ?_
    refine En.region ?_
    refine WL.run ht hn 3 ⟨[(0, .sv (.one (.pown 0 (Vk 0)))), (1, .sv (.one (I n))), (2, .sv (.one (.rd (fvR (fun (x : (Int × Int)) => [.sv (.one (I x.1)), .sv (.one (I x.2))]) (fun (r : Int) => .sv (.one (I r))) dom φ)))), (6, .sv (.one (I x6))), (30, .sv (.one (B (decide (x6 < n)))))], [rowI 3 intT l0_2]⟩ (by kernel_rfl) ?_
    refine WL.nil ?_
    refine En.cond (b := (decide (x6 < n))) (by kernel_rfl) (fun hb => ?_) (fun hb => ?_)
    · replace h := h.1 hb
      refine En.skip ?_
      refine En.block ?_
      refine En.seq ?_
      refine En.region ?_
      refine WL.run ht hn 4 ⟨[(0, .sv (.one (.pown 0 (Vk 0)))), (1, .sv (.one (I n))), (2, .sv (.one (.rd (fvR (fun (x : (Int × Int)) => [.sv (.one (I x.1)), .sv (.one (I x.2))]) (fun (r : Int) => .sv (.one (I r))) dom φ)))), (6, .sv (.one (I x6))), (7, .sv (.one (I 0))), (8, .sv (.one (I (wr (2 * x6)))))], [rowI 3 intT l0_2]⟩ (by kernel_rfl) ?_
      refine WL.nil ?_
      refine En.seq ?_
      refine En.block ?_
      obtain ⟨Inv_3, mu_3, h0, hI⟩ := h
      refine En.loop (σ := Int × Int × (List Int)) (fun zz => Inv_3 zz.1 zz.2.1 zz.2.2) (fun zz => mu_3 zz.1 zz.2.1 zz.2.2) (fun zz => ⟨[(0, .sv (.one (.pown 0 (Vk 0)))), (1, .sv (.one (I n))), (2, .sv (.one (.rd (fvR (fun (x : (Int × Int)) => [.sv (.one (I x.1)), .sv (.one (I x.2))]) (fun (r : Int) => .sv (.one (I r))) dom φ)))), (6, .sv (.one (I x6))), (7, .sv (.one (I zz.1))), (8, .sv (.one (I zz.2.1)))], [rowI 3 intT zz.2.2]⟩) (0, (wr (2 * x6)), l0_2) h0 (sub_ok (by kernel_rfl)) ?_
      rintro ⟨x7_2, x8_2, l0_3⟩ h
      replace h := hI _ _ _ h
      show En c ⟨[(0, .sv (.one (.pown 0 (Vk 0)))), (1, .sv (.one (I n))), (2, .sv (.one (.rd (fvR (fun (x : (Int × Int)) => [.sv (.one (I x.1)), .sv (.one (I x.2))]) (fun (r : Int) => .sv (.one (I r))) dom φ)))), (6, .sv (.one (I x6))), (7, .sv (.one (I x7_2))), (8, .sv (.one (I x8_2)))], [rowI 3 intT l0_3]⟩ _
      refine En.seq ?_
      refine En.seq ?_
      refine En.region ?_
      refine WL.run ht hn 3 ⟨[(0, .sv (.one (.pown 0 (Vk 0)))), (1, .sv (.one (I n))), (2, .sv (.one (.rd (fvR (fun (x : (Int × Int)) => [.sv (.one (I x.1)), .sv (.one (I x.2))]) (fun (r : Int) => .sv (.one (I r))) dom φ)))), (6, .sv (.one (I x6))), (7, .sv (.one (I x7_2))), (8, .sv (.one (I x8_2))), (35, .sv (.one (B (decide (x8_2 ≤ n)))))], [rowI 3 intT l0_3]⟩ (by kernel_rfl) ?_
      refine WL.nil ?_
      refine En.cond (b := (decide (x8_2 ≤ n))) (by kernel_rfl) (fun hb => ?_) (fun hb => ?_)
      · replace h := h.1 hb
        refine En.skip ?_
        refine En.block ?_
        refine En.seq ?_
        refine En.region ?_
        refine WL.run ht hn 7 ⟨[(0, .sv (.one (.pown 0 (Vk 0)))), (1, .sv (.one (I n))), (2, .sv (.one (.rd (fvR (fun (x : (Int × Int)) => [.sv (.one (I x.1)), .sv (.one (I x.2))]) (fun (r : Int) => .sv (.one (I r))) dom φ)))), (6, .sv (.one (I x6))), (8, .sv (.one (I x8_2))), (36, .sv (.one (.own 0))), (37, .sv (.one (I x7_2))), (40, .sv (.one (I (wr (x7_2 + x6))))), (41, .sv (.one (I x8_2))), (42, .sv (.one (.rd (fvR (fun (x : (Int × Int)) => [.sv (.one (I x.1)), .sv (.one (I x.2))]) (fun (r : Int) => .sv (.one (I r))) dom φ))))], [rowI 3 intT l0_3]⟩ (by kernel_rfl) ?_
        have hp := h.1
        replace h := h.2
        refine WL.callE (noMerge_ct l0_3 x7_2 (wr (x7_2 + x6)) x8_2 dom φ hp) en194 (caps := []) [0] hn (by rfl) rfl (by rfl) (argsAs (by kernel_rfl) (by rfl)) (by kernel_rfl) (by decide) (by rfl) (by rfl) (fun _ _ => ⟨by rfl, _, by rfl, ?_⟩)
        refine WL.nil ?_
        refine En.seq ?_
        refine En.region ?_
        refine WL.run ht hn 2 ⟨[(0, .sv (.one (.pown 0 (Vk 0)))), (1, .sv (.one (I n))), (2, .sv (.one (.rd (fvR (fun (x : (Int × Int)) => [.sv (.one (I x.1)), .sv (.one (I x.2))]) (fun (r : Int) => .sv (.one (I r))) dom φ)))), (6, .sv (.one (I x6))), (7, .sv (.one (I x8_2))), (8, .sv (.one (I x8_2)))], [rowI 3 intT (l0_3)]⟩ (by kernel_rfl) ?_
        refine WL.nil ?_
        refine En.region ?_
        refine WL.run ht hn 5 ⟨[(0, .sv (.one (.pown 0 (Vk 0)))), (1, .sv (.one (I n))), (2, .sv (.one (.rd (fvR (fun (x : (Int × Int)) => [.sv (.one (I x.1)), .sv (.one (I x.2))]) (fun (r : Int) => .sv (.one (I r))) dom φ)))), (6, .sv (.one (I x6))), (7, .sv (.one (I x8_2))), (8, .sv (.one (I (wr (x8_2 + (wr (2 * x6)))))))], [rowI 3 intT (l0_3)]⟩ (by kernel_rfl) ?_
        refine WL.nil ?_
        exact En.at (I := fun zz => Inv_3 zz.1 zz.2.1 zz.2.2 ∧ mu_3 zz.1 zz.2.1 zz.2.2 < mu_3 x7_2 x8_2 l0_3) (T := fun zz => ⟨[(0, .sv (.one (.pown 0 (Vk 0)))), (1, .sv (.one (I n))), (2, .sv (.one (.rd (fvR (fun (x : (Int × Int)) => [.sv (.one (I x.1)), .sv (.one (I x.2))]) (fun (r : Int) => .sv (.one (I r))) dom φ)))), (6, .sv (.one (I x6))), (7, .sv (.one (I zz.1))), (8, .sv (.one (I zz.2.1)))], [rowI 3 intT zz.2.2]⟩) (x8_2, (wr (x8_2 + (wr (2 * x6)))), (l0_3)) h (by kernel_rfl)
      · replace h := h.2 hb
        refine En.exit rfl ?_
        obtain ⟨J, h, hJ⟩ := h
        refine En.seqJ (σ := (List Int)) (fun zz => J zz) (fun zz => ⟨[(0, .sv (.one (.pown 0 (Vk 0)))), (1, .sv (.one (I n))), (2, .sv (.one (.rd (fvR (fun (x : (Int × Int)) => [.sv (.one (I x.1)), .sv (.one (I x.2))]) (fun (r : Int) => .sv (.one (I r))) dom φ)))), (6, .sv (.one (I x6)))], [rowI 3 intT zz]⟩) ?_ ?_
        · refine En.seq ?_
          refine En.region ?_
          refine WL.run ht hn 4 ⟨[(0, .sv (.one (.pown 0 (Vk 0)))), (1, .sv (.one (I n))), (2, .sv (.one (.rd (fvR (fun (x : (Int × Int)) => [.sv (.one (I x.1)), .sv (.one (I x.2))]) (fun (r : Int) => .sv (.one (I r))) dom φ)))), (6, .sv (.one (I x6))), (7, .sv (.one (I x7_2))), (9, .sv (.one (I (wr (x7_2 + x6)))))], [rowI 3 intT l0_3]⟩ (by kernel_rfl) ?_
          refine WL.nil ?_
          refine En.seq ?_
          refine En.region ?_
          refine WL.run ht hn 3 ⟨[(0, .sv (.one (.pown 0 (Vk 0)))), (1, .sv (.one (I n))), (2, .sv (.one (.rd (fvR (fun (x : (Int × Int)) => [.sv (.one (I x.1)), .sv (.one (I x.2))]) (fun (r : Int) => .sv (.one (I r))) dom φ)))), (6, .sv (.one (I x6))), (7, .sv (.one (I x7_2))), (9, .sv (.one (I (wr (x7_2 + x6))))), (54, .sv (.one (B (decide ((wr (x7_2 + x6)) < n)))))], [rowI 3 intT l0_3]⟩ (by kernel_rfl) ?_
          refine WL.nil ?_
          refine En.cond (b := (decide ((wr (x7_2 + x6)) < n))) (by kernel_rfl) (fun hb => ?_) (fun hb => ?_)
          · replace h := h.1 hb
            refine En.region ?_
            refine WL.run ht hn 5 ⟨[(0, .sv (.one (.pown 0 (Vk 0)))), (1, .sv (.one (I n))), (2, .sv (.one (.rd (fvR (fun (x : (Int × Int)) => [.sv (.one (I x.1)), .sv (.one (I x.2))]) (fun (r : Int) => .sv (.one (I r))) dom φ)))), (6, .sv (.one (I x6))), (55, .sv (.one (.own 0))), (56, .sv (.one (I x7_2))), (57, .sv (.one (I (wr (x7_2 + x6))))), (58, .sv (.one (I n))), (59, .sv (.one (.rd (fvR (fun (x : (Int × Int)) => [.sv (.one (I x.1)), .sv (.one (I x.2))]) (fun (r : Int) => .sv (.one (I r))) dom φ))))], [rowI 3 intT l0_3]⟩ (by kernel_rfl) ?_
            have hp := h.1
            replace h := h.2
            refine WL.callE (noMerge_ct l0_3 x7_2 (wr (x7_2 + x6)) n dom φ hp) en194 (caps := []) [0] hn (by rfl) rfl (by rfl) (argsAs (by kernel_rfl) (by rfl)) (by kernel_rfl) (by decide) (by rfl) (by rfl) (fun _ _ => ⟨by rfl, _, by rfl, ?_⟩)
            refine WL.nil ?_
            exact En.at (I := fun zz => J zz) (T := fun zz => ⟨[(0, .sv (.one (.pown 0 (Vk 0)))), (1, .sv (.one (I n))), (2, .sv (.one (.rd (fvR (fun (x : (Int × Int)) => [.sv (.one (I x.1)), .sv (.one (I x.2))]) (fun (r : Int) => .sv (.one (I r))) dom φ)))), (6, .sv (.one (I x6)))], [rowI 3 intT zz]⟩) (l0_3) h (by kernel_rfl)
          · replace h := h.2 hb
            refine En.skip ?_
            exact En.at (I := fun zz => J zz) (T := fun zz => ⟨[(0, .sv (.one (.pown 0 (Vk 0)))), (1, .sv (.one (I n))), (2, .sv (.one (.rd (fvR (fun (x : (Int × Int)) => [.sv (.one (I x.1)), .sv (.one (I x.2))]) (fun (r : Int) => .sv (.one (I r))) dom φ)))), (6, .sv (.one (I x6)))], [rowI 3 intT zz]⟩) l0_3 h (by kernel_rfl)
        · intro l0_4 h
          replace h := hJ _ h
          show En c ⟨[(0, .sv (.one (.pown 0 (Vk 0)))), (1, .sv (.one (I n))), (2, .sv (.one (.rd (fvR (fun (x : (Int × Int)) => [.sv (.one (I x.1)), .sv (.one (I x.2))]) (fun (r : Int) => .sv (.one (I r))) dom φ)))), (6, .sv (.one (I x6)))], [rowI 3 intT l0_4]⟩ _
          refine En.region ?_
          refine WL.run ht hn 3 ⟨[(0, .sv (.one (.pown 0 (Vk 0)))), (1, .sv (.one (I n))), (2, .sv (.one (.rd (fvR (fun (x : (Int × Int)) => [.sv (.one (I x.1)), .sv (.one (I x.2))]) (fun (r : Int) => .sv (.one (I r))) dom φ)))), (6, .sv (.one (I (wr (x6 * 2)))))], [rowI 3 intT l0_4]⟩ (by kernel_rfl) ?_
          refine WL.nil ?_
          exact En.at (I := fun zz => Inv_2 zz.1 zz.2 ∧ mu_2 zz.1 zz.2 < mu_2 x6 l0_2) (T := fun zz => ⟨[(0, .sv (.one (.pown 0 (Vk 0)))), (1, .sv (.one (I n))), (2, .sv (.one (.rd (fvR (fun (x : (Int × Int)) => [.sv (.one (I x.1)), .sv (.one (I x.2))]) (fun (r : Int) => .sv (.one (I r))) dom φ)))), (6, .sv (.one (I zz.1)))], [rowI 3 intT zz.2]⟩) ((wr (x6 * 2)), l0_4) h (by kernel_rfl)
    · replace h := h.2 hb
      refine En.exit rfl ?_
      exact En.backR [0] ht l0_2 h (by kernel_rfl) (by rfl) rfl
theorem en139 : ∀ args w, (callFunc 139 args).run Try.prog w = .ok (.enter 139 args) w := enters_of Try.func139 (by kernel_rfl) rfl
structure StabPre (dom : Int × Int → Prop) (R : List Int) (n : Int) : Prop where
  dom : ∀ x ∈ R, ∀ y ∈ R, dom (x, y)
  len : R.length ≤ 20
  n : n = R.length
theorem insAll_perm {φ : Int × Int → Int} {a b : Nat} {R : List Int} (h : a + 1 ≤ b → b ≤ R.length) : (insAll φ a b R).Perm R := by
  unfold insAll
  by_cases e : a + 1 ≤ b
  · exact insUp_perm (by have := h e; omega)
  · rw [show b - (a + 1) = 0 by omega, insUp]
theorem stabS_ct (R : (List Int)) (n : Int) (dom : ((Int × Int) → Prop)) (φ : ((Int × Int) → Int)) (hp : StabPre dom R n)  : CtE 139 [.sv (.one (.own 0)), .sv (.one (I n)), .sv (.one (.rd (fvR (fun (x : (Int × Int)) => [.sv (.one (I x.1)), .sv (.one (I x.2))]) (fun (r : Int) => .sv (.one (I r))) dom φ)))] [rowI 3 intT R] [0] (fun (_ : Unit) => True) (fun _ => .tup []) (fun _ => [rowI 3 intT (insAll φ 0 R.length R)]) := by
  refine (stabS_walk R n dom φ (fun res_ => res_ = insAll φ 0 R.length R) ?_).imp (fun r hr => ⟨(), trivial, by subst hr; rfl, by subst hr; rfl⟩)
  obtain ⟨hd, hl, rfl⟩ := hp
  unfold stabS_vc
  refine ⟨fun x y l => (x = 0 ∧ y = 20 ∧ l = R) ∨ (x = 20 ∧ y = 40 ∧ R.length = 20 ∧ l = insAll φ 0 R.length R), fun x _ _ => 40 - x.toNat, .inl ⟨rfl, rfl, rfl⟩, ?_⟩
  intro x y l hI
  refine ⟨fun hb => ?_, fun hb => ?_⟩
  · have hb := of_decide_eq_true hb
    rcases hI with ⟨rfl, rfl, rfl⟩ | ⟨rfl, rfl, h20, rfl⟩
    · refine ⟨⟨hd, by omega, by omega, by omega⟩, .inr ⟨rfl, by decide, by omega, ?_⟩, by show 40 - (20 : Int).toNat < 40 - (0 : Int).toNat; decide⟩
      rw [show l.length = 20 by omega]
      rfl
    · omega
  · have hb := of_decide_eq_false hb
    have key : InsPre dom l x R.length ∧ insAll φ x.toNat ((R.length : Int)).toNat l = insAll φ 0 R.length R := by
      rcases hI with ⟨rfl, rfl, rfl⟩ | ⟨rfl, rfl, h20, rfl⟩
      · exact ⟨⟨hd, by omega, by omega, by omega⟩, rfl⟩
      · have hp := insAll_perm (φ := φ) (a := 0) (b := R.length) (R := R) (fun _ => Nat.le_refl _)
        have hle := hp.length_eq
        refine ⟨⟨fun u hu v hv => hd u (hp.mem_iff.1 hu) v (hp.mem_iff.1 hv), by omega, by omega, by omega⟩, ?_⟩
        rw [Int.toNat_natCast, h20]
        show insUp φ 20 0 21 _ = _
        rw [insUp]
    refine ⟨key.1, fun x l => x = 20 ∧ l = insAll φ 0 R.length R, fun _ _ => 0, ⟨rfl, key.2⟩, ?_⟩
    rintro x l ⟨rfl, rfl⟩
    refine ⟨fun hc => ?_, fun _ => rfl⟩
    have hc := of_decide_eq_true hc
    omega
def sortS_vc (R : (List Int)) (dom : ((Int × Int) → Prop)) (φ : ((Int × Int) → Int)) (Q : (List Int) → Prop) : Prop :=
  (StabPre (dom) (R) ((R.length : Int))) ∧
  Q (insAll (φ) 0 (R).length (R))
theorem sortS_walk (R : (List Int)) (dom : ((Int × Int) → Prop)) (φ : ((Int × Int) → Int)) (Q : (List Int) → Prop) (h : sortS_vc R dom φ Q) : CtE 79 [.sv (.one (.own 0)), .sv (.one (.rd (fvR (fun (x : (Int × Int)) => [.sv (.one (I x.1)), .sv (.one (I x.2))]) (fun (r : Int) => .sv (.one (I r))) dom φ)))] [rowI 3 intT R] [0] Q (fun (r : (List Int)) => .tup []) (fun (r : (List Int)) => [rowI 3 intT r]) := by
  have ht := tab_ok
  refine CtE.bodyR Try.func79 rfl rfl rfl (by kernel_rfl) (fun c Vk hn => ?_)
  unfold sortS_vc at h
  show En c ⟨[(0, .sv (.one (.pown 0 (Vk 0)))), (1, .sv (.one (.rd (fvR (fun (x : (Int × Int)) => [.sv (.one (I x.1)), .sv (.one (I x.2))]) (fun (r : Int) => .sv (.one (I r))) dom φ))))], [rowI 3 intT R]⟩ _
  refine En.region ?_
  refine WL.run ht hn 4 ⟨[(0, .sv (.one (.pown 0 (Vk 0)))), (4, .sv (.one (.own 0))), (6, .sv (.one (I (R.length : Int)))), (7, .sv (.one (.rd (fvR (fun (x : (Int × Int)) => [.sv (.one (I x.1)), .sv (.one (I x.2))]) (fun (r : Int) => .sv (.one (I r))) dom φ))))], [rowI 3 intT R]⟩ (by kernel_rfl) ?_
  have hp := h.1
  replace h := h.2
  refine WL.callE (stabS_ct R (R.length : Int) dom φ hp) en139 (caps := []) [0] hn (by rfl) rfl (by rfl) (argsAs (by kernel_rfl) (by rfl)) (by kernel_rfl) (by decide) (by rfl) (by rfl) (fun _ _ => ⟨by rfl, _, by rfl, ?_⟩)
  refine WL.nil ?_
  exact En.backR [0] ht (insAll (φ) 0 (R).length (R)) h (by kernel_rfl) (by rfl) rfl
theorem en79 : ∀ args w, (callFunc 79 args).run Try.prog w = .ok (.enter 79 args) w := enters_of Try.func79 (by kernel_rfl) rfl
theorem sortS_ct (R : (List Int)) (dom : ((Int × Int) → Prop)) (φ : ((Int × Int) → Int)) (hp : (∀ x ∈ R, ∀ y ∈ R, dom (x, y)) ∧ R.length ≤ 20)  : CtE 79 [.sv (.one (.own 0)), .sv (.one (.rd (fvR (fun (x : (Int × Int)) => [.sv (.one (I x.1)), .sv (.one (I x.2))]) (fun (r : Int) => .sv (.one (I r))) dom φ)))] [rowI 3 intT R] [0] (fun (_ : Unit) => True) (fun _ => .tup []) (fun _ => [rowI 3 intT (insAll φ 0 R.length R)]) := by
  refine (sortS_walk R dom φ (fun res_ => res_ = insAll φ 0 R.length R) ?_).imp (fun r hr => ⟨(), trivial, by subst hr; rfl, by subst hr; rfl⟩)
  unfold sortS_vc
  exact ⟨⟨hp.1, hp.2, rfl⟩, rfl⟩
def codKraft_vc (n : Int) (z : (List Int)) (Q : ((List (List Int)) × Bool × Int) → Prop) : Prop :=
  z.length ≤ 9223372036854775807 →
  (IfP ((decide (n < 1)) || (decide (n > 4))) (Q ([], false, 2)) (IfP ((decide ((z.length : Int) < 1)) || (decide ((z.length : Int) > 20))) (Q ([], false, 1)) ((∀ x_ ∈ z, (fun _ => True) x_) ∧
  IfP (z.any (fun n => (decide (n < 1)) || (decide (n > 30)))) (Q ([], false, 2)) (makeOk (z.length : Int) (z.length : Int) 8 ∧
  ∃ (Inv : Int → (List Int) → Prop) (mu : Int → (List Int) → Nat), Inv 0 (List.replicate ((z.length : Int)).toNat (0 : Int)) ∧
  ∀ (x35 : Int) (l1 : (List Int)) , Inv x35 l1 → (IfP (decide (x35 < ((List.replicate ((z.length : Int)).toNat (0 : Int)).length : Int))) (∃ e, idx l1 x35 = some e ∧
  (Inv (wr (x35 + 1)) (l1.set (x35).toNat x35) ∧ mu (wr (x35 + 1)) (l1.set (x35).toNat x35) < mu x35 l1)) (((∀ x ∈ (l1), ∀ y ∈ (l1), ((krDom z)) (x, y)) ∧ (l1).length ≤ 20) ∧
  makeOk (z.length : Int) (z.length : Int) 24 ∧
  ∃ (Inv_2 : Bool → Int → (List (List Int)) → (List Int) → Prop) (mu_2 : Bool → Int → (List (List Int)) → (List Int) → Nat), Inv_2 true 0 (List.replicate ((z.length : Int)).toNat []) ([] : (List Int)) ∧
  ∀ (x10 : Bool) (x52 : Int) (l2 : (List (List Int))) (l3 : (List Int)) , Inv_2 x10 x52 l2 l3 → (IfP (decide (x52 < ((insAll ((krCmp z)) 0 (l1).length (l1)).length : Int))) (∃ J : Bool → (List (List Int)) → (List Int) → Prop, (∃ e_2, idx (insAll ((krCmp z)) 0 (l1).length (l1)) x52 = some e_2 ∧
  IfP (!x10) (Q ([], false, 0)) (∃ (Inv_3 : (List Int) → Prop) (mu_3 : (List Int) → Nat), Inv_3 l3 ∧
  ∀ (l3_3 : (List Int)) , Inv_3 l3_3 → (∃ e_3, idx z e_2 = some e_3 ∧
  IfP (decide ((l3_3.length : Int) < e_3)) (capOk l3_3.length (([0] : (List Int)) : (List Int)).length 8 ∧
  (Inv_3 (l3_3 ++ ([0] : (List Int))) ∧ mu_3 (l3_3 ++ ([0] : (List Int))) < mu_3 l3_3)) ((l3_3.length * 8 ≤ 140737488355328) ∧
  ∃ e_4, idx l2 e_2 = some e_4 ∧
  ∃ (Inv_4 : Int → (List Int) → Prop) (mu_4 : Int → (List Int) → Nat), Inv_4 (wr ((l3_3.length : Int) - 1)) l3_3 ∧
  ∀ (x13 : Int) (l3_4 : (List Int)) , Inv_4 x13 l3_4 → (∃ J_2 : Bool → Prop, (IfP (decide (x13 ≥ 0)) (∃ e_5, idx l3_4 x13 = some e_5 ∧
  J_2 (e_5 == (wr (n - 1)))) (J_2 false)) ∧
  (∀ (x86 : Bool), J_2 x86 → IfP x86 (∃ e_6, idx l3_4 x13 = some e_6 ∧
  (Inv_4 (wr (x13 - 1)) (l3_4.set (x13).toNat 0) ∧ mu_4 (wr (x13 - 1)) (l3_4.set (x13).toNat 0) < mu_4 x13 l3_4)) (IfP (decide (x13 ≥ 0)) (∃ e_7, idx l3_4 x13 = some e_7 ∧
  ∃ e_8, idx l3_4 x13 = some e_8 ∧
  J (decide (x13 ≥ 0)) (l2.set (e_2).toNat (l3_3)) (l3_4.set (x13).toNat (wr (e_7 + 1)))) (J (decide (x13 ≥ 0)) (l2.set (e_2).toNat (l3_3)) l3_4)))))))) ∧
  (∀ (x10_2 : Bool) (l2_2 : (List (List Int))) (l3_2 : (List Int)), J x10_2 l2_2 l3_2 → (Inv_2 x10_2 (wr (x52 + 1)) l2_2 l3_2 ∧ mu_2 x10_2 (wr (x52 + 1)) l2_2 l3_2 < mu_2 x10 x52 l2 l3))) (Q (l2, true, 0)))))))))
set_option maxHeartbeats 2000000 in
theorem codKraft_walk (n : Int) (z : (List Int)) (Q : ((List (List Int)) × Bool × Int) → Prop) (h : codKraft_vc n z Q) : Ct 29 [.sv (.one (I n)), .sv (.one (LS intT z))] [] Q (fun (r : ((List (List Int)) × Bool × Int)) => .tup [.one (LS (lsT intT) r.1), .one (B r.2.1), .one (I r.2.2)]) := by
  have ht := tab_ok
  refine Ct.body Try.func29 rfl rfl rfl rfl (fun c hn => ?_)
  unfold codKraft_vc at h
  refine En.lenL 1 (by rfl) (fun hl => ?_)
  replace h := h hl
  clear hl
  refine En.seq ?_
  refine En.region ?_
  refine WL.run ht hn 4 ⟨[(0, .sv (.one (I n))), (3, .sv (.one (.ptr 0 0)))], [.box [LS intT z] 23 false]⟩ (by kernel_rfl) ?_
  refine WL.nil ?_
  refine En.seq ?_
  refine En.seq ?_
  refine En.region ?_
  refine WL.run ht hn 3 ⟨[(0, .sv (.one (I n))), (3, .sv (.one (.ptr 0 0))), (16, .sv (.one (B (decide (n < 1)))))], [.box [LS intT z] 23 false]⟩ (by kernel_rfl) ?_
  refine WL.thru ⟨[(0, .sv (.one (I n))), (3, .sv (.one (.ptr 0 0))), (19, .sv (.one (B ((decide (n < 1)) || (decide (n > 4))))))], [.box [LS intT z] 23 false]⟩ ?_ ?_
  · refine splitB (decide (n < 1)) (fun hb0 => ?_) (fun hb0 => ?_)
    · refine WL.setB 16 hb0 (by kernel_rfl) ?_
      refine WL.run ht hn 3 ⟨[(0, .sv (.one (I n))), (3, .sv (.one (.ptr 0 0))), (19, .sv (.one (B true)))], [.box [LS intT z] 23 false]⟩ (by kernel_rfl) ?_
      exact WL.nil (sub_ok (by simp only [hb0]; kernel_rfl))
    · refine WL.setB 16 hb0 (by kernel_rfl) ?_
      refine WL.run ht hn 3 ⟨[(0, .sv (.one (I n))), (3, .sv (.one (.ptr 0 0))), (19, .sv (.one (B (decide (n > 4)))))], [.box [LS intT z] 23 false]⟩ (by kernel_rfl) ?_
      exact WL.nil (sub_ok (by simp only [hb0]; kernel_rfl))
  · refine En.cond (b := ((decide (n < 1)) || (decide (n > 4)))) (by kernel_rfl) (fun hb => ?_) (fun hb => ?_)
    · replace h := h.1 hb
      refine En.seq ?_
      refine En.region ?_
      refine WL.run ht hn 3 ⟨[(4, .sv (.one (.v (.slice none 0 0)))), (5, .sv (.one (B false))), (6, .sv (.one (I 2)))], [.gone]⟩ (by kernel_rfl) ?_
      refine WL.nil ?_
      refine En.ret ?_
      refine En.nilLS 4 (lsT intT) (by rfl) ?_
      exact En.back ht ([], false, 2) h (by kernel_rfl) rfl
    · replace h := h.2 hb
      refine En.skip ?_
      refine En.seq ?_
      refine En.seq ?_
      refine En.region ?_
      refine WL.run ht hn 4 ⟨[(0, .sv (.one (I n))), (3, .sv (.one (.ptr 0 0))), (23, .sv (.one (B (decide ((z.length : Int) < 1)))))], [.box [LS intT z] 23 false]⟩ (by kernel_rfl) ?_
      refine WL.thru ⟨[(0, .sv (.one (I n))), (3, .sv (.one (.ptr 0 0))), (27, .sv (.one (B ((decide ((z.length : Int) < 1)) || (decide ((z.length : Int) > 20))))))], [.box [LS intT z] 23 false]⟩ ?_ ?_
      · refine splitB (decide ((z.length : Int) < 1)) (fun hb0 => ?_) (fun hb0 => ?_)
        · refine WL.setB 23 hb0 (by kernel_rfl) ?_
          refine WL.run ht hn 4 ⟨[(0, .sv (.one (I n))), (3, .sv (.one (.ptr 0 0))), (27, .sv (.one (B true)))], [.box [LS intT z] 23 false]⟩ (by kernel_rfl) ?_
          exact WL.nil (sub_ok (by simp only [hb0]; kernel_rfl))
        · refine WL.setB 23 hb0 (by kernel_rfl) ?_
          refine WL.run ht hn 4 ⟨[(0, .sv (.one (I n))), (3, .sv (.one (.ptr 0 0))), (27, .sv (.one (B (decide ((z.length : Int) > 20)))))], [.box [LS intT z] 23 false]⟩ (by kernel_rfl) ?_
          exact WL.nil (sub_ok (by simp only [hb0]; kernel_rfl))
      · refine En.cond (b := ((decide ((z.length : Int) < 1)) || (decide ((z.length : Int) > 20)))) (by kernel_rfl) (fun hb => ?_) (fun hb => ?_)
        · replace h := h.1 hb
          refine En.seq ?_
          refine En.region ?_
          refine WL.run ht hn 3 ⟨[(4, .sv (.one (.v (.slice none 0 0)))), (5, .sv (.one (B false))), (6, .sv (.one (I 1)))], [.gone]⟩ (by kernel_rfl) ?_
          refine WL.nil ?_
          refine En.ret ?_
          refine En.nilLS 4 (lsT intT) (by rfl) ?_
          exact En.back ht ([], false, 1) h (by kernel_rfl) rfl
        · replace h := h.2 hb
          refine En.skip ?_
          refine En.seq ?_
          refine En.seq ?_
          refine En.region ?_
          refine WL.run ht hn 1 ⟨[(0, .sv (.one (I n))), (3, .sv (.one (.ptr 0 0))), (28, .sv (.one (LS intT z)))], [.box [LS intT z] 23 false]⟩ (by kernel_rfl) ?_
          have hp := h.1
          replace h := h.2
          refine WL.mt0 (K := []) (p := none) hn (by rfl) (mt_call (Ct.args (anyInt_ct z (fun _ => True) (fun n => (decide (n < 1)) || (decide (n > 30))) hp) (argLe_same (argLe_to (fv_const (ins := (fun (x_ : Int) => [.sv (.one (I x_))])) (out := (fun (r : Bool) => .sv (.one (B r)))) (dom := (fun _ => True)) (φ := (fun n => (decide (n < 1)) || (decide (n > 30)))) (fun x_ _ => krC1_ct x_) en78) argLe_nil))) en77 (caps := []) [] rfl (by rfl) (by kernel_rfl) (by kernel_rfl) (by rfl) (by rfl) (by rfl)) (by rfl) (by rfl) (by rfl) ?_
          refine WL.nil ?_
          refine En.cond (b := (z.any (fun n => (decide (n < 1)) || (decide (n > 30))))) (by kernel_rfl) (fun hb => ?_) (fun hb => ?_)
          · replace h := h.1 hb
            refine En.seq ?_
            refine En.region ?_
            refine WL.run ht hn 3 ⟨[(4, .sv (.one (.v (.slice none 0 0)))), (5, .sv (.one (B false))), (6, .sv (.one (I 2)))], [.gone]⟩ (by kernel_rfl) ?_
            refine WL.nil ?_
            refine En.ret ?_
            refine En.nilLS 4 (lsT intT) (by rfl) ?_
            exact En.back ht ([], false, 2) h (by kernel_rfl) rfl
          · replace h := h.2 hb
            refine En.skip ?_
            refine En.seq ?_
            refine En.region ?_
            refine WL.run ht hn 2 ⟨[(0, .sv (.one (I n))), (3, .sv (.one (.ptr 0 0))), (31, .sv (.one (I (z.length : Int))))], [.box [LS intT z] 23 false]⟩ (by kernel_rfl) ?_
            have hp := h.1
            replace h := h.2
            refine WL.mt0 (K := []) (p := some (1, rowI 3 intT (List.replicate ((z.length : Int)).toNat (0 : Int)))) hn (by rfl) (mt_make (T := intT) (0 : Int) (zv := (.int .i64 0)) 1 (l := (z.length : Int)) (cp := (z.length : Int)) ht rfl (by rfl) (by rfl) (by rfl) (by rfl) (by decide) (by rfl) (by rfl) hp.1 hp.2.1 hp.2.2 (hp.le (by decide)) rfl (fun _ => ⟨rfl, trivial⟩)) (by rfl) (by rfl) (by rfl) ?_
            refine WL.run ht hn 1 ⟨[(0, .sv (.one (I n))), (3, .sv (.one (.ptr 0 0))), (7, .sv (.one (.own 1)))], [.box [LS intT z] 23 false, rowI 3 intT (List.replicate ((z.length : Int)).toNat (0 : Int))]⟩ (by kernel_rfl) ?_
            refine WL.nil ?_
            refine En.seq ?_
            refine En.seq ?_
            refine En.region ?_
            refine WL.run ht hn 3 ⟨[(0, .sv (.one (I n))), (3, .sv (.one (.ptr 0 0))), (7, .sv (.one (.own 1))), (34, .sv (.one (I ((List.replicate ((z.length : Int)).toNat (0 : Int)).length : Int)))), (35, .sv (.one (I 0)))], [.box [LS intT z] 23 false, rowI 3 intT (List.replicate ((z.length : Int)).toNat (0 : Int))]⟩ (by kernel_rfl) ?_
            refine WL.nil ?_
            refine En.block ?_
            obtain ⟨Inv, mu, h0_4, hI_4⟩ := h
            refine En.loop (σ := Int × (List Int)) (fun zz => Inv zz.1 zz.2) (fun zz => mu zz.1 zz.2) (fun zz => ⟨[(0, .sv (.one (I n))), (3, .sv (.one (.ptr 0 0))), (7, .sv (.one (.own 1))), (34, .sv (.one (I ((List.replicate ((z.length : Int)).toNat (0 : Int)).length : Int)))), (35, .sv (.one (I zz.1)))], [.box [LS intT z] 23 false, rowI 3 intT zz.2]⟩) (0, (List.replicate ((z.length : Int)).toNat (0 : Int))) h0_4 (sub_ok (by kernel_rfl)) ?_
            rintro ⟨x35, l1⟩ h
            replace h := hI_4 _ _ h
            show En c ⟨[(0, .sv (.one (I n))), (3, .sv (.one (.ptr 0 0))), (7, .sv (.one (.own 1))), (34, .sv (.one (I ((List.replicate ((z.length : Int)).toNat (0 : Int)).length : Int)))), (35, .sv (.one (I x35)))], [.box [LS intT z] 23 false, rowI 3 intT l1]⟩ _
            refine En.seq ?_
            refine En.region ?_
            refine WL.run ht hn 1 ⟨[(0, .sv (.one (I n))), (3, .sv (.one (.ptr 0 0))), (7, .sv (.one (.own 1))), (34, .sv (.one (I ((List.replicate ((z.length : Int)).toNat (0 : Int)).length : Int)))), (35, .sv (.one (I x35))), (36, .sv (.one (B (decide (x35 < ((List.replicate ((z.length : Int)).toNat (0 : Int)).length : Int))))))], [.box [LS intT z] 23 false, rowI 3 intT l1]⟩ (by kernel_rfl) ?_
            refine WL.nil ?_
            refine En.seq ?_
            refine En.cond (b := (decide (x35 < ((List.replicate ((z.length : Int)).toNat (0 : Int)).length : Int)))) (by kernel_rfl) (fun hb => ?_) (fun hb => ?_)
            · replace h := h.1 hb
              refine En.skip ?_
              refine En.seq ?_
              refine En.block ?_
              refine En.seq ?_
              refine En.region ?_
              refine WL.run ht hn 2 ⟨[(0, .sv (.one (I n))), (3, .sv (.one (.ptr 0 0))), (7, .sv (.one (.own 1))), (8, .sv (.one (I x35))), (34, .sv (.one (I ((List.replicate ((z.length : Int)).toNat (0 : Int)).length : Int)))), (35, .sv (.one (I x35)))], [.box [LS intT z] 23 false, rowI 3 intT l1]⟩ (by kernel_rfl) ?_
              refine WL.nil ?_
              refine En.region ?_
              refine WL.run ht hn 3 ⟨[(0, .sv (.one (I n))), (3, .sv (.one (.ptr 0 0))), (7, .sv (.one (.own 1))), (34, .sv (.one (I ((List.replicate ((z.length : Int)).toNat (0 : Int)).length : Int)))), (35, .sv (.one (I x35))), (38, .sv (.one (.own 1))), (39, .sv (.one (I x35))), (40, .sv (.one (I x35)))], [.box [LS intT z] 23 false, rowI 3 intT l1]⟩ (by kernel_rfl) ?_
              obtain ⟨e, he, h⟩ := h
              refine WL.val hn (by rfl) (val_indexO (T := intT) (l := l1) (k := x35) ht rfl (by rfl) (by rfl) (by rfl) (by rfl) (by decide) (by rfl) (by rfl) (by rfl) he) (by rfl) ?_
              refine WL.storeO (T := intT) (l := l1) (y := x35) ht hn (by rfl) rfl (by rfl) (by rfl) (fun _ h => by cases h) (by rfl) (by rfl) (idx_lt he) (by rfl) (by rfl) (by rfl) (by rfl) ?_
              refine WL.nil ?_
              refine En.region ?_
              refine WL.run ht hn 2 ⟨[(0, .sv (.one (I n))), (3, .sv (.one (.ptr 0 0))), (7, .sv (.one (.own 1))), (34, .sv (.one (I ((List.replicate ((z.length : Int)).toNat (0 : Int)).length : Int)))), (35, .sv (.one (I (wr (x35 + 1)))))], [.box [LS intT z] 23 false, rowI 3 intT (l1.set (x35).toNat x35)]⟩ (by kernel_rfl) ?_
              refine WL.nil ?_
              exact En.at (I := fun zz => Inv zz.1 zz.2 ∧ mu zz.1 zz.2 < mu x35 l1) (T := fun zz => ⟨[(0, .sv (.one (I n))), (3, .sv (.one (.ptr 0 0))), (7, .sv (.one (.own 1))), (34, .sv (.one (I ((List.replicate ((z.length : Int)).toNat (0 : Int)).length : Int)))), (35, .sv (.one (I zz.1)))], [.box [LS intT z] 23 false, rowI 3 intT zz.2]⟩) ((wr (x35 + 1)), (l1.set (x35).toNat x35)) h (by kernel_rfl)
            · replace h := h.2 hb
              refine En.exit rfl ?_
              refine En.seq ?_
              refine En.region ?_
              refine WL.run ht hn 2 ⟨[(0, .sv (.one (I n))), (3, .sv (.one (.ptr 0 0))), (7, .sv (.one (.own 1))), (43, .sv (.one (.own 1))), (44, .sv (.one (.fn 80 [0])))], [.box [LS intT z] 23 false, rowI 3 intT l1]⟩ (by kernel_rfl) ?_
              refine WL.freeze [0] (by rfl) ?_
              refine WL.ghost 44 (.sv (.one (.rd (fvR (fun (x_ : (Int × Int)) => [.sv (.one (I x_.1)), .sv (.one (I x_.2))]) (fun (r : Int) => .sv (.one (I r))) (krDom z) (krCmp z))))) (by rfl) (fv_of (M := [.box [LS intT z] 23 true]) (caps := [0]) (fun x_ hx => krC2_ct x_.1 x_.2 z hx) en80 rfl (by kernel_rfl) (by rfl) (fun _ => rfl)) ?_
              have hp := h.1
              replace h := h.2
              refine WL.callE (sortS_ct l1 (krDom z) (krCmp z) hp) en79 (caps := []) [1] hn (by rfl) rfl (by rfl) (argsAs (by kernel_rfl) (by rfl)) (by kernel_rfl) (by decide) (by rfl) (by rfl) (fun _ _ => ⟨by rfl, _, by rfl, ?_⟩)
              refine WL.nil ?_
              refine En.seq ?_
              refine En.region ?_
              refine WL.run ht hn 2 ⟨[(0, .sv (.one (I n))), (3, .sv (.one (.ptr 0 0))), (7, .sv (.one (.own 1))), (47, .sv (.one (I (z.length : Int))))], [.box [LS intT z] 23 true, rowI 3 intT (insAll ((krCmp z)) 0 (l1).length (l1))]⟩ (by kernel_rfl) ?_
              have hp := h.1
              replace h := h.2
              refine WL.mt0 (K := []) (p := some (2, rowI 23 (lsT intT) (List.replicate ((z.length : Int)).toNat []))) hn (by rfl) (mt_make (T := (lsT intT)) [] (zv := (.slice none 0 0)) 2 (l := (z.length : Int)) (cp := (z.length : Int)) ht rfl (by rfl) (by rfl) (by rfl) (by rfl) (by decide) (by rfl) (by rfl) hp.1 hp.2.1 hp.2.2 (hp.le (by decide)) rfl (fun _ => ls_nil)) (by rfl) (by rfl) (by rfl) ?_
              refine WL.run ht hn 1 ⟨[(0, .sv (.one (I n))), (3, .sv (.one (.ptr 0 0))), (4, .sv (.one (.own 2))), (7, .sv (.one (.own 1)))], [.box [LS intT z] 23 true, rowI 3 intT (insAll ((krCmp z)) 0 (l1).length (l1)), rowI 23 (lsT intT) (List.replicate ((z.length : Int)).toNat [])]⟩ (by kernel_rfl) ?_
              refine WL.nil ?_
              refine En.seq ?_
              refine En.region ?_
              refine WL.mt0 (K := []) (p := some (3, rowI 3 intT ([] : (List Int)))) hn (by rfl) (mt_empty intT 3 ht rfl (by rfl) (by rfl) (by rfl)) (by rfl) (by rfl) (by rfl) ?_
              refine WL.run ht hn 2 ⟨[(0, .sv (.one (I n))), (3, .sv (.one (.ptr 0 0))), (4, .sv (.one (.own 2))), (7, .sv (.one (.own 1))), (9, .sv (.one (.own 3))), (10, .sv (.one (B true)))], [.box [LS intT z] 23 true, rowI 3 intT (insAll ((krCmp z)) 0 (l1).length (l1)), rowI 23 (lsT intT) (List.replicate ((z.length : Int)).toNat []), rowI 3 intT ([] : (List Int))]⟩ (by kernel_rfl) ?_
              refine WL.nil ?_
              refine En.seq ?_
              refine En.seq ?_
              refine En.region ?_
              refine WL.run ht hn 3 ⟨[(0, .sv (.one (I n))), (3, .sv (.one (.ptr 0 0))), (4, .sv (.one (.own 2))), (9, .sv (.one (.own 3))), (10, .sv (.one (B true))), (50, .sv (.one (.own 1))), (51, .sv (.one (I ((insAll ((krCmp z)) 0 (l1).length (l1)).length : Int)))), (52, .sv (.one (I 0)))], [.box [LS intT z] 23 true, rowI 3 intT (insAll ((krCmp z)) 0 (l1).length (l1)), rowI 23 (lsT intT) (List.replicate ((z.length : Int)).toNat []), rowI 3 intT ([] : (List Int))]⟩ (by kernel_rfl) ?_
              refine WL.nil ?_
              refine En.block ?_
              obtain ⟨Inv_2, mu_2, h0_3, hI_3⟩ := h
              refine En.loop (σ := Bool × Int × (List (List Int)) × (List Int)) (fun zz => Inv_2 zz.1 zz.2.1 zz.2.2.1 zz.2.2.2) (fun zz => mu_2 zz.1 zz.2.1 zz.2.2.1 zz.2.2.2) (fun zz => ⟨[(0, .sv (.one (I n))), (3, .sv (.one (.ptr 0 0))), (4, .sv (.one (.own 2))), (9, .sv (.one (.own 3))), (10, .sv (.one (B zz.1))), (50, .sv (.one (.own 1))), (51, .sv (.one (I ((insAll ((krCmp z)) 0 (l1).length (l1)).length : Int)))), (52, .sv (.one (I zz.2.1)))], [.box [LS intT z] 23 true, rowI 3 intT (insAll ((krCmp z)) 0 (l1).length (l1)), rowI 23 (lsT intT) zz.2.2.1, rowI 3 intT zz.2.2.2]⟩) (true, 0, (List.replicate ((z.length : Int)).toNat []), ([] : (List Int))) h0_3 (sub_ok (by kernel_rfl)) ?_
              rintro ⟨x10, x52, l2, l3⟩ h
              replace h := hI_3 _ _ _ _ h
              show En c ⟨[(0, .sv (.one (I n))), (3, .sv (.one (.ptr 0 0))), (4, .sv (.one (.own 2))), (9, .sv (.one (.own 3))), (10, .sv (.one (B x10))), (50, .sv (.one (.own 1))), (51, .sv (.one (I ((insAll ((krCmp z)) 0 (l1).length (l1)).length : Int)))), (52, .sv (.one (I x52)))], [.box [LS intT z] 23 true, rowI 3 intT (insAll ((krCmp z)) 0 (l1).length (l1)), rowI 23 (lsT intT) l2, rowI 3 intT l3]⟩ _
              refine En.seq ?_
              refine En.region ?_
              refine WL.run ht hn 1 ⟨[(0, .sv (.one (I n))), (3, .sv (.one (.ptr 0 0))), (4, .sv (.one (.own 2))), (9, .sv (.one (.own 3))), (10, .sv (.one (B x10))), (50, .sv (.one (.own 1))), (51, .sv (.one (I ((insAll ((krCmp z)) 0 (l1).length (l1)).length : Int)))), (52, .sv (.one (I x52))), (53, .sv (.one (B (decide (x52 < ((insAll ((krCmp z)) 0 (l1).length (l1)).length : Int))))))], [.box [LS intT z] 23 true, rowI 3 intT (insAll ((krCmp z)) 0 (l1).length (l1)), rowI 23 (lsT intT) l2, rowI 3 intT l3]⟩ (by kernel_rfl) ?_
              refine WL.nil ?_
              refine En.seq ?_
              refine En.cond (b := (decide (x52 < ((insAll ((krCmp z)) 0 (l1).length (l1)).length : Int)))) (by kernel_rfl) (fun hb => ?_) (fun hb => ?_)
              · replace h := h.1 hb
                refine En.skip ?_
                obtain ⟨J, h, hJ⟩ := h
                refine En.seqJ (σ := Bool × (List (List Int)) × (List Int)) (fun zz => J zz.1 zz.2.1 zz.2.2) (fun zz => ⟨[(0, .sv (.one (I n))), (3, .sv (.one (.ptr 0 0))), (4, .sv (.one (.own 2))), (9, .sv (.one (.own 3))), (10, .sv (.one (B zz.1))), (50, .sv (.one (.own 1))), (51, .sv (.one (I ((insAll ((krCmp z)) 0 (l1).length (l1)).length : Int)))), (52, .sv (.one (I x52)))], [.box [LS intT z] 23 true, rowI 3 intT (insAll ((krCmp z)) 0 (l1).length (l1)), rowI 23 (lsT intT) zz.2.1, rowI 3 intT zz.2.2, .gone]⟩) ?_ ?_
                · refine En.block ?_
                  refine En.seq ?_
                  refine En.region ?_
                  obtain ⟨e_2, he_2, h⟩ := h
                  refine WL.val hn (by rfl) (val_indexO (T := intT) (l := (insAll ((krCmp z)) 0 (l1).length (l1))) (k := x52) ht rfl (by rfl) (by rfl) (by rfl) (by rfl) (by decide) (by rfl) (by rfl) (by rfl) he_2) (by rfl) ?_
                  refine WL.val hn (by rfl) (val_loadO (T := intT) (l := (insAll ((krCmp z)) 0 (l1).length (l1))) (y := e_2) ht rfl (by rfl) (by rfl) (by rfl) (by rfl) (by rfl) (idx_some he_2).2.2 (by rfl)) (by rfl) ?_
                  refine WL.run ht hn 1 ⟨[(0, .sv (.one (I n))), (3, .sv (.one (.ptr 0 0))), (4, .sv (.one (.own 2))), (9, .sv (.one (.own 3))), (10, .sv (.one (B x10))), (12, .sv (.one (I e_2))), (50, .sv (.one (.own 1))), (51, .sv (.one (I ((insAll ((krCmp z)) 0 (l1).length (l1)).length : Int)))), (52, .sv (.one (I x52)))], [.box [LS intT z] 23 true, rowI 3 intT (insAll ((krCmp z)) 0 (l1).length (l1)), rowI 23 (lsT intT) l2, rowI 3 intT l3]⟩ (by kernel_rfl) ?_
                  refine WL.nil ?_
                  refine En.seq ?_
                  refine En.seq ?_
                  refine En.region ?_
                  refine WL.run ht hn 2 ⟨[(0, .sv (.one (I n))), (3, .sv (.one (.ptr 0 0))), (4, .sv (.one (.own 2))), (9, .sv (.one (.own 3))), (12, .sv (.one (I e_2))), (50, .sv (.one (.own 1))), (51, .sv (.one (I ((insAll ((krCmp z)) 0 (l1).length (l1)).length : Int)))), (52, .sv (.one (I x52))), (57, .sv (.one (B (!x10))))], [.box [LS intT z] 23 true, rowI 3 intT (insAll ((krCmp z)) 0 (l1).length (l1)), rowI 23 (lsT intT) l2, rowI 3 intT l3]⟩ (by kernel_rfl) ?_
                  refine WL.nil ?_
                  refine En.cond (b := (!x10)) (by kernel_rfl) (fun hb => ?_) (fun hb => ?_)
                  · replace h := h.1 hb
                    refine En.seq ?_
                    refine En.region ?_
                    refine WL.run ht hn 3 ⟨[(4, .sv (.one (.v (.slice none 0 0)))), (5, .sv (.one (B false))), (6, .sv (.one (I 0)))], [.gone, .gone, .gone, .gone]⟩ (by kernel_rfl) ?_
                    refine WL.nil ?_
                    refine En.ret ?_
                    refine En.nilLS 4 (lsT intT) (by rfl) ?_
                    exact En.back ht ([], false, 0) h (by kernel_rfl) rfl
                  · replace h := h.2 hb
                    refine En.skip ?_
                    refine En.seq ?_
                    refine En.block ?_
                    obtain ⟨Inv_3, mu_3, h0_2, hI_2⟩ := h
                    refine En.loop (σ := (List Int)) (fun zz => Inv_3 zz) (fun zz => mu_3 zz) (fun zz => ⟨[(0, .sv (.one (I n))), (3, .sv (.one (.ptr 0 0))), (4, .sv (.one (.own 2))), (9, .sv (.one (.own 3))), (12, .sv (.one (I e_2))), (50, .sv (.one (.own 1))), (51, .sv (.one (I ((insAll ((krCmp z)) 0 (l1).length (l1)).length : Int)))), (52, .sv (.one (I x52)))], [.box [LS intT z] 23 true, rowI 3 intT (insAll ((krCmp z)) 0 (l1).length (l1)), rowI 23 (lsT intT) l2, rowI 3 intT zz]⟩) l3 h0_2 (sub_ok (by kernel_rfl)) ?_
                    intro l3_3 h
                    replace h := hI_2 _ h
                    show En c ⟨[(0, .sv (.one (I n))), (3, .sv (.one (.ptr 0 0))), (4, .sv (.one (.own 2))), (9, .sv (.one (.own 3))), (12, .sv (.one (I e_2))), (50, .sv (.one (.own 1))), (51, .sv (.one (I ((insAll ((krCmp z)) 0 (l1).length (l1)).length : Int)))), (52, .sv (.one (I x52)))], [.box [LS intT z] 23 true, rowI 3 intT (insAll ((krCmp z)) 0 (l1).length (l1)), rowI 23 (lsT intT) l2, rowI 3 intT l3_3]⟩ _
                    refine En.seq ?_
                    refine En.seq ?_
                    refine En.region ?_
                    refine WL.run ht hn 4 ⟨[(0, .sv (.one (I n))), (3, .sv (.one (.ptr 0 0))), (4, .sv (.one (.own 2))), (9, .sv (.one (.own 3))), (12, .sv (.one (I e_2))), (50, .sv (.one (.own 1))), (51, .sv (.one (I ((insAll ((krCmp z)) 0 (l1).length (l1)).length : Int)))), (52, .sv (.one (I x52))), (59, .sv (.one (I (l3_3.length : Int)))), (60, .sv (.one (LS intT z))), (61, .sv (.one (I e_2)))], [.box [LS intT z] 23 true, rowI 3 intT (insAll ((krCmp z)) 0 (l1).length (l1)), rowI 23 (lsT intT) l2, rowI 3 intT l3_3]⟩ (by kernel_rfl) ?_
                    obtain ⟨e_3, he_3, h⟩ := h
                    refine WL.val hn (by rfl) (val_index (T := intT) (l := z) (i := e_2) ht rfl (by rfl) (by rfl) (by rfl) (by rfl) (by rfl) (by rfl) he_3) (by rfl) ?_
                    refine WL.val hn (by rfl) (val_load (s := .one (I e_3)) ht rfl (by rfl) (by rfl) (by rfl) (by rfl) (by rfl)) (by rfl) ?_
                    refine WL.run ht hn 1 ⟨[(0, .sv (.one (I n))), (3, .sv (.one (.ptr 0 0))), (4, .sv (.one (.own 2))), (9, .sv (.one (.own 3))), (12, .sv (.one (I e_2))), (50, .sv (.one (.own 1))), (51, .sv (.one (I ((insAll ((krCmp z)) 0 (l1).length (l1)).length : Int)))), (52, .sv (.one (I x52))), (64, .sv (.one (B (decide ((l3_3.length : Int) < e_3)))))], [.box [LS intT z] 23 true, rowI 3 intT (insAll ((krCmp z)) 0 (l1).length (l1)), rowI 23 (lsT intT) l2, rowI 3 intT l3_3]⟩ (by kernel_rfl) ?_
                    refine WL.nil ?_
                    refine En.cond (b := (decide ((l3_3.length : Int) < e_3))) (by kernel_rfl) (fun hb => ?_) (fun hb => ?_)
                    · replace h := h.1 hb
                      refine En.skip ?_
                      refine En.block ?_
                      refine En.region ?_
                      refine WL.run ht hn 1 ⟨[(0, .sv (.one (I n))), (3, .sv (.one (.ptr 0 0))), (4, .sv (.one (.own 2))), (12, .sv (.one (I e_2))), (50, .sv (.one (.own 1))), (51, .sv (.one (I ((insAll ((krCmp z)) 0 (l1).length (l1)).length : Int)))), (52, .sv (.one (I x52))), (65, .sv (.one (.own 3)))], [.box [LS intT z] 23 true, rowI 3 intT (insAll ((krCmp z)) 0 (l1).length (l1)), rowI 23 (lsT intT) l2, rowI 3 intT l3_3]⟩ (by kernel_rfl) ?_
                      refine WL.mt0 (K := []) (p := some (4, rowI 3 intT ([0] : (List Int)))) hn (by rfl) (mt_lit (T := intT) ([0] : (List Int)) (mt_bsl 4 (r := cellsOf intT ([0] : (List Int))) ht rfl (by rfl) (by rfl) (by rfl) (by kernel_rfl) (by rfl)) (fun _ h => by cases h) (fun _ => rfl) (fun _ => rfl) (by rfl) (Nat.le_of_ble_eq_true rfl)) (by rfl) (by rfl) (by rfl) ?_
                      refine WL.seal (T := intT) (l := ([0] : (List Int))) (e := 3) 4 rfl ?_
                      refine WL.run ht hn 0 ⟨[(0, .sv (.one (I n))), (3, .sv (.one (.ptr 0 0))), (4, .sv (.one (.own 2))), (12, .sv (.one (I e_2))), (50, .sv (.one (.own 1))), (51, .sv (.one (I ((insAll ((krCmp z)) 0 (l1).length (l1)).length : Int)))), (52, .sv (.one (I x52))), (65, .sv (.one (.own 3))), (66, .sv (.one (LS intT ([0] : (List Int)))))], [.box [LS intT z] 23 true, rowI 3 intT (insAll ((krCmp z)) 0 (l1).length (l1)), rowI 23 (lsT intT) l2, rowI 3 intT l3_3, .gone]⟩ (by kernel_rfl) ?_
                      have hp := h.1
                      replace h := h.2
                      refine WL.mt (S2 := ⟨[(0, .sv (.one (I n))), (3, .sv (.one (.ptr 0 0))), (4, .sv (.one (.own 2))), (12, .sv (.one (I e_2))), (50, .sv (.one (.own 1))), (51, .sv (.one (I ((insAll ((krCmp z)) 0 (l1).length (l1)).length : Int)))), (52, .sv (.one (I x52))), (66, .sv (.one (LS intT ([0] : (List Int)))))], [.box [LS intT z] 23 true, rowI 3 intT (insAll ((krCmp z)) 0 (l1).length (l1)), rowI 23 (lsT intT) l2, rowI 3 intT l3_3, .gone]⟩) (K := [3]) (p := some (3, rowI 3 intT (l3_3 ++ ([0] : (List Int))))) hn (by rfl) (mt_append (T := intT) (l := l3_3) (es := ([0] : (List Int))) ht rfl (by rfl) (by rfl) (by rfl) (by rfl) (by decide) (by rfl) (by rfl) (srcLS (T := intT) (es := ([0] : (List Int))) (fun _ h => by cases h) (by decide) (by rfl)) (by exact hp) (by exact hp.le (by decide))) (by kernel_rfl) (by rfl) (by rfl) (by rfl) ?_
                      refine WL.run ht hn 1 ⟨[(0, .sv (.one (I n))), (3, .sv (.one (.ptr 0 0))), (4, .sv (.one (.own 2))), (9, .sv (.one (.own 3))), (12, .sv (.one (I e_2))), (50, .sv (.one (.own 1))), (51, .sv (.one (I ((insAll ((krCmp z)) 0 (l1).length (l1)).length : Int)))), (52, .sv (.one (I x52)))], [.box [LS intT z] 23 true, rowI 3 intT (insAll ((krCmp z)) 0 (l1).length (l1)), rowI 23 (lsT intT) l2, rowI 3 intT (l3_3 ++ ([0] : (List Int))), .gone]⟩ (by kernel_rfl) ?_
                      refine WL.nil ?_
                      exact En.at (I := fun zz => Inv_3 zz ∧ mu_3 zz < mu_3 l3_3) (T := fun zz => ⟨[(0, .sv (.one (I n))), (3, .sv (.one (.ptr 0 0))), (4, .sv (.one (.own 2))), (9, .sv (.one (.own 3))), (12, .sv (.one (I e_2))), (50, .sv (.one (.own 1))), (51, .sv (.one (I ((insAll ((krCmp z)) 0 (l1).length (l1)).length : Int)))), (52, .sv (.one (I x52)))], [.box [LS intT z] 23 true, rowI 3 intT (insAll ((krCmp z)) 0 (l1).length (l1)), rowI 23 (lsT intT) l2, rowI 3 intT zz]⟩) (l3_3 ++ ([0] : (List Int))) h (by kernel_rfl)
                    · replace h := h.2 hb
                      refine En.exit rfl ?_
                      refine En.seq ?_
                      refine En.region ?_
                      refine WL.run ht hn 3 ⟨[(0, .sv (.one (I n))), (3, .sv (.one (.ptr 0 0))), (4, .sv (.one (.own 2))), (9, .sv (.one (.own 3))), (50, .sv (.one (.own 1))), (51, .sv (.one (I ((insAll ((krCmp z)) 0 (l1).length (l1)).length : Int)))), (52, .sv (.one (I x52))), (68, .sv (.one (.own 2))), (69, .sv (.one (I e_2))), (70, .sv (.one (.own 3)))], [.box [LS intT z] 23 true, rowI 3 intT (insAll ((krCmp z)) 0 (l1).length (l1)), rowI 23 (lsT intT) l2, rowI 3 intT l3_3]⟩ (by kernel_rfl) ?_
                      have hp := h.1
                      replace h := h.2
                      refine WL.mt0 (K := []) (p := some (4, rowI 3 intT (l3_3))) hn (by rfl) (mt_lendI (T := intT) (l := l3_3) 3 (by rfl) (plain_row fun _ => rfl) (mt_callI 4 (cloneInt_ct l3_3 hp) en62 (caps := []) [] rfl rfl (by rfl) (by kernel_rfl) (by kernel_rfl) (by rfl) (by rfl))) (by rfl) (by rfl) (by rfl) ?_
                      obtain ⟨e_4, he_4, h⟩ := h
                      refine WL.val hn (by rfl) (val_indexO (T := (lsT intT)) (l := l2) (k := e_2) ht rfl (by rfl) (by rfl) (by rfl) (by rfl) (by decide) (by rfl) (by rfl) (by rfl) he_4) (by rfl) ?_
                      refine WL.seal (T := intT) (l := (l3_3)) (e := 3) 4 rfl ?_
                      refine WL.run ht hn 0 ⟨[(0, .sv (.one (I n))), (3, .sv (.one (.ptr 0 0))), (4, .sv (.one (.own 2))), (9, .sv (.one (.own 3))), (50, .sv (.one (.own 1))), (51, .sv (.one (I ((insAll ((krCmp z)) 0 (l1).length (l1)).length : Int)))), (52, .sv (.one (I x52))), (68, .sv (.one (.own 2))), (69, .sv (.one (I e_2))), (70, .sv (.one (.own 3))), (71, .sv (.one (LS intT (l3_3)))), (72, .sv (.one (.oe 2 ((e_2).toNat) 1)))], [.box [LS intT z] 23 true, rowI 3 intT (insAll ((krCmp z)) 0 (l1).length (l1)), rowI 23 (lsT intT) l2, rowI 3 intT l3_3, .gone]⟩ (by kernel_rfl) ?_
                      refine WL.storeO (T := (lsT intT)) (l := l2) (y := (l3_3)) ht hn (by rfl) rfl (by rfl) (by rfl) (fun _ h => by cases h) (by rfl) (by rfl) (idx_lt he_4) (by rfl) (by rfl) (by rfl) (by rfl) ?_
                      refine WL.nil ?_
                      refine En.seq ?_
                      refine En.region ?_
                      refine WL.run ht hn 4 ⟨[(0, .sv (.one (I n))), (3, .sv (.one (.ptr 0 0))), (4, .sv (.one (.own 2))), (9, .sv (.one (.own 3))), (13, .sv (.one (I (wr ((l3_3.length : Int) - 1))))), (50, .sv (.one (.own 1))), (51, .sv (.one (I ((insAll ((krCmp z)) 0 (l1).length (l1)).length : Int)))), (52, .sv (.one (I x52)))], [.box [LS intT z] 23 true, rowI 3 intT (insAll ((krCmp z)) 0 (l1).length (l1)), rowI 23 (lsT intT) (l2.set (e_2).toNat (l3_3)), rowI 3 intT l3_3, .gone]⟩ (by kernel_rfl) ?_
                      refine WL.nil ?_
                      refine En.seq ?_
                      refine En.block ?_
                      obtain ⟨Inv_4, mu_4, h0, hI⟩ := h
                      refine En.loop (σ := Int × (List Int)) (fun zz => Inv_4 zz.1 zz.2) (fun zz => mu_4 zz.1 zz.2) (fun zz => ⟨[(0, .sv (.one (I n))), (3, .sv (.one (.ptr 0 0))), (4, .sv (.one (.own 2))), (9, .sv (.one (.own 3))), (13, .sv (.one (I zz.1))), (50, .sv (.one (.own 1))), (51, .sv (.one (I ((insAll ((krCmp z)) 0 (l1).length (l1)).length : Int)))), (52, .sv (.one (I x52)))], [.box [LS intT z] 23 true, rowI 3 intT (insAll ((krCmp z)) 0 (l1).length (l1)), rowI 23 (lsT intT) (l2.set (e_2).toNat (l3_3)), rowI 3 intT zz.2, .gone]⟩) ((wr ((l3_3.length : Int) - 1)), l3_3) h0 (sub_ok (by kernel_rfl)) ?_
                      rintro ⟨x13, l3_4⟩ h
                      replace h := hI _ _ h
                      show En c ⟨[(0, .sv (.one (I n))), (3, .sv (.one (.ptr 0 0))), (4, .sv (.one (.own 2))), (9, .sv (.one (.own 3))), (13, .sv (.one (I x13))), (50, .sv (.one (.own 1))), (51, .sv (.one (I ((insAll ((krCmp z)) 0 (l1).length (l1)).length : Int)))), (52, .sv (.one (I x52)))], [.box [LS intT z] 23 true, rowI 3 intT (insAll ((krCmp z)) 0 (l1).length (l1)), rowI 23 (lsT intT) (l2.set (e_2).toNat (l3_3)), rowI 3 intT l3_4, .gone]⟩ _
                      refine En.seq ?_
                      obtain ⟨J_2, h, hJ_2⟩ := h
                      refine En.seqJ (σ := Bool) (fun zz => J_2 zz) (fun zz => ⟨[(0, .sv (.one (I n))), (3, .sv (.one (.ptr 0 0))), (4, .sv (.one (.own 2))), (9, .sv (.one (.own 3))), (13, .sv (.one (I x13))), (50, .sv (.one (.own 1))), (51, .sv (.one (I ((insAll ((krCmp z)) 0 (l1).length (l1)).length : Int)))), (52, .sv (.one (I x52))), (86, .sv (.one (B zz)))], [.box [LS intT z] 23 true, rowI 3 intT (insAll ((krCmp z)) 0 (l1).length (l1)), rowI 23 (lsT intT) (l2.set (e_2).toNat (l3_3)), rowI 3 intT l3_4, .gone]⟩) ?_ ?_
                      · refine En.region ?_
                        refine WL.run ht hn 3 ⟨[(0, .sv (.one (I n))), (3, .sv (.one (.ptr 0 0))), (4, .sv (.one (.own 2))), (9, .sv (.one (.own 3))), (13, .sv (.one (I x13))), (50, .sv (.one (.own 1))), (51, .sv (.one (I ((insAll ((krCmp z)) 0 (l1).length (l1)).length : Int)))), (52, .sv (.one (I x52))), (78, .sv (.one (B (decide (x13 ≥ 0)))))], [.box [LS intT z] 23 true, rowI 3 intT (insAll ((krCmp z)) 0 (l1).length (l1)), rowI 23 (lsT intT) (l2.set (e_2).toNat (l3_3)), rowI 3 intT l3_4, .gone]⟩ (by kernel_rfl) ?_
                        refine splitB (decide (x13 ≥ 0)) (fun hb => ?_) (fun hb => ?_)
                        · replace h := h.1 hb
                          refine WL.setB 78 hb (by kernel_rfl) ?_
                          refine WL.run ht hn 2 ⟨[(0, .sv (.one (I n))), (3, .sv (.one (.ptr 0 0))), (4, .sv (.one (.own 2))), (9, .sv (.one (.own 3))), (13, .sv (.one (I x13))), (50, .sv (.one (.own 1))), (51, .sv (.one (I ((insAll ((krCmp z)) 0 (l1).length (l1)).length : Int)))), (52, .sv (.one (I x52))), (78, .sv (.one (B true))), (79, .sv (.one (.own 3))), (80, .sv (.one (I x13)))], [.box [LS intT z] 23 true, rowI 3 intT (insAll ((krCmp z)) 0 (l1).length (l1)), rowI 23 (lsT intT) (l2.set (e_2).toNat (l3_3)), rowI 3 intT l3_4, .gone]⟩ (by kernel_rfl) ?_
                          obtain ⟨e_5, he_5, h⟩ := h
                          refine WL.val hn (by rfl) (val_indexO (T := intT) (l := l3_4) (k := x13) ht rfl (by rfl) (by rfl) (by rfl) (by rfl) (by decide) (by rfl) (by rfl) (by rfl) he_5) (by rfl) ?_
                          refine WL.val hn (by rfl) (val_loadO (T := intT) (l := l3_4) (y := e_5) ht rfl (by rfl) (by rfl) (by rfl) (by rfl) (by rfl) (idx_some he_5).2.2 (by rfl)) (by rfl) ?_
                          refine WL.run ht hn 4 ⟨[(0, .sv (.one (I n))), (3, .sv (.one (.ptr 0 0))), (4, .sv (.one (.own 2))), (9, .sv (.one (.own 3))), (13, .sv (.one (I x13))), (50, .sv (.one (.own 1))), (51, .sv (.one (I ((insAll ((krCmp z)) 0 (l1).length (l1)).length : Int)))), (52, .sv (.one (I x52))), (86, .sv (.one (B (e_5 == (wr (n - 1))))))], [.box [LS intT z] 23 true, rowI 3 intT (insAll ((krCmp z)) 0 (l1).length (l1)), rowI 23 (lsT intT) (l2.set (e_2).toNat (l3_3)), rowI 3 intT l3_4, .gone]⟩ (by kernel_rfl) ?_
                          refine WL.nil ?_
                          exact En.at (I := fun zz => J_2 zz) (T := fun zz => ⟨[(0, .sv (.one (I n))), (3, .sv (.one (.ptr 0 0))), (4, .sv (.one (.own 2))), (9, .sv (.one (.own 3))), (13, .sv (.one (I x13))), (50, .sv (.one (.own 1))), (51, .sv (.one (I ((insAll ((krCmp z)) 0 (l1).length (l1)).length : Int)))), (52, .sv (.one (I x52))), (86, .sv (.one (B zz)))], [.box [LS intT z] 23 true, rowI 3 intT (insAll ((krCmp z)) 0 (l1).length (l1)), rowI 23 (lsT intT) (l2.set (e_2).toNat (l3_3)), rowI 3 intT l3_4, .gone]⟩) (e_5 == (wr (n - 1))) h (by kernel_rfl)
                        · replace h := h.2 hb
                          refine WL.setB 78 hb (by kernel_rfl) ?_
                          refine WL.run ht hn 8 ⟨[(0, .sv (.one (I n))), (3, .sv (.one (.ptr 0 0))), (4, .sv (.one (.own 2))), (9, .sv (.one (.own 3))), (13, .sv (.one (I x13))), (50, .sv (.one (.own 1))), (51, .sv (.one (I ((insAll ((krCmp z)) 0 (l1).length (l1)).length : Int)))), (52, .sv (.one (I x52))), (86, .sv (.one (B false)))], [.box [LS intT z] 23 true, rowI 3 intT (insAll ((krCmp z)) 0 (l1).length (l1)), rowI 23 (lsT intT) (l2.set (e_2).toNat (l3_3)), rowI 3 intT l3_4, .gone]⟩ (by kernel_rfl) ?_
                          refine WL.nil ?_
                          exact En.at (I := fun zz => J_2 zz) (T := fun zz => ⟨[(0, .sv (.one (I n))), (3, .sv (.one (.ptr 0 0))), (4, .sv (.one (.own 2))), (9, .sv (.one (.own 3))), (13, .sv (.one (I x13))), (50, .sv (.one (.own 1))), (51, .sv (.one (I ((insAll ((krCmp z)) 0 (l1).length (l1)).length : Int)))), (52, .sv (.one (I x52))), (86, .sv (.one (B zz)))], [.box [LS intT z] 23 true, rowI 3 intT (insAll ((krCmp z)) 0 (l1).length (l1)), rowI 23 (lsT intT) (l2.set (e_2).toNat (l3_3)), rowI 3 intT l3_4, .gone]⟩) false h (by kernel_rfl)
                      · intro x86 h
                        replace h := hJ_2 _ h
                        show En c ⟨[(0, .sv (.one (I n))), (3, .sv (.one (.ptr 0 0))), (4, .sv (.one (.own 2))), (9, .sv (.one (.own 3))), (13, .sv (.one (I x13))), (50, .sv (.one (.own 1))), (51, .sv (.one (I ((insAll ((krCmp z)) 0 (l1).length (l1)).length : Int)))), (52, .sv (.one (I x52))), (86, .sv (.one (B x86)))], [.box [LS intT z] 23 true, rowI 3 intT (insAll ((krCmp z)) 0 (l1).length (l1)), rowI 23 (lsT intT) (l2.set (e_2).toNat (l3_3)), rowI 3 intT l3_4, .gone]⟩ _
                        refine En.cond (b := x86) (by kernel_rfl) (fun hb => ?_) (fun hb => ?_)
                        · replace h := h.1 hb
                          refine En.skip ?_
                          refine En.block ?_
                          refine En.seq ?_
                          refine En.region ?_
                          refine WL.run ht hn 2 ⟨[(0, .sv (.one (I n))), (3, .sv (.one (.ptr 0 0))), (4, .sv (.one (.own 2))), (9, .sv (.one (.own 3))), (13, .sv (.one (I x13))), (50, .sv (.one (.own 1))), (51, .sv (.one (I ((insAll ((krCmp z)) 0 (l1).length (l1)).length : Int)))), (52, .sv (.one (I x52))), (87, .sv (.one (.own 3))), (88, .sv (.one (I x13)))], [.box [LS intT z] 23 true, rowI 3 intT (insAll ((krCmp z)) 0 (l1).length (l1)), rowI 23 (lsT intT) (l2.set (e_2).toNat (l3_3)), rowI 3 intT l3_4, .gone]⟩ (by kernel_rfl) ?_
                          obtain ⟨e_6, he_6, h⟩ := h
                          refine WL.val hn (by rfl) (val_indexO (T := intT) (l := l3_4) (k := x13) ht rfl (by rfl) (by rfl) (by rfl) (by rfl) (by decide) (by rfl) (by rfl) (by rfl) he_6) (by rfl) ?_
                          refine WL.storeO (T := intT) (l := l3_4) (y := 0) ht hn (by rfl) rfl (by rfl) (by rfl) (fun _ h => by cases h) (by rfl) (by rfl) (idx_lt he_6) (by rfl) (by rfl) (by rfl) (by rfl) ?_
                          refine WL.nil ?_
                          refine En.region ?_
                          refine WL.run ht hn 3 ⟨[(0, .sv (.one (I n))), (3, .sv (.one (.ptr 0 0))), (4, .sv (.one (.own 2))), (9, .sv (.one (.own 3))), (13, .sv (.one (I (wr (x13 - 1))))), (50, .sv (.one (.own 1))), (51, .sv (.one (I ((insAll ((krCmp z)) 0 (l1).length (l1)).length : Int)))), (52, .sv (.one (I x52)))], [.box [LS intT z] 23 true, rowI 3 intT (insAll ((krCmp z)) 0 (l1).length (l1)), rowI 23 (lsT intT) (l2.set (e_2).toNat (l3_3)), rowI 3 intT (l3_4.set (x13).toNat 0), .gone]⟩ (by kernel_rfl) ?_
                          refine WL.nil ?_
                          exact En.at (I := fun zz => Inv_4 zz.1 zz.2 ∧ mu_4 zz.1 zz.2 < mu_4 x13 l3_4) (T := fun zz => ⟨[(0, .sv (.one (I n))), (3, .sv (.one (.ptr 0 0))), (4, .sv (.one (.own 2))), (9, .sv (.one (.own 3))), (13, .sv (.one (I zz.1))), (50, .sv (.one (.own 1))), (51, .sv (.one (I ((insAll ((krCmp z)) 0 (l1).length (l1)).length : Int)))), (52, .sv (.one (I x52)))], [.box [LS intT z] 23 true, rowI 3 intT (insAll ((krCmp z)) 0 (l1).length (l1)), rowI 23 (lsT intT) (l2.set (e_2).toNat (l3_3)), rowI 3 intT zz.2, .gone]⟩) ((wr (x13 - 1)), (l3_4.set (x13).toNat 0)) h (by kernel_rfl)
                        · replace h := h.2 hb
                          refine En.exit rfl ?_
                          refine En.seq ?_
                          refine En.region ?_
                          refine WL.run ht hn 3 ⟨[(0, .sv (.one (I n))), (3, .sv (.one (.ptr 0 0))), (4, .sv (.one (.own 2))), (9, .sv (.one (.own 3))), (10, .sv (.one (B (decide (x13 ≥ 0))))), (13, .sv (.one (I x13))), (50, .sv (.one (.own 1))), (51, .sv (.one (I ((insAll ((krCmp z)) 0 (l1).length (l1)).length : Int)))), (52, .sv (.one (I x52)))], [.box [LS intT z] 23 true, rowI 3 intT (insAll ((krCmp z)) 0 (l1).length (l1)), rowI 23 (lsT intT) (l2.set (e_2).toNat (l3_3)), rowI 3 intT l3_4, .gone]⟩ (by kernel_rfl) ?_
                          refine WL.nil ?_
                          refine En.seq ?_
                          refine En.region ?_
                          refine WL.run ht hn 1 ⟨[(0, .sv (.one (I n))), (3, .sv (.one (.ptr 0 0))), (4, .sv (.one (.own 2))), (9, .sv (.one (.own 3))), (10, .sv (.one (B (decide (x13 ≥ 0))))), (13, .sv (.one (I x13))), (50, .sv (.one (.own 1))), (51, .sv (.one (I ((insAll ((krCmp z)) 0 (l1).length (l1)).length : Int)))), (52, .sv (.one (I x52))), (94, .sv (.one (B (decide (x13 ≥ 0)))))], [.box [LS intT z] 23 true, rowI 3 intT (insAll ((krCmp z)) 0 (l1).length (l1)), rowI 23 (lsT intT) (l2.set (e_2).toNat (l3_3)), rowI 3 intT l3_4, .gone]⟩ (by kernel_rfl) ?_
                          refine WL.nil ?_
                          refine En.cond (b := (decide (x13 ≥ 0))) (by kernel_rfl) (fun hb => ?_) (fun hb => ?_)
                          · replace h := h.1 hb
                            refine En.region ?_
                            refine WL.run ht hn 2 ⟨[(0, .sv (.one (I n))), (3, .sv (.one (.ptr 0 0))), (4, .sv (.one (.own 2))), (9, .sv (.one (.own 3))), (10, .sv (.one (B (decide (x13 ≥ 0))))), (50, .sv (.one (.own 1))), (51, .sv (.one (I ((insAll ((krCmp z)) 0 (l1).length (l1)).length : Int)))), (52, .sv (.one (I x52))), (95, .sv (.one (.own 3))), (96, .sv (.one (I x13)))], [.box [LS intT z] 23 true, rowI 3 intT (insAll ((krCmp z)) 0 (l1).length (l1)), rowI 23 (lsT intT) (l2.set (e_2).toNat (l3_3)), rowI 3 intT l3_4, .gone]⟩ (by kernel_rfl) ?_
                            obtain ⟨e_7, he_7, h⟩ := h
                            refine WL.val hn (by rfl) (val_indexO (T := intT) (l := l3_4) (k := x13) ht rfl (by rfl) (by rfl) (by rfl) (by rfl) (by decide) (by rfl) (by rfl) (by rfl) he_7) (by rfl) ?_
                            refine WL.val hn (by rfl) (val_loadO (T := intT) (l := l3_4) (y := e_7) ht rfl (by rfl) (by rfl) (by rfl) (by rfl) (by rfl) (idx_some he_7).2.2 (by rfl)) (by rfl) ?_
                            refine WL.run ht hn 1 ⟨[(0, .sv (.one (I n))), (3, .sv (.one (.ptr 0 0))), (4, .sv (.one (.own 2))), (9, .sv (.one (.own 3))), (10, .sv (.one (B (decide (x13 ≥ 0))))), (50, .sv (.one (.own 1))), (51, .sv (.one (I ((insAll ((krCmp z)) 0 (l1).length (l1)).length : Int)))), (52, .sv (.one (I x52))), (95, .sv (.one (.own 3))), (96, .sv (.one (I x13))), (99, .sv (.one (I (wr (e_7 + 1)))))], [.box [LS intT z] 23 true, rowI 3 intT (insAll ((krCmp z)) 0 (l1).length (l1)), rowI 23 (lsT intT) (l2.set (e_2).toNat (l3_3)), rowI 3 intT l3_4, .gone]⟩ (by kernel_rfl) ?_
                            obtain ⟨e_8, he_8, h⟩ := h
                            refine WL.val hn (by rfl) (val_indexO (T := intT) (l := l3_4) (k := x13) ht rfl (by rfl) (by rfl) (by rfl) (by rfl) (by decide) (by rfl) (by rfl) (by rfl) he_8) (by rfl) ?_
                            refine WL.storeO (T := intT) (l := l3_4) (y := (wr (e_7 + 1))) ht hn (by rfl) rfl (by rfl) (by rfl) (fun _ h => by cases h) (by rfl) (by rfl) (idx_lt he_8) (by rfl) (by rfl) (by rfl) (by rfl) ?_
                            refine WL.nil ?_
                            exact En.at (I := fun zz => J zz.1 zz.2.1 zz.2.2) (T := fun zz => ⟨[(0, .sv (.one (I n))), (3, .sv (.one (.ptr 0 0))), (4, .sv (.one (.own 2))), (9, .sv (.one (.own 3))), (10, .sv (.one (B zz.1))), (50, .sv (.one (.own 1))), (51, .sv (.one (I ((insAll ((krCmp z)) 0 (l1).length (l1)).length : Int)))), (52, .sv (.one (I x52)))], [.box [LS intT z] 23 true, rowI 3 intT (insAll ((krCmp z)) 0 (l1).length (l1)), rowI 23 (lsT intT) zz.2.1, rowI 3 intT zz.2.2, .gone]⟩) ((decide (x13 ≥ 0)), (l2.set (e_2).toNat (l3_3)), (l3_4.set (x13).toNat (wr (e_7 + 1)))) h (by kernel_rfl)
                          · replace h := h.2 hb
                            refine En.skip ?_
                            exact En.at (I := fun zz => J zz.1 zz.2.1 zz.2.2) (T := fun zz => ⟨[(0, .sv (.one (I n))), (3, .sv (.one (.ptr 0 0))), (4, .sv (.one (.own 2))), (9, .sv (.one (.own 3))), (10, .sv (.one (B zz.1))), (50, .sv (.one (.own 1))), (51, .sv (.one (I ((insAll ((krCmp z)) 0 (l1).length (l1)).length : Int)))), (52, .sv (.one (I x52)))], [.box [LS intT z] 23 true, rowI 3 intT (insAll ((krCmp z)) 0 (l1).length (l1)), rowI 23 (lsT intT) zz.2.1, rowI 3 intT zz.2.2, .gone]⟩) ((decide (x13 ≥ 0)), (l2.set (e_2).toNat (l3_3)), l3_4) h (by kernel_rfl)
                · rintro ⟨x10_2, l2_2, l3_2⟩ h
                  replace h := hJ _ _ _ h
                  show En c ⟨[(0, .sv (.one (I n))), (3, .sv (.one (.ptr 0 0))), (4, .sv (.one (.own 2))), (9, .sv (.one (.own 3))), (10, .sv (.one (B x10_2))), (50, .sv (.one (.own 1))), (51, .sv (.one (I ((insAll ((krCmp z)) 0 (l1).length (l1)).length : Int)))), (52, .sv (.one (I x52)))], [.box [LS intT z] 23 true, rowI 3 intT (insAll ((krCmp z)) 0 (l1).length (l1)), rowI 23 (lsT intT) l2_2, rowI 3 intT l3_2, .gone]⟩ _
                  refine En.region ?_
                  refine WL.run ht hn 2 ⟨[(0, .sv (.one (I n))), (3, .sv (.one (.ptr 0 0))), (4, .sv (.one (.own 2))), (9, .sv (.one (.own 3))), (10, .sv (.one (B x10_2))), (50, .sv (.one (.own 1))), (51, .sv (.one (I ((insAll ((krCmp z)) 0 (l1).length (l1)).length : Int)))), (52, .sv (.one (I (wr (x52 + 1)))))], [.box [LS intT z] 23 true, rowI 3 intT (insAll ((krCmp z)) 0 (l1).length (l1)), rowI 23 (lsT intT) l2_2, rowI 3 intT l3_2, .gone]⟩ (by kernel_rfl) ?_
                  refine WL.nil ?_
                  exact En.at (I := fun zz => Inv_2 zz.1 zz.2.1 zz.2.2.1 zz.2.2.2 ∧ mu_2 zz.1 zz.2.1 zz.2.2.1 zz.2.2.2 < mu_2 x10 x52 l2 l3) (T := fun zz => ⟨[(0, .sv (.one (I n))), (3, .sv (.one (.ptr 0 0))), (4, .sv (.one (.own 2))), (9, .sv (.one (.own 3))), (10, .sv (.one (B zz.1))), (50, .sv (.one (.own 1))), (51, .sv (.one (I ((insAll ((krCmp z)) 0 (l1).length (l1)).length : Int)))), (52, .sv (.one (I zz.2.1)))], [.box [LS intT z] 23 true, rowI 3 intT (insAll ((krCmp z)) 0 (l1).length (l1)), rowI 23 (lsT intT) zz.2.2.1, rowI 3 intT zz.2.2.2]⟩) (x10_2, (wr (x52 + 1)), l2_2, l3_2) h (by kernel_rfl)
              · replace h := h.2 hb
                refine En.exit rfl ?_
                refine En.seq ?_
                refine En.region ?_
                refine WL.run ht hn 4 ⟨[(4, .sv (.one (.own 2))), (5, .sv (.one (B true))), (6, .sv (.one (I 0)))], [.gone, .gone, rowI 23 (lsT intT) l2, .gone]⟩ (by kernel_rfl) ?_
                refine WL.nil ?_
                refine En.ret ?_
                refine En.seal (T := (lsT intT)) (l := l2) (e := 23) 2 rfl ?_
                exact En.back ht (l2, true, 0) h (by kernel_rfl) rfl
theorem en29 : ∀ args w, (callFunc 29 args).run Try.prog w = .ok (.enter 29 args) w := enters_of Try.func29 (by kernel_rfl) rfl
theorem makeOk_ofL {n b : Nat} (h : n * b ≤ 140737488355328) : makeOk (n : Int) (n : Int) b := by
  unfold makeOk
  refine ⟨by omega, by omega, ?_⟩
  have := Int.ofNat_le.2 h
  rw [Int.natCast_mul] at this
  exact this
theorem perm_sumN {l m : List Nat} (h : l.Perm m) : l.sum = m.sum := by
  induction h with
  | nil => rfl
  | cons _ _ ih => simp [ih]
  | swap _ _ _ => simp; omega
  | trans _ _ h1 h2 => exact h1.trans h2
def SortB (c : Int → Int) (R : List Int) (k : Nat) : Prop := ∀ x y, x < y → y < k → c (R.getD x 0) ≤ c (R.getD y 0)
theorem getD_set {R : List Int} {i k : Nat} {v : Int} (h : i < R.length) : (R.set i v).getD k 0 = if i = k then v else R.getD k 0 := by
  rw [List.getD_eq_getElem?_getD, List.getElem?_set]
  split
  · rename_i e
    subst e
    simp [h]
  · rw [List.getD_eq_getElem?_getD]
theorem insDown_sorted {φ : Int × Int → Int} {c : Int → Int} (hφ : ∀ x y, φ (x, y) < 0 ↔ c x < c y) : ∀ {j : Nat} {R : List Int}, j < R.length → SortB c R j →
    SortB c (insDown φ 0 j R) (j + 1) ∧ (∀ x, j < x → (insDown φ 0 j R).getD x 0 = R.getD x 0) ∧ ∀ m, (∀ x, x ≤ j → c (R.getD x 0) ≤ m) → ∀ x, x ≤ j → c ((insDown φ 0 j R).getD x 0) ≤ m
  | 0, R, _, _ => ⟨fun x y h1 h2 => by omega, fun _ _ => rfl, fun _ h => h⟩
  | j + 1, R, h, hs => by
    rw [insDown]
    split
    · rename_i hc
      have hc := (hφ _ _).1 (of_decide_eq_true ((Bool.and_eq_true _ _).mp hc).2)
      have hg : ∀ x, ((R.set (j + 1) (R.getD j 0)).set j (R.getD (j + 1) 0)).getD x 0 = if j = x then R.getD (j + 1) 0 else if j + 1 = x then R.getD j 0 else R.getD x 0 := fun x => by
        rw [getD_set (by rw [List.length_set]; omega), getD_set h]
      obtain ⟨k1, k2, k3⟩ := insDown_sorted hφ (j := j) (R := (R.set (j + 1) (R.getD j 0)).set j (R.getD (j + 1) 0)) (by rw [List.length_set, List.length_set]; omega) (fun x y h1 h2 => by
        rw [hg, hg, if_neg (by omega), if_neg (by omega), if_neg (by omega), if_neg (by omega)]
        exact hs x y h1 (by omega))
      have hb : ∀ x, x ≤ j → c (((R.set (j + 1) (R.getD j 0)).set j (R.getD (j + 1) 0)).getD x 0) ≤ c (R.getD j 0) := fun x hx => by
        rw [hg]
        by_cases e : j = x
        · rw [if_pos e]; omega
        · rw [if_neg e, if_neg (by omega)]
          exact hs x j (by omega) (by omega)
      have hlast : (insDown φ 0 j ((R.set (j + 1) (R.getD j 0)).set j (R.getD (j + 1) 0))).getD (j + 1) 0 = R.getD j 0 := by
        rw [k2 _ (by omega), hg, if_neg (by omega), if_pos rfl]
      refine ⟨fun x y h1 h2 => ?_, fun x hx => ?_, fun m hm x hx => ?_⟩
      · by_cases e : y = j + 1
        · rw [e, hlast]
          exact k3 _ hb x (by omega)
        · exact k1 x y h1 (by omega)
      · rw [k2 _ (by omega), hg, if_neg (by omega), if_neg (by omega)]
      · by_cases e : x = j + 1
        · rw [e, hlast]
          exact hm j (by omega)
        · exact k3 m (fun y hy => by have := hb y hy; have := hm j (by omega); omega) x (by omega)
    · rename_i hc
      have hc : ¬ c (R.getD (j + 1) 0) < c (R.getD j 0) := fun e => hc (by rw [Bool.and_eq_true]; exact ⟨by simp, decide_eq_true ((hφ _ _).2 e)⟩)
      refine ⟨fun x y h1 h2 => ?_, fun _ _ => rfl, fun _ h => h⟩
      by_cases e : y = j + 1
      · subst e
        by_cases e2 : x = j
        · subst e2; omega
        · have := hs x j (by omega) (by omega)
          omega
      · exact hs x y h1 (by omega)
theorem insUp_sorted {φ : Int × Int → Int} {c : Int → Int} (hφ : ∀ x y, φ (x, y) < 0 ↔ c x < c y) : ∀ {n i : Nat} {R : List Int}, i + n ≤ R.length → SortB c R i → SortB c (insUp φ 0 n i R) (i + n)
  | 0, i, R, _, hs => hs
  | n + 1, i, R, h, hs => by
    rw [insUp]
    have hp := insDown_perm (φ := φ) (a := 0) (j := i) (R := R) (by omega)
    have := insUp_sorted hφ (n := n) (i := i + 1) (R := insDown φ 0 i R) (by rw [hp.length_eq]; omega) (insDown_sorted hφ (by omega) hs).1
    rwa [show i + 1 + n = i + (n + 1) by omega] at this
theorem krCmp_lt (z : List Int) (x y : Int) : krCmp z (x, y) < 0 ↔ z.getD x.toNat 0 < z.getD y.toNat 0 := by
  unfold krCmp cmpI
  constructor
  · intro h
    split at h
    · assumption
    · split at h <;> simp at h
  · intro h
    rw [if_pos h]
    decide
theorem insAll_sorted (z : List Int) {R : List Int} : SortB (fun e => z.getD e.toNat 0) (insAll (krCmp z) 0 R.length R) R.length := by
  unfold insAll
  by_cases h : R.length = 0
  · intro x y h1 h2; omega
  · have := insUp_sorted (krCmp_lt z) (n := R.length - (0 + 1)) (i := 0 + 1) (R := R) (by omega) (fun x y h1 h2 => by omega)
    rwa [show 0 + 1 + (R.length - (0 + 1)) = R.length by omega] at this
/-- a word as a number -/
def valN (r : Nat) (l : List Int) : Nat := l.foldl (fun a d => a * r + d.toNat) 0
theorem valN_snoc (r : Nat) (u : List Int) (d : Int) : valN r (u ++ [d]) = valN r u * r + d.toNat := by
  unfold valN; rw [List.foldl_append]; rfl
theorem valN_zero (r : Nat) (u : List Int) : ∀ t, valN r (u ++ List.replicate t 0) = valN r u * r ^ t
  | 0 => by simp
  | t + 1 => by
    rw [List.replicate_succ', ← List.append_assoc, valN_snoc, valN_zero r u t, Nat.pow_succ, Nat.mul_assoc]
    rfl
theorem valN_top {n : Int} (hn : 1 ≤ n) (u : List Int) : ∀ t, valN n.toNat (u ++ List.replicate t (n - 1)) + 1 = (valN n.toNat u + 1) * n.toNat ^ t
  | 0 => by simp
  | t + 1 => by
    rw [List.replicate_succ', ← List.append_assoc, valN_snoc, Nat.pow_succ, ← Nat.mul_assoc, ← valN_top hn u t, Nat.add_mul, Nat.add_assoc, Nat.one_mul]
    congr 1
    omega
theorem set_mid : ∀ (u : List Int) (d : Int) (v : List Int) (y : Int), (u ++ d :: v).set u.length y = u ++ y :: v
  | [], _, _, _ => rfl
  | a :: u, d, v, y => by
    show a :: (u ++ d :: v).set u.length y = _
    rw [set_mid u d v y]
    rfl
theorem idx_mid (u : List Int) (d : Int) (v : List Int) : idx (u ++ d :: v) (u.length : Int) = some d := by
  have h : u.length < (u ++ d :: v).length := by rw [List.length_append, List.length_cons]; omega
  rw [idx_at h]
  simp
def krErr (n : Int) (z : List Int) : Int := if (decide (n < 1)) || (decide (n > 4)) then 2 else if (decide ((z.length : Int) < 1)) || (decide ((z.length : Int) > 20)) then 1 else if z.any (fun n => (decide (n < 1)) || (decide (n > 30))) then 2 else 0
def krW (n : Int) (s : Int) : Nat := n.toNat ^ (30 - s.toNat)
def KraftQ (n : Int) (z : List Int) (r : List (List Int) × Bool × Int) : Prop := r.2.2 = krErr n z ∧ (krErr n z = 0 → (z.map (krW n)).sum ≤ n.toNat ^ 30 → r.2.1 = true)
theorem range_get (z : List Int) : ((List.range z.length).map fun i => z.getD i 0) = z := by
  apply List.ext_getElem
  · simp
  · intro i h1 h2
    simp [h2]
theorem codKraft_ok (n : Int) (z : List Int) : codKraft_vc n z (KraftQ n z) := by
  unfold codKraft_vc
  intro hzl
  refine ⟨fun h => ⟨?_, fun e => ?_⟩, fun h1 => ⟨fun h => ⟨?_, fun e => ?_⟩, fun h2 => ⟨fun _ _ => trivial, fun h => ⟨?_, fun e => ?_⟩, fun h3 => ?_⟩⟩⟩
  · unfold krErr; rw [if_pos h]
  · unfold krErr at e; rw [if_pos h] at e; cases e
  · unfold krErr; rw [if_neg (by rw [h1]; decide), if_pos h]
  · unfold krErr at e; rw [if_neg (by rw [h1]; decide), if_pos h] at e; cases e
  · unfold krErr; rw [if_neg (by rw [h1]; decide), if_neg (by rw [h2]; decide), if_pos h]
  · unfold krErr at e; rw [if_neg (by rw [h1]; decide), if_neg (by rw [h2]; decide), if_pos h] at e; cases e
  have h0 : krErr n z = 0 := by unfold krErr; rw [if_neg (by rw [h1]; decide), if_neg (by rw [h2]; decide), if_neg (by rw [h3]; decide)]
  simp only [Bool.or_eq_false_iff, decide_eq_false_iff_not] at h1 h2
  have hz : ∀ s ∈ z, 1 ≤ s ∧ s ≤ 30 := fun s hs => by
    have := (List.any_eq_false.1 h3) s hs
    simp at this
    omega
  rw [Int.toNat_natCast]
  refine ⟨makeOk_ofL (by omega), fun i l => ∃ k : Nat, i = k ∧ k ≤ z.length ∧ l.length = z.length ∧ ∀ j, j < k → l.getD j 0 = j, fun i _ => z.length - i.toNat, ⟨0, rfl, Nat.zero_le _, by simp, fun j hj => absurd hj (Nat.not_lt_zero _)⟩, ?_⟩
  rintro i l ⟨k, rfl, hk, hl, hv⟩
  rw [List.length_replicate]
  refine ⟨fun hb => ?_, fun hb => ?_⟩
  · have hlt := dlt hb
    refine ⟨_, idx_getN 0 (by omega), ⟨k + 1, wsucc (by omega), hlt, by rw [List.length_set, hl], fun j hj => ?_⟩, mu_up hlt (by omega)⟩
    rw [Int.toNat_natCast, getD_set (by omega)]
    split
    · rename_i e; rw [e]
    · exact hv j (by omega)
  have hkz : k = z.length := by have := dge hb; omega
  subst hkz
  have hlr : l = (List.range z.length).map Int.ofNat := by
    apply List.ext_getElem
    · simp [hl]
    · intro i h4 h5
      have := hv i (by omega)
      simp [h4] at this
      simp [this]
  have hlm : ∀ x ∈ l, InIx z x := fun x hx => by
    rw [hlr] at hx
    obtain ⟨i, hi, rfl⟩ := List.mem_map.1 hx
    have := List.mem_range.1 hi
    show InIx z (i : Int)
    exact ⟨by omega, by omega⟩
  refine ⟨⟨fun x hx y hy => ⟨hlm x hx, hlm y hy⟩, by omega⟩, makeOk_ofL (by omega), ?_⟩
  have hp : (insAll (krCmp z) 0 l.length l).Perm l := insAll_perm fun _ => Nat.le_refl _
  have hso := insAll_sorted z (R := l)
  generalize hO : insAll (krCmp z) 0 l.length l = o at hp hso ⊢
  have hol : o.length = z.length := by rw [hp.length_eq, hl]
  have hom : ∀ x ∈ o, InIx z x := fun x hx => hlm x (hp.mem_iff.1 hx)
  have hgo : ∀ q, q < o.length → InIx z (o.getD q 0) := fun q hq => hom _ (getD_mem hq)
  have hsz : ∀ q, q < o.length → 1 ≤ z.getD (o.getD q 0).toNat 0 ∧ z.getD (o.getD q 0).toNat 0 ≤ 30 := fun q hq => by
    obtain ⟨h5, h6⟩ := hgo q hq
    exact hz _ (getD_mem (by omega))
  let T : Nat → Nat := fun p => ((o.take p).map fun e => krW n (z.getD e.toNat 0)).sum
  have hTs : ∀ p, p < o.length → T (p + 1) = T p + krW n (z.getD (o.getD p 0).toNat 0) := fun p hp => by
    show ((o.take (p + 1)).map _).sum = _
    rw [List.take_add_one, List.map_append, List.sum_append, List.getElem?_eq_getElem hp]
    simp [T, hp]
  have hTall : T o.length = (z.map (krW n)).sum := by
    show ((o.take o.length).map _).sum = _
    rw [List.take_length, perm_sumN (hp.map _), hlr, List.map_map]
    conv => rhs; rw [← range_get z, List.map_map]
    congr 1
  have hTm : ∀ p q, p ≤ q → q ≤ o.length → T p ≤ T q := fun p q hpq hq => by
    obtain ⟨d, rfl⟩ : ∃ d, q = p + d := ⟨q - p, by omega⟩
    clear hpq
    induction d with
    | zero => exact Nat.le_refl _
    | succ d ih =>
      have := hTs (p + d) (by omega)
      have := ih (by omega)
      show T p ≤ T (p + d + 1)
      omega
  have hpos : ∀ s, 0 < krW n s := fun s => Nat.pow_pos (by omega)
  have hn1 : 1 ≤ n := by omega
  have hwn : wr (n - 1) = n - 1 := wr_in (by omega) (by omega)
  refine ⟨fun ok x l2 w => ∃ p : Nat, x = p ∧ p ≤ o.length ∧ l2.length = z.length ∧ (ok = true → w.length ≤ 30 ∧ (∀ q, p ≤ q → q < o.length → w.length ≤ (z.getD (o.getD q 0).toNat 0).toNat) ∧ (∀ d ∈ w, 0 ≤ d ∧ d < n) ∧ valN n.toNat w * n.toNat ^ (30 - w.length) = T p) ∧ (ok = false → T p = n.toNat ^ 30), fun _ x _ _ => o.length - x.toNat, ⟨0, rfl, Nat.zero_le _, by simp, fun _ => ⟨by simp, fun _ _ _ => Nat.zero_le _, (fun d hd => by cases hd), by simp [T, valN]⟩, fun h => by cases h⟩, ?_⟩
  rintro ok x l2 w0 ⟨p, rfl, hpo, hl2, hok, hno⟩
  refine ⟨fun hb => ?_, fun hb => ⟨h0.symm, fun _ _ => rfl⟩⟩
  have hpl := dlt hb
  obtain ⟨e0, e1⟩ := hgo p hpl
  have hss := hsz p hpl
  have hTp := hTs p hpl
  refine ⟨fun ok' l2' w' => l2'.length = z.length ∧ (ok' = true → w'.length = (z.getD (o.getD p 0).toNat 0).toNat ∧ (∀ d ∈ w', 0 ≤ d ∧ d < n) ∧ valN n.toNat w' * n.toNat ^ (30 - w'.length) = T (p + 1)) ∧ (ok' = false → T (p + 1) = n.toNat ^ 30), ⟨_, idx_getN 0 hpl, fun h => ⟨h0.symm, fun _ hle => ?_⟩, fun h => ?_⟩, ?_⟩
  · have hT := hno (by simpa using h)
    have h5 := hTm (p + 1) o.length (by omega) (Nat.le_refl _)
    have h6 := hpos (z.getD (o.getD p 0).toNat 0)
    rw [← hTall] at hle
    omega
  · obtain ⟨hw1, hw2, hw3, hw4⟩ := hok (by simpa using h)
    have hw2 := hw2 p (Nat.le_refl _) hpl
    generalize hs : z.getD (o.getD p 0).toNat 0 = s at *
    refine ⟨fun w => w.length ≤ s.toNat ∧ (∀ d ∈ w, 0 ≤ d ∧ d < n) ∧ valN n.toNat w * n.toNat ^ (30 - w.length) = T p, fun w => s.toNat - w.length, ⟨hw2, hw3, hw4⟩, ?_⟩
    rintro w ⟨hw2, hw3, hw4⟩
    refine ⟨s, by rw [← hs]; exact idx_of 0 e0 e1, fun hc => ?_, fun hc => ?_⟩
    · have hc := of_decide_eq_true hc
      refine ⟨capOk_of (by simp only [List.length_cons, List.length_nil]; omega), ⟨by simp only [List.length_append, List.length_cons, List.length_nil]; omega, fun d hd => ?_, ?_⟩, by simp only [List.length_append, List.length_cons, List.length_nil]; omega⟩
      · rcases List.mem_append.1 hd with hd | hd
        · exact hw3 d hd
        · rw [List.mem_singleton.1 hd]; omega
      · rw [← hw4, show (w ++ [(0 : Int)]) = w ++ List.replicate 1 0 from rfl, valN_zero, Nat.mul_assoc, ← Nat.pow_add, List.length_append, List.length_replicate]
        congr 2
        omega
    · have hc := of_decide_eq_false hc
      have hwl : w.length = s.toNat := by omega
      have hT1 : T (p + 1) = (valN n.toNat w + 1) * n.toNat ^ (30 - w.length) := by
        rw [hTp, ← hw4, Nat.add_mul, Nat.one_mul, hwl]
        rfl
      refine ⟨by omega, _, idx_of [] e0 (by omega), fun x m => ∃ (u : List Int) (t : Nat), w = u ++ List.replicate t (n - 1) ∧ m = u ++ List.replicate t 0 ∧ x = (u.length : Int) - 1, fun x _ => (x + 1).toNat, ⟨w, 0, by simp, by simp, wr_in (by omega) (by omega)⟩, ?_⟩
      rintro x m ⟨u, t, hu, rfl, rfl⟩
      have hul : u.length ≤ 30 := by have := congrArg List.length hu; rw [List.length_append] at this; omega
      have hml : (u ++ List.replicate t (0 : Int)).length = s.toNat := by
        have := congrArg List.length hu
        rw [List.length_append, List.length_replicate] at this
        rw [List.length_append, List.length_replicate]
        omega
      refine ⟨fun b => (b = true → ∃ u', u = u' ++ [n - 1]) ∧ (b = false → u = [] ∨ ∃ u' d, u = u' ++ [d] ∧ d ≠ n - 1), ⟨fun hx => ?_, fun hx => ?_⟩, ?_⟩
      · have hx := of_decide_eq_true hx
        rcases List.eq_nil_or_concat u with rfl | ⟨u', d, e⟩
        · simp at hx
        rw [List.concat_eq_append] at e
        subst e
        · have hxu : (((u' ++ [d]).length : Nat) : Int) - 1 = (u'.length : Int) := by rw [List.length_append]; simp
          rw [hxu, List.append_assoc]
          refine ⟨d, idx_mid u' d _, fun hb => ⟨u', ?_⟩, fun hb => .inr ⟨u', d, rfl, fun e => ?_⟩⟩
          · rw [hwn] at hb
            rw [eq_of_beq hb]
          · rw [hwn, e] at hb
            simp at hb
      · have hx := of_decide_eq_false hx
        refine ⟨fun e => (by cases e), fun _ => .inl (List.eq_nil_of_length_eq_zero (by omega))⟩
      · rintro b ⟨hb1, hb2⟩
        refine ⟨fun hb => ?_, fun hb => ⟨fun hx => ?_, fun hx => ?_⟩⟩
        · obtain ⟨u', rfl⟩ := hb1 hb
          have hxu : (((u' ++ [n - 1]).length : Nat) : Int) - 1 = (u'.length : Int) := by rw [List.length_append]; simp
          rw [hxu, List.append_assoc]
          have hul' : u'.length ≤ 30 := by rw [List.length_append] at hul; omega
          refine ⟨_, idx_mid u' _ _, ⟨u', t + 1, ?_, ?_, wr_in (by omega) (by omega)⟩, ?_⟩
          · rw [hu, List.append_assoc]; rfl
          · rw [Int.toNat_natCast]
            exact set_mid u' _ _ _
          · show (wr ((u'.length : Int) - 1) + 1).toNat < ((u'.length : Int) + 1).toNat
            rw [wr_in (by omega) (by omega)]
            omega
        · have hx' := of_decide_eq_true hx
          rcases hb2 hb with rfl | ⟨u', d, rfl, hd⟩
          · simp at hx'
          · have hxu : (((u' ++ [d]).length : Nat) : Int) - 1 = (u'.length : Int) := by rw [List.length_append]; simp
            have hdr : 0 ≤ d ∧ d < n := hw3 d (by rw [hu]; simp)
            have hml' := hml
            rw [List.append_assoc] at hml' ⊢
            rw [hxu, Int.toNat_natCast] at *
            refine ⟨_, idx_mid u' _ _, _, idx_mid u' _ _, ?_⟩
            rw [wr_in (n := d + 1) (by omega) (by omega)]
            have hst : (u' ++ ([d] ++ List.replicate t (0 : Int))).set u'.length (d + 1) = (u' ++ [d + 1]) ++ List.replicate t 0 := by
              rw [List.append_assoc]; exact set_mid u' _ _ _
            rw [hst]
            have hl' : ((u' ++ [d + 1]) ++ List.replicate t (0 : Int)).length = s.toNat := by
              rw [← hml']
              simp
            refine ⟨by rw [List.length_set, hl2], fun _ => ⟨hl', fun y hy => ?_, ?_⟩, fun e => ?_⟩
            · rcases List.mem_append.1 hy with hy | hy
              · rcases List.mem_append.1 hy with hy | hy
                · exact hw3 y (by rw [hu]; simp [hy])
                · rw [List.mem_singleton.1 hy]; omega
              · rw [List.eq_of_mem_replicate hy]; omega
            · rw [hT1, hl', hwl, valN_zero, valN_snoc]
              congr 1
              conv => rhs; rw [hu]
              rw [valN_top hn1, valN_snoc]
              congr 1
              omega
            · have : decide ((u'.length : Int) ≥ 0) = true := decide_eq_true (by omega)
              rw [this] at e; cases e
        · have hx' := of_decide_eq_false hx
          have hu0 : u = [] := by
            rcases hb2 hb with rfl | ⟨u', d, rfl, _⟩
            · rfl
            · rw [List.length_append] at hx'
              simp at hx'
          subst hu0
          refine ⟨by rw [List.length_set, hl2], fun e => ?_, fun _ => ?_⟩
          · rw [hx] at e; cases e
          · have h7 := valN_top hn1 [] t
            rw [← hu] at h7
            have ht : t = s.toNat := by simpa using hml
            rw [hT1, h7, hwl, ht]
            show (0 + 1) * _ * _ = _
            rw [Nat.zero_add, Nat.one_mul, ← Nat.pow_add]
            congr 1
            omega
  · rintro ok' l2' w' ⟨k1, k2, k3⟩
    refine ⟨⟨p + 1, wsucc (by omega), hpl, k1, fun e => ?_, k3⟩, mu_up hpl (by omega)⟩
    obtain ⟨m1, m2, m3⟩ := k2 e
    refine ⟨by omega, fun q hq hqo => ?_, m2, m3⟩
    have := hso p q (by omega) (by omega)
    simp only at this
    omega
theorem codKraft_ct (n : Int) (z : List Int) : Ct 29 [.sv (.one (I n)), .sv (.one (LS intT z))] [] (KraftQ n z) (fun (r : ((List (List Int)) × Bool × Int)) => .tup [.one (LS (lsT intT) r.1), .one (B r.2.1), .one (I r.2.2)]) := codKraft_walk n z (KraftQ n z) (codKraft_ok n z)
end Go.Proofs.Ytiinkohfldopbaa

/- The law: words that can be told apart are few (McMillan). No condition. -/
namespace Go.Proofs.Ytiinkohfldopbaa
open Go.RowKit Go.MapKept
set_option linter.unusedSimpArgs false
set_option linter.unusedVariables false
set_option maxRecDepth 100000

def codeMcMillan_vc (n : Int) (l : (List (List Int))) (Q : Bool → Prop) : Prop :=
  l.length ≤ 9223372036854775807 →
  (∀ r : ((List Int) × (List Int) × Bool × Int), (UniqQ 2 ([([0] : (List Int)), ([0, 1] : (List Int)), ([1, 0] : (List Int))] : (List (List Int)))) r →
  (IfP ((r.2.2.2 != 0) || r.2.2.1) (Q false) (∀ r_2 : ((List (List Int)) × Bool × Int), (KraftQ 2 ([1, 1] : (List Int))) r_2 →
  (IfP ((r_2.2.2 != 0) || (!r_2.2.1)) (Q false) (∀ r_3 : ((List Int) × (List Int) × Bool × Int), (UniqQ n l) r_3 →
  (IfP ((r_3.2.2.2 != 0) || (!r_3.2.2.1)) (Q true) (∃ (Inv : Int → (List Int) → Prop) (mu : Int → (List Int) → Nat), Inv 0 ([] : (List Int)) ∧
  ∀ (x12 : Int) (l6 : (List Int)) , Inv x12 l6 → (IfP (decide (x12 < (l.length : Int))) (∃ e, idx l x12 = some e ∧
  capOk l6.length (([(e.length : Int)] : (List Int)) : (List Int)).length 8 ∧
  (Inv (wr (x12 + 1)) (l6 ++ ([(e.length : Int)] : (List Int))) ∧ mu (wr (x12 + 1)) (l6 ++ ([(e.length : Int)] : (List Int))) < mu x12 l6)) (∀ r_4 : ((List (List Int)) × Bool × Int), (KraftQ n l6) r_4 →
  (Q ((r_4.2.2 == 0) && r_4.2.1)))))))))))
theorem codeMcMillan_walk (n : Int) (l : (List (List Int))) (Q : Bool → Prop) (h : codeMcMillan_vc n l Q) : Ct 8 [.sv (.one (I n)), .sv (.one (LS (lsT intT) l))] [] Q (fun (r : Bool) => .sv (.one (B r))) := by
  have ht := tab_ok
  refine Ct.body Try.func8 rfl rfl rfl rfl (fun c hn => ?_)
  unfold codeMcMillan_vc at h
  refine En.lenL 1 (by rfl) (fun hl => ?_)
  replace h := h hl
  clear hl
  refine En.seq ?_
  refine En.region ?_
  refine WL.run ht hn 1 ⟨[(0, .sv (.one (I n))), (1, .sv (.one (LS (lsT intT) l)))], []⟩ (by kernel_rfl) ?_
  refine WL.nil ?_
  refine En.seq ?_
  refine En.region ?_
  refine WL.mt0 (K := []) (p := some (0, rowI 3 intT ([0] : (List Int)))) hn (by rfl) (mt_lit (T := intT) ([0] : (List Int)) (mt_bsl 0 (r := cellsOf intT ([0] : (List Int))) ht rfl (by rfl) (by rfl) (by rfl) (by kernel_rfl) (by rfl)) (fun _ h => by cases h) (fun _ => rfl) (fun _ => rfl) (by rfl) (Nat.le_of_ble_eq_true rfl)) (by rfl) (by rfl) (by rfl) ?_
  refine WL.mt0 (K := []) (p := some (1, rowI 3 intT ([0, 1] : (List Int)))) hn (by rfl) (mt_lit (T := intT) ([0, 1] : (List Int)) (mt_bsl 1 (r := cellsOf intT ([0, 1] : (List Int))) ht rfl (by rfl) (by rfl) (by rfl) (by kernel_rfl) (by rfl)) (fun _ h => by cases h) (fun _ => rfl) (fun _ => rfl) (by rfl) (Nat.le_of_ble_eq_true rfl)) (by rfl) (by rfl) (by rfl) ?_
  refine WL.mt0 (K := []) (p := some (2, rowI 3 intT ([1, 0] : (List Int)))) hn (by rfl) (mt_lit (T := intT) ([1, 0] : (List Int)) (mt_bsl 2 (r := cellsOf intT ([1, 0] : (List Int))) ht rfl (by rfl) (by rfl) (by rfl) (by kernel_rfl) (by rfl)) (fun _ h => by cases h) (fun _ => rfl) (fun _ => rfl) (by rfl) (Nat.le_of_ble_eq_true rfl)) (by rfl) (by rfl) (by rfl) ?_
  refine WL.seal (T := intT) (l := ([0] : (List Int))) (e := 3) 0 rfl ?_
  refine WL.run ht hn 0 ⟨[(0, .sv (.one (I n))), (1, .sv (.one (LS (lsT intT) l))), (14, .sv (.one (LS intT ([0] : (List Int))))), (15, .sv (.one (.own 1))), (16, .sv (.one (.own 2)))], [.gone, rowI 3 intT ([0, 1] : (List Int)), rowI 3 intT ([1, 0] : (List Int))]⟩ (by kernel_rfl) ?_
  refine WL.seal (T := intT) (l := ([0, 1] : (List Int))) (e := 3) 1 rfl ?_
  refine WL.run ht hn 0 ⟨[(0, .sv (.one (I n))), (1, .sv (.one (LS (lsT intT) l))), (14, .sv (.one (LS intT ([0] : (List Int))))), (15, .sv (.one (LS intT ([0, 1] : (List Int))))), (16, .sv (.one (.own 2)))], [.gone, .gone, rowI 3 intT ([1, 0] : (List Int))]⟩ (by kernel_rfl) ?_
  refine WL.seal (T := intT) (l := ([1, 0] : (List Int))) (e := 3) 2 rfl ?_
  refine WL.run ht hn 0 ⟨[(0, .sv (.one (I n))), (1, .sv (.one (LS (lsT intT) l))), (14, .sv (.one (LS intT ([0] : (List Int))))), (15, .sv (.one (LS intT ([0, 1] : (List Int))))), (16, .sv (.one (LS intT ([1, 0] : (List Int)))))], [.gone, .gone, .gone]⟩ (by kernel_rfl) ?_
  refine WL.mt0 (K := []) (p := some (3, rowI 23 (lsT intT) ([([0] : (List Int)), ([0, 1] : (List Int)), ([1, 0] : (List Int))] : (List (List Int))))) hn (by rfl) (mt_lit (T := (lsT intT)) ([([0] : (List Int)), ([0, 1] : (List Int)), ([1, 0] : (List Int))] : (List (List Int))) (mt_bsl 3 (r := cellsOf (lsT intT) ([([0] : (List Int)), ([0, 1] : (List Int)), ([1, 0] : (List Int))] : (List (List Int)))) ht rfl (by rfl) (by rfl) (by rfl) (by kernel_rfl) (by rfl)) (fun _ h => by cases h) (fun _ => rfl) (fun _ => rfl) (by rfl) (Nat.le_of_ble_eq_true rfl)) (by rfl) (by rfl) (by rfl) ?_
  refine WL.seal (T := (lsT intT)) (l := ([([0] : (List Int)), ([0, 1] : (List Int)), ([1, 0] : (List Int))] : (List (List Int)))) (e := 23) 3 rfl ?_
  refine WL.run ht hn 0 ⟨[(0, .sv (.one (I n))), (1, .sv (.one (LS (lsT intT) l))), (14, .sv (.one (LS intT ([0] : (List Int))))), (15, .sv (.one (LS intT ([0, 1] : (List Int))))), (16, .sv (.one (LS intT ([1, 0] : (List Int))))), (17, .sv (.one (LS (lsT intT) ([([0] : (List Int)), ([0, 1] : (List Int)), ([1, 0] : (List Int))] : (List (List Int))))))], [.gone, .gone, .gone, .gone]⟩ (by kernel_rfl) ?_
  refine WL.mtQ (Q := UniqQ 2 ([([0] : (List Int)), ([0, 1] : (List Int)), ([1, 0] : (List Int))] : (List (List Int)))) (x := fun (r : ((List Int) × (List Int) × Bool × Int)) => .tup [.one (LS intT r.1), .one (LS intT r.2.1), .one (B r.2.2.1), .one (I r.2.2.2)]) (p := fun _ => none) hn (by rfl) (mtq_call (codUnique_ct 2 ([([0] : (List Int)), ([0, 1] : (List Int)), ([1, 0] : (List Int))] : (List (List Int)))) en28 (caps := []) [] rfl (by rfl) (by kernel_rfl) (by kernel_rfl) (by rfl) (fun _ => rfl) (by rfl)) (fun r hr_2 => ⟨by rfl, _, by rfl, ?_⟩)
  replace h := h r hr_2
  refine WL.run ht hn 9 ⟨[(0, .sv (.one (I n))), (1, .sv (.one (LS (lsT intT) l))), (7, .sv (.one (B r.2.2.1))), (8, .sv (.one (I r.2.2.2)))], [.gone, .gone, .gone, .gone]⟩ (by kernel_rfl) ?_
  refine WL.nil ?_
  refine En.seq ?_
  refine En.seq ?_
  refine En.region ?_
  refine WL.run ht hn 3 ⟨[(0, .sv (.one (I n))), (1, .sv (.one (LS (lsT intT) l))), (7, .sv (.one (B r.2.2.1))), (25, .sv (.one (B (r.2.2.2 != 0))))], [.gone, .gone, .gone, .gone]⟩ (by kernel_rfl) ?_
  refine WL.thru ⟨[(0, .sv (.one (I n))), (1, .sv (.one (LS (lsT intT) l))), (27, .sv (.one (B ((r.2.2.2 != 0) || r.2.2.1))))], [.gone, .gone, .gone, .gone]⟩ ?_ ?_
  · refine splitB (r.2.2.2 != 0) (fun hb0 => ?_) (fun hb0 => ?_)
    · refine WL.setB 25 hb0 (by kernel_rfl) ?_
      refine WL.run ht hn 2 ⟨[(0, .sv (.one (I n))), (1, .sv (.one (LS (lsT intT) l))), (27, .sv (.one (B true)))], [.gone, .gone, .gone, .gone]⟩ (by kernel_rfl) ?_
      exact WL.nil (sub_ok (by simp only [hb0]; kernel_rfl))
    · refine WL.setB 25 hb0 (by kernel_rfl) ?_
      refine WL.run ht hn 2 ⟨[(0, .sv (.one (I n))), (1, .sv (.one (LS (lsT intT) l))), (27, .sv (.one (B r.2.2.1)))], [.gone, .gone, .gone, .gone]⟩ (by kernel_rfl) ?_
      exact WL.nil (sub_ok (by simp only [hb0]; kernel_rfl))
  · refine En.cond (b := ((r.2.2.2 != 0) || r.2.2.1)) (by kernel_rfl) (fun hb => ?_) (fun hb => ?_)
    · replace h := h.1 hb
      refine En.seq ?_
      refine En.region ?_
      refine WL.run ht hn 1 ⟨[(4, .sv (.one (B false)))], [.gone, .gone, .gone, .gone]⟩ (by kernel_rfl) ?_
      refine WL.nil ?_
      refine En.ret ?_
      exact En.back ht false h (by kernel_rfl) rfl
    · replace h := h.2 hb
      refine En.skip ?_
      refine En.seq ?_
      refine En.region ?_
      refine WL.mt0 (K := []) (p := some (4, rowI 3 intT ([1, 1] : (List Int)))) hn (by rfl) (mt_lit (T := intT) ([1, 1] : (List Int)) (mt_bsl 4 (r := cellsOf intT ([1, 1] : (List Int))) ht rfl (by rfl) (by rfl) (by rfl) (by kernel_rfl) (by rfl)) (fun _ h => by cases h) (fun _ => rfl) (fun _ => rfl) (by rfl) (Nat.le_of_ble_eq_true rfl)) (by rfl) (by rfl) (by rfl) ?_
      refine WL.seal (T := intT) (l := ([1, 1] : (List Int))) (e := 3) 4 rfl ?_
      refine WL.run ht hn 0 ⟨[(0, .sv (.one (I n))), (1, .sv (.one (LS (lsT intT) l))), (27, .sv (.one (B ((r.2.2.2 != 0) || r.2.2.1)))), (29, .sv (.one (LS intT ([1, 1] : (List Int)))))], [.gone, .gone, .gone, .gone, .gone]⟩ (by kernel_rfl) ?_
      refine WL.mtQ (Q := KraftQ 2 ([1, 1] : (List Int))) (x := fun (r : ((List (List Int)) × Bool × Int)) => .tup [.one (LS (lsT intT) r.1), .one (B r.2.1), .one (I r.2.2)]) (p := fun _ => none) hn (by rfl) (mtq_call (codKraft_ct 2 ([1, 1] : (List Int))) en29 (caps := []) [] rfl (by rfl) (by kernel_rfl) (by kernel_rfl) (by rfl) (fun _ => rfl) (by rfl)) (fun r_2 hr_2_2 => ⟨by rfl, _, by rfl, ?_⟩)
      replace h := h r_2 hr_2_2
      refine WL.run ht hn 7 ⟨[(0, .sv (.one (I n))), (1, .sv (.one (LS (lsT intT) l))), (8, .sv (.one (I r_2.2.2))), (10, .sv (.one (B r_2.2.1)))], [.gone, .gone, .gone, .gone, .gone]⟩ (by kernel_rfl) ?_
      refine WL.nil ?_
      refine En.seq ?_
      refine En.seq ?_
      refine En.region ?_
      refine WL.run ht hn 3 ⟨[(0, .sv (.one (I n))), (1, .sv (.one (LS (lsT intT) l))), (10, .sv (.one (B r_2.2.1))), (36, .sv (.one (B (r_2.2.2 != 0))))], [.gone, .gone, .gone, .gone, .gone]⟩ (by kernel_rfl) ?_
      refine WL.thru ⟨[(0, .sv (.one (I n))), (1, .sv (.one (LS (lsT intT) l))), (39, .sv (.one (B ((r_2.2.2 != 0) || (!r_2.2.1)))))], [.gone, .gone, .gone, .gone, .gone]⟩ ?_ ?_
      · refine splitB (r_2.2.2 != 0) (fun hb0 => ?_) (fun hb0 => ?_)
        · refine WL.setB 36 hb0 (by kernel_rfl) ?_
          refine WL.run ht hn 3 ⟨[(0, .sv (.one (I n))), (1, .sv (.one (LS (lsT intT) l))), (39, .sv (.one (B true)))], [.gone, .gone, .gone, .gone, .gone]⟩ (by kernel_rfl) ?_
          exact WL.nil (sub_ok (by simp only [hb0]; kernel_rfl))
        · refine WL.setB 36 hb0 (by kernel_rfl) ?_
          refine WL.run ht hn 3 ⟨[(0, .sv (.one (I n))), (1, .sv (.one (LS (lsT intT) l))), (39, .sv (.one (B (!r_2.2.1))))], [.gone, .gone, .gone, .gone, .gone]⟩ (by kernel_rfl) ?_
          exact WL.nil (sub_ok (by simp only [hb0]; kernel_rfl))
      · refine En.cond (b := ((r_2.2.2 != 0) || (!r_2.2.1))) (by kernel_rfl) (fun hb => ?_) (fun hb => ?_)
        · replace h := h.1 hb
          refine En.seq ?_
          refine En.region ?_
          refine WL.run ht hn 1 ⟨[(4, .sv (.one (B false)))], [.gone, .gone, .gone, .gone, .gone]⟩ (by kernel_rfl) ?_
          refine WL.nil ?_
          refine En.ret ?_
          exact En.back ht false h (by kernel_rfl) rfl
        · replace h := h.2 hb
          refine En.skip ?_
          refine En.seq ?_
          refine En.region ?_
          refine WL.run ht hn 2 ⟨[(0, .sv (.one (I n))), (1, .sv (.one (LS (lsT intT) l))), (41, .sv (.one (I n))), (42, .sv (.one (LS (lsT intT) l)))], [.gone, .gone, .gone, .gone, .gone]⟩ (by kernel_rfl) ?_
          refine WL.mtQ (Q := UniqQ n l) (x := fun (r : ((List Int) × (List Int) × Bool × Int)) => .tup [.one (LS intT r.1), .one (LS intT r.2.1), .one (B r.2.2.1), .one (I r.2.2.2)]) (p := fun _ => none) hn (by rfl) (mtq_call (codUnique_ct n l) en28 (caps := []) [] rfl (by rfl) (by kernel_rfl) (by kernel_rfl) (by rfl) (fun _ => rfl) (by rfl)) (fun r_3 hr_3 => ⟨by rfl, _, by rfl, ?_⟩)
          replace h := h r_3 hr_3
          refine WL.run ht hn 7 ⟨[(0, .sv (.one (I n))), (1, .sv (.one (LS (lsT intT) l))), (7, .sv (.one (B r_3.2.2.1))), (8, .sv (.one (I r_3.2.2.2)))], [.gone, .gone, .gone, .gone, .gone]⟩ (by kernel_rfl) ?_
          refine WL.nil ?_
          refine En.seq ?_
          refine En.seq ?_
          refine En.region ?_
          refine WL.run ht hn 3 ⟨[(0, .sv (.one (I n))), (1, .sv (.one (LS (lsT intT) l))), (7, .sv (.one (B r_3.2.2.1))), (50, .sv (.one (B (r_3.2.2.2 != 0))))], [.gone, .gone, .gone, .gone, .gone]⟩ (by kernel_rfl) ?_
          refine WL.thru ⟨[(0, .sv (.one (I n))), (1, .sv (.one (LS (lsT intT) l))), (53, .sv (.one (B ((r_3.2.2.2 != 0) || (!r_3.2.2.1)))))], [.gone, .gone, .gone, .gone, .gone]⟩ ?_ ?_
          · refine splitB (r_3.2.2.2 != 0) (fun hb0 => ?_) (fun hb0 => ?_)
            · refine WL.setB 50 hb0 (by kernel_rfl) ?_
              refine WL.run ht hn 3 ⟨[(0, .sv (.one (I n))), (1, .sv (.one (LS (lsT intT) l))), (53, .sv (.one (B true)))], [.gone, .gone, .gone, .gone, .gone]⟩ (by kernel_rfl) ?_
              exact WL.nil (sub_ok (by simp only [hb0]; kernel_rfl))
            · refine WL.setB 50 hb0 (by kernel_rfl) ?_
              refine WL.run ht hn 3 ⟨[(0, .sv (.one (I n))), (1, .sv (.one (LS (lsT intT) l))), (53, .sv (.one (B (!r_3.2.2.1))))], [.gone, .gone, .gone, .gone, .gone]⟩ (by kernel_rfl) ?_
              exact WL.nil (sub_ok (by simp only [hb0]; kernel_rfl))
          · refine En.cond (b := ((r_3.2.2.2 != 0) || (!r_3.2.2.1))) (by kernel_rfl) (fun hb => ?_) (fun hb => ?_)
            · replace h := h.1 hb
              refine En.seq ?_
              refine En.region ?_
              refine WL.run ht hn 1 ⟨[(4, .sv (.one (B true)))], [.gone, .gone, .gone, .gone, .gone]⟩ (by kernel_rfl) ?_
              refine WL.nil ?_
              refine En.ret ?_
              exact En.back ht true h (by kernel_rfl) rfl
            · replace h := h.2 hb
              refine En.skip ?_
              refine En.seq ?_
              refine En.region ?_
              refine WL.run ht hn 1 ⟨[(0, .sv (.one (I n))), (1, .sv (.one (LS (lsT intT) l))), (11, .sv (.one (.v (.slice none 0 0))))], [.gone, .gone, .gone, .gone, .gone]⟩ (by kernel_rfl) ?_
              refine WL.nil ?_
              refine En.seq ?_
              refine En.seq ?_
              refine En.region ?_
              refine WL.run ht hn 1 ⟨[(0, .sv (.one (I n))), (1, .sv (.one (LS (lsT intT) l))), (11, .sv (.one (.v (.slice none 0 0)))), (12, .sv (.one (I 0)))], [.gone, .gone, .gone, .gone, .gone]⟩ (by kernel_rfl) ?_
              refine WL.nil ?_
              refine En.block ?_
              refine En.rowNil 11 6 3 intT (by rfl) (by rfl) ?_
              obtain ⟨Inv, mu, h0, hI⟩ := h
              refine En.loop (σ := Int × (List Int)) (fun zz => Inv zz.1 zz.2) (fun zz => mu zz.1 zz.2) (fun zz => ⟨[(0, .sv (.one (I n))), (1, .sv (.one (LS (lsT intT) l))), (11, .sv (.one (.own 6))), (12, .sv (.one (I zz.1)))], [.gone, .gone, .gone, .gone, .gone, .gone, rowI 3 intT zz.2]⟩) (0, ([] : (List Int))) h0 (sub_ok (by kernel_rfl)) ?_
              rintro ⟨x12, l6⟩ h
              replace h := hI _ _ h
              show En c ⟨[(0, .sv (.one (I n))), (1, .sv (.one (LS (lsT intT) l))), (11, .sv (.one (.own 6))), (12, .sv (.one (I x12)))], [.gone, .gone, .gone, .gone, .gone, .gone, rowI 3 intT l6]⟩ _
              refine En.seq ?_
              refine En.seq ?_
              refine En.region ?_
              refine WL.run ht hn 4 ⟨[(0, .sv (.one (I n))), (1, .sv (.one (LS (lsT intT) l))), (11, .sv (.one (.own 6))), (12, .sv (.one (I x12))), (57, .sv (.one (B (decide (x12 < (l.length : Int))))))], [.gone, .gone, .gone, .gone, .gone, .gone, rowI 3 intT l6]⟩ (by kernel_rfl) ?_
              refine WL.nil ?_
              refine En.cond (b := (decide (x12 < (l.length : Int)))) (by kernel_rfl) (fun hb => ?_) (fun hb => ?_)
              · replace h := h.1 hb
                refine En.skip ?_
                refine En.seq ?_
                refine En.block ?_
                refine En.region ?_
                refine WL.run ht hn 3 ⟨[(0, .sv (.one (I n))), (1, .sv (.one (LS (lsT intT) l))), (12, .sv (.one (I x12))), (60, .sv (.one (.own 6))), (61, .sv (.one (LS (lsT intT) l))), (62, .sv (.one (I x12)))], [.gone, .gone, .gone, .gone, .gone, .gone, rowI 3 intT l6]⟩ (by kernel_rfl) ?_
                obtain ⟨e, he, h⟩ := h
                refine WL.val hn (by rfl) (val_index (T := (lsT intT)) (l := l) (i := x12) ht rfl (by rfl) (by rfl) (by rfl) (by rfl) (by rfl) (by rfl) he) (by rfl) ?_
                refine WL.val hn (by rfl) (val_load (s := .one (LS intT e)) ht rfl (by rfl) (by rfl) (by rfl) (by rfl) (by rfl)) (by rfl) ?_
                refine WL.run ht hn 1 ⟨[(0, .sv (.one (I n))), (1, .sv (.one (LS (lsT intT) l))), (12, .sv (.one (I x12))), (60, .sv (.one (.own 6))), (65, .sv (.one (I (e.length : Int))))], [.gone, .gone, .gone, .gone, .gone, .gone, rowI 3 intT l6]⟩ (by kernel_rfl) ?_
                refine WL.mt0 (K := []) (p := some (7, rowI 3 intT ([(e.length : Int)] : (List Int)))) hn (by rfl) (mt_lit (T := intT) ([(e.length : Int)] : (List Int)) (mt_bsl 7 (r := cellsOf intT ([(e.length : Int)] : (List Int))) ht rfl (by rfl) (by rfl) (by rfl) (by kernel_rfl) (by rfl)) (fun _ h => by cases h) (fun _ => rfl) (fun _ => rfl) (by rfl) (Nat.le_of_ble_eq_true rfl)) (by rfl) (by rfl) (by rfl) ?_
                refine WL.seal (T := intT) (l := ([(e.length : Int)] : (List Int))) (e := 3) 7 rfl ?_
                refine WL.run ht hn 0 ⟨[(0, .sv (.one (I n))), (1, .sv (.one (LS (lsT intT) l))), (12, .sv (.one (I x12))), (60, .sv (.one (.own 6))), (65, .sv (.one (I (e.length : Int)))), (66, .sv (.one (LS intT ([(e.length : Int)] : (List Int)))))], [.gone, .gone, .gone, .gone, .gone, .gone, rowI 3 intT l6, .gone]⟩ (by kernel_rfl) ?_
                have hp := h.1
                replace h := h.2
                refine WL.mt (S2 := ⟨[(0, .sv (.one (I n))), (1, .sv (.one (LS (lsT intT) l))), (12, .sv (.one (I x12))), (65, .sv (.one (I (e.length : Int)))), (66, .sv (.one (LS intT ([(e.length : Int)] : (List Int)))))], [.gone, .gone, .gone, .gone, .gone, .gone, rowI 3 intT l6, .gone]⟩) (K := [6]) (p := some (6, rowI 3 intT (l6 ++ ([(e.length : Int)] : (List Int))))) hn (by rfl) (mt_append (T := intT) (l := l6) (es := ([(e.length : Int)] : (List Int))) ht rfl (by rfl) (by rfl) (by rfl) (by rfl) (by decide) (by rfl) (by rfl) (srcLS (T := intT) (es := ([(e.length : Int)] : (List Int))) (fun _ h => by cases h) (by decide) (by rfl)) (by exact hp) (by exact hp.le (by decide))) (by kernel_rfl) (by rfl) (by rfl) (by rfl) ?_
                refine WL.run ht hn 1 ⟨[(0, .sv (.one (I n))), (1, .sv (.one (LS (lsT intT) l))), (11, .sv (.one (.own 6))), (12, .sv (.one (I x12)))], [.gone, .gone, .gone, .gone, .gone, .gone, rowI 3 intT (l6 ++ ([(e.length : Int)] : (List Int))), .gone]⟩ (by kernel_rfl) ?_
                refine WL.nil ?_
                refine En.region ?_
                refine WL.run ht hn 3 ⟨[(0, .sv (.one (I n))), (1, .sv (.one (LS (lsT intT) l))), (11, .sv (.one (.own 6))), (12, .sv (.one (I (wr (x12 + 1)))))], [.gone, .gone, .gone, .gone, .gone, .gone, rowI 3 intT (l6 ++ ([(e.length : Int)] : (List Int))), .gone]⟩ (by kernel_rfl) ?_
                refine WL.nil ?_
                exact En.at (I := fun zz => Inv zz.1 zz.2 ∧ mu zz.1 zz.2 < mu x12 l6) (T := fun zz => ⟨[(0, .sv (.one (I n))), (1, .sv (.one (LS (lsT intT) l))), (11, .sv (.one (.own 6))), (12, .sv (.one (I zz.1)))], [.gone, .gone, .gone, .gone, .gone, .gone, rowI 3 intT zz.2]⟩) ((wr (x12 + 1)), (l6 ++ ([(e.length : Int)] : (List Int)))) h (by kernel_rfl)
              · replace h := h.2 hb
                refine En.exit rfl ?_
                refine En.seq ?_
                refine En.region ?_
                refine WL.run ht hn 2 ⟨[(69, .sv (.one (I n))), (70, .sv (.one (.own 6)))], [.gone, .gone, .gone, .gone, .gone, .gone, rowI 3 intT l6]⟩ (by kernel_rfl) ?_
                refine WL.seal (T := intT) (l := l6) (e := 3) 6 rfl ?_
                refine WL.run ht hn 0 ⟨[(69, .sv (.one (I n))), (70, .sv (.one (LS intT l6)))], [.gone, .gone, .gone, .gone, .gone, .gone, .gone]⟩ (by kernel_rfl) ?_
                refine WL.mtQ (Q := KraftQ n l6) (x := fun (r : ((List (List Int)) × Bool × Int)) => .tup [.one (LS (lsT intT) r.1), .one (B r.2.1), .one (I r.2.2)]) (p := fun _ => none) hn (by rfl) (mtq_call (codKraft_ct n l6) en29 (caps := []) [] rfl (by rfl) (by kernel_rfl) (by kernel_rfl) (by rfl) (fun _ => rfl) (by rfl)) (fun r_4 hr_4 => ⟨by rfl, _, by rfl, ?_⟩)
                replace h := h r_4 hr_4
                refine WL.run ht hn 6 ⟨[(8, .sv (.one (I r_4.2.2))), (10, .sv (.one (B r_4.2.1)))], [.gone, .gone, .gone, .gone, .gone, .gone, .gone]⟩ (by kernel_rfl) ?_
                refine WL.nil ?_
                refine En.seq ?_
                refine En.region ?_
                refine WL.run ht hn 3 ⟨[(10, .sv (.one (B r_4.2.1))), (77, .sv (.one (B (r_4.2.2 == 0))))], [.gone, .gone, .gone, .gone, .gone, .gone, .gone]⟩ (by kernel_rfl) ?_
                refine WL.thru ⟨[(4, .sv (.one (B ((r_4.2.2 == 0) && r_4.2.1))))], [.gone, .gone, .gone, .gone, .gone, .gone, .gone]⟩ ?_ ?_
                · refine splitB (r_4.2.2 == 0) (fun hb0 => ?_) (fun hb0 => ?_)
                  · refine WL.setB 77 hb0 (by kernel_rfl) ?_
                    refine WL.run ht hn 3 ⟨[(4, .sv (.one (B r_4.2.1)))], [.gone, .gone, .gone, .gone, .gone, .gone, .gone]⟩ (by kernel_rfl) ?_
                    exact WL.nil (sub_ok (by simp only [hb0]; kernel_rfl))
                  · refine WL.setB 77 hb0 (by kernel_rfl) ?_
                    refine WL.run ht hn 3 ⟨[(4, .sv (.one (B false)))], [.gone, .gone, .gone, .gone, .gone, .gone, .gone]⟩ (by kernel_rfl) ?_
                    exact WL.nil (sub_ok (by simp only [hb0]; kernel_rfl))
                · refine En.ret ?_
                  exact En.back ht ((r_4.2.2 == 0) && r_4.2.1) h (by kernel_rfl) rfl
theorem noRest3 (S : List Int → Prop) (h : RestOk [[0], [0, 1], [1, 0]] S) : False := by
  obtain ⟨_, h1, h2, h3, h4⟩ := h
  have k1 : S [1] := h1 1 0 [1] (by decide) (by decide) (by decide) rfl
  have k2 : S [0] := h3 [1] 2 [0] k1 (by decide) rfl (by decide)
  have k3 : S [] := h2 [0] 0 [] k2 (by decide) rfl
  exact h4 k3
theorem kraft_sum (n : Int) (l : List (List Int)) : ((l.map fun w => (w.length : Int)).map (krW n)).sum = weighM n.toNat 30 l := by
  unfold weighM
  rw [List.map_map]
  congr 1
theorem kraft_ok {n : Int} {l : List (List Int)} (h : CodOk n l) : krErr n (l.map fun w => (w.length : Int)) = 0 := by
  have h1 := h.n14
  have h2 := h.len
  have h3 : ((l.map fun w => (w.length : Int)).any (fun n => (decide (n < 1)) || (decide (n > 30)))) = false := by
    rw [List.any_eq_false]
    intro x hx
    obtain ⟨w, hw, rfl⟩ := List.mem_map.1 hx
    have := h.word w hw
    simp
    omega
  unfold krErr
  rw [if_neg (by simp; omega), if_neg (by simp; omega), if_neg (by rw [h3]; decide)]
theorem codeMcMillan_ct (n : Int) (l : (List (List Int)))  : Ct 8 [.sv (.one (I n)), .sv (.one (LS (lsT intT) l))] [] (fun (_ : Unit) => True) (fun _ => .sv (.one (B (true)))) := by
  refine (codeMcMillan_walk n l (fun res_ => res_ = (true)) ?_).fun
  intro _ r hr
  refine ⟨fun h => ?_, fun _ r2 hr2 => ⟨fun h => ?_, fun _ r3 hr3 => ⟨fun _ => rfl, fun h => ?_⟩⟩⟩
  · exfalso
    have h0 : codErr 2 [[0], [0, 1], [1, 0]] = 0 := by decide
    have h1 : r.2.2.2 = 0 := hr.1.trans h0
    rw [h1] at h
    obtain ⟨S, hS⟩ := hr.2 h0 (by simpa using h)
    exact noRest3 S hS
  · exfalso
    have h0 : krErr 2 [1, 1] = 0 := by decide
    have h1 : r2.2.2 = 0 := hr2.1.trans h0
    rw [h1, hr2.2 h0 (by decide)] at h
    cases h
  · simp only [Bool.or_eq_false_iff, bne_eq_false_iff_eq, Bool.not_eq_false'] at h
    have h0 : codErr n l = 0 := hr3.1.symm.trans h.1
    obtain ⟨S, hS⟩ := hr3.2 h0 h.2
    have hk := codErr_ok h0
    have hl := hk.len
    have hn := hk.n14
    refine ⟨fun i L => ∃ k : Nat, i = k ∧ k ≤ l.length ∧ L = (l.take k).map fun w => (w.length : Int), fun i _ => l.length - i.toNat, ⟨0, rfl, Nat.zero_le _, rfl⟩, ?_⟩
    rintro i L ⟨k, rfl, hkl, rfl⟩
    refine ⟨fun hb => ?_, fun hb r4 hr4 => ?_⟩
    · have hlt := dlt hb
      refine ⟨_, idx_at hlt, capOk_of (by simp only [List.length_map, List.length_take, List.length_cons, List.length_nil]; omega), ⟨k + 1, wsucc (by omega), hlt, ?_⟩, mu_up hlt (by omega)⟩
      rw [List.take_add_one, List.map_append, List.getElem?_eq_getElem hlt]
      rfl
    · rw [List.take_of_length_le (dge hb)] at hr4
      have e0 := kraft_ok hk
      have hm := mcmillan (r := n.toNat) (M := 30) hS (by omega) (fun w hw => by have := hk.word w hw; omega) (fun w hw a ha => by have := hk.let_ w hw a ha; omega)
      show ((r4.2.2 == 0) && r4.2.1) = true
      rw [hr4.1, e0, hr4.2 e0 (by rw [kraft_sum]; exact hm)]
      rfl
end Go.Proofs.Ytiinkohfldopbaa

