/- Lemmas towards the statement: mirrors of functions, and plain laws. No condition. -/
import Derived.Test.YtijgcihlodofdaaGreatDoorPackCardParikhOrder5
namespace Go.Proofs.YtijgcihlodofdaaGreatDoor
open Go.RowKit Go.MapKept
set_option linter.unusedSimpArgs false
set_option linter.unusedVariables false
set_option maxRecDepth 100000
theorem en8 : ∀ args w, (callFunc 8 args).run Tryz.prog w = .ok (.enter 8 args) w := enters_of Tryz.func8 (by kernel_rfl) rfl
def ctdBad (e : Int) : Bool := decide (e < 0) || decide (e > 6)
def ctdR (letters : Int) (c : List Int) (most : Int) : Int := if ((c.length : Int) != letters) = true then 3 else if c.any ctdBad = true then 2 else if c.sum > most then 1 else 0
theorem sum_ctd : ∀ {l : List Int}, l.any ctdBad = false → 0 ≤ l.sum ∧ l.sum ≤ 6 * (l.length : Int)
  | [], _ => by simp
  | e :: l, h => by
    rw [List.any_cons, Bool.or_eq_false_iff] at h
    have ih := sum_ctd h.2
    have h1 := h.1
    unfold ctdBad at h1
    rw [Bool.or_eq_false_iff, decide_eq_false_iff_not, decide_eq_false_iff_not] at h1
    rw [List.sum_cons, List.length_cons]
    omega
theorem any_take {l : List Int} {k : Nat} (hk : k < l.length) : (l.take (k + 1)).any ctdBad = ((l.take k).any ctdBad || ctdBad l[k]) := by
  rw [List.take_add_one, List.any_append, List.getElem?_eq_getElem hk]
  simp
theorem pCtd_ct (letters : Int) (counts : List Int) (most : Int) (hp : letters ≤ 4)  : Ct 14 [.sv (.one (I letters)), .sv (.one (LS intT counts)), .sv (.one (I most))] [] (fun (_ : Unit) => True) (fun _ => .sv (.one (I (ctdR letters counts most)))) := by
  refine (pCtd_walk letters counts most (fun res_ => res_ = (ctdR letters counts most)) ?_).fun
  intro hlen
  refine ⟨fun h => ?_, fun h => ⟨fun s i => ∃ k : Nat, i = k ∧ k ≤ counts.length ∧ s = (counts.take k).sum ∧ (counts.take k).any ctdBad = false, fun _ i => counts.length - i.toNat, ⟨0, rfl, Nat.zero_le _, rfl, rfl⟩, ?_⟩⟩
  · show _ = ctdR _ _ _
    unfold ctdR
    rw [if_pos h]
  · rintro s i ⟨k, rfl, hk, rfl, hb⟩
    have hl4 : counts.length ≤ 4 := by
      have : (counts.length : Int) = letters := by simpa using h
      omega
    refine ⟨fun hlt => ?_, fun hge => ?_⟩
    · have hlt := dlt hlt
      refine ⟨counts[k], idx_at hlt, fun h2 => ?_, fun h2 => ?_⟩
      · show _ = ctdR _ _ _
        unfold ctdR
        rw [if_neg (by rw [h]; decide), if_pos]
        rw [List.any_eq_true]
        exact ⟨_, List.getElem_mem hlt, h2⟩
      · have hb' : (counts.take (k + 1)).any ctdBad = false := by
          rw [any_take hlt, hb]
          exact h2
        have hs := sum_ctd hb'
        have hs2 : (counts.take (k + 1)).sum = (counts.take k).sum + counts[k] := by
          rw [List.take_add_one, List.sum_append, List.getElem?_eq_getElem hlt]
          simp
        have hl : (counts.take (k + 1)).length ≤ 4 := by rw [List.length_take]; omega
        rw [hs2] at hs
        refine ⟨⟨k + 1, wsucc (by omega), hlt, ?_, hb'⟩, mu_up hlt (by omega)⟩
        rw [hs2]
        exact wr_in (by omega) (by omega)
    · have hge := dge hge
      rw [List.take_of_length_le hge] at hb ⊢
      have hne : ((counts.length : Int) != letters) = false := h
      refine ⟨fun h3 => ?_, fun h3 => ?_⟩
      · show _ = ctdR _ _ _
        unfold ctdR
        rw [if_neg (by rw [hne]; decide), if_neg (by rw [hb]; decide), if_pos (of_decide_eq_true h3)]
      · show _ = ctdR _ _ _
        unfold ctdR
        rw [if_neg (by rw [hne]; decide), if_neg (by rw [hb]; decide), if_neg (of_decide_eq_false h3)]
def pChk_vc (d : ApiDet) (counts : List Int) (Q : Int → Prop) : Prop :=
  d.fNext.length ≤ 9223372036854775807 →
  d.fMark.length ≤ 9223372036854775807 →
  counts.length ≤ 9223372036854775807 →
  (IfP ((detErr d) != 0) (Q (detErr d)) (IfP (decide ((d.fNext.length : Int) > 8)) (Q 1) ((d.fLetters ≤ 4) ∧
  Q (ctdR d.fLetters counts 12))))
theorem pChk_walk (d : ApiDet) (counts : List Int) (Q : Int → Prop) (h : pChk_vc d counts Q) : Ct 7 [.sv (.agg [I d.fLetters, I d.fStart, LS (lsT intT) d.fNext, LS intT d.fMark]), .sv (.one (LS intT counts))] [] Q (fun (r : Int) => .sv (.one (I r))) := by
  have ht := tab_ok
  refine Ct.body Tryz.func7 rfl rfl rfl rfl (fun c hn => ?_)
  unfold pChk_vc at h
  refine En.lenA 0 2 (by rfl) (by rfl) (fun hl => ?_)
  replace h := h hl
  clear hl
  refine En.lenA 0 3 (by rfl) (by rfl) (fun hl => ?_)
  replace h := h hl
  clear hl
  refine En.lenL 1 (by rfl) (fun hl => ?_)
  replace h := h hl
  clear hl
  refine En.seq ?_
  refine En.region ?_
  refine WL.run ht hn 2 ⟨[(1, .sv (.one (LS intT counts))), (2, .sv (.one (.ptr 0 0)))], [.box [I d.fLetters, I d.fStart, LS (lsT intT) d.fNext, LS intT d.fMark] 25 false]⟩ (by kernel_rfl) ?_
  refine WL.nil ?_
  refine En.seq ?_
  refine En.seq ?_
  refine En.region ?_
  refine WL.run ht hn 1 ⟨[(1, .sv (.one (LS intT counts))), (2, .sv (.one (.ptr 0 0))), (6, .sv (.agg [I d.fLetters, I d.fStart, LS (lsT intT) d.fNext, LS intT d.fMark]))], [.box [I d.fLetters, I d.fStart, LS (lsT intT) d.fNext, LS intT d.fMark] 25 false]⟩ (by kernel_rfl) ?_
  refine WL.mt0 (K := []) (p := none) hn (by rfl) (mt_call (detCheck_ct d) en13 (caps := []) [] rfl (by rfl) (by kernel_rfl) (by kernel_rfl) (by rfl) (by rfl) (by rfl)) (by rfl) (by rfl) (by rfl) ?_
  refine WL.run ht hn 1 ⟨[(1, .sv (.one (LS intT counts))), (2, .sv (.one (.ptr 0 0))), (5, .sv (.one (I (detErr d))))], [.box [I d.fLetters, I d.fStart, LS (lsT intT) d.fNext, LS intT d.fMark] 25 false]⟩ (by kernel_rfl) ?_
  refine WL.nil ?_
  refine En.seq ?_
  refine En.region ?_
  refine WL.run ht hn 2 ⟨[(1, .sv (.one (LS intT counts))), (2, .sv (.one (.ptr 0 0))), (5, .sv (.one (I (detErr d)))), (9, .sv (.one (B ((detErr d) != 0))))], [.box [I d.fLetters, I d.fStart, LS (lsT intT) d.fNext, LS intT d.fMark] 25 false]⟩ (by kernel_rfl) ?_
  refine WL.nil ?_
  refine En.cond (b := ((detErr d) != 0)) (by kernel_rfl) (fun hb => ?_) (fun hb => ?_)
  · replace h := h.1 hb
    refine En.seq ?_
    refine En.region ?_
    refine WL.run ht hn 2 ⟨[(4, .sv (.one (I (detErr d))))], [.gone]⟩ (by kernel_rfl) ?_
    refine WL.nil ?_
    refine En.ret ?_
    exact En.back ht (detErr d) h (by kernel_rfl) rfl
  · replace h := h.2 hb
    refine En.skip ?_
    refine En.seq ?_
    refine En.seq ?_
    refine En.region ?_
    refine WL.run ht hn 4 ⟨[(1, .sv (.one (LS intT counts))), (2, .sv (.one (.ptr 0 0))), (14, .sv (.one (B (decide ((d.fNext.length : Int) > 8)))))], [.box [I d.fLetters, I d.fStart, LS (lsT intT) d.fNext, LS intT d.fMark] 25 false]⟩ (by kernel_rfl) ?_
    refine WL.nil ?_
    refine En.cond (b := (decide ((d.fNext.length : Int) > 8))) (by kernel_rfl) (fun hb => ?_) (fun hb => ?_)
    · replace h := h.1 hb
      refine En.seq ?_
      refine En.region ?_
      refine WL.run ht hn 1 ⟨[(4, .sv (.one (I 1)))], [.gone]⟩ (by kernel_rfl) ?_
      refine WL.nil ?_
      refine En.ret ?_
      exact En.back ht 1 h (by kernel_rfl) rfl
    · replace h := h.2 hb
      refine En.skip ?_
      refine En.seq ?_
      refine En.region ?_
      refine WL.run ht hn 3 ⟨[(16, .sv (.one (I d.fLetters))), (17, .sv (.one (LS intT counts)))], [.gone]⟩ (by kernel_rfl) ?_
      have hp := h.1
      replace h := h.2
      refine WL.mt0 (K := []) (p := none) hn (by rfl) (mt_call (pCtd_ct d.fLetters counts 12 hp) en14 (caps := []) [] rfl (by rfl) (by kernel_rfl) (by kernel_rfl) (by rfl) (by rfl) (by rfl)) (by rfl) (by rfl) (by rfl) ?_
      refine WL.run ht hn 1 ⟨[(4, .sv (.one (I (ctdR d.fLetters counts 12))))], [.gone]⟩ (by kernel_rfl) ?_
      refine WL.nil ?_
      refine En.ret ?_
      exact En.back ht (ctdR d.fLetters counts 12) h (by kernel_rfl) rfl
theorem en7 : ∀ args w, (callFunc 7 args).run Tryz.prog w = .ok (.enter 7 args) w := enters_of Tryz.func7 (by kernel_rfl) rfl
def chkR (d : ApiDet) (c : List Int) : Int := if (detErr d != 0) = true then detErr d else if (d.fNext.length : Int) > 8 then 1 else ctdR d.fLetters c 12
theorem pChk_ct (d : ApiDet) (counts : List Int)  : Ct 7 [.sv (.agg [I d.fLetters, I d.fStart, LS (lsT intT) d.fNext, LS intT d.fMark]), .sv (.one (LS intT counts))] [] (fun (_ : Unit) => True) (fun _ => .sv (.one (I (chkR d counts)))) := by
  refine (pChk_walk d counts (fun res_ => res_ = (chkR d counts)) ?_).fun
  intro _ _ _
  refine ⟨fun h => ?_, fun h => ⟨fun h2 => ?_, fun h2 => ⟨?_, ?_⟩⟩⟩
  · show _ = chkR _ _
    unfold chkR
    rw [if_pos h]
  · show _ = chkR _ _
    unfold chkR
    rw [if_neg (by rw [h]; decide), if_pos (of_decide_eq_true h2)]
  · have h : detErr d = 0 := by simpa using h
    exact ((detErr_iff d).1 h).letters.2
  · show _ = chkR _ _
    unfold chkR
    rw [if_neg (by rw [h]; decide), if_neg (of_decide_eq_false h2)]
theorem one_ok {k : Int} (h1 : 1 ≤ k) (h4 : k ≤ 4) : detErr (oneD k) = 0 := (detErr_iff _).2 ⟨⟨h1, h4⟩, ⟨Nat.le_refl _, by show 1 ≤ 3000; decide⟩, rfl, fun r hr => by
  have : r = List.replicate k.toNat 0 := List.mem_singleton.1 hr
  rw [this, List.length_replicate]
  show ((k.toNat : Nat) : Int) = k
  omega, ⟨Int.le_refl _, by show (0 : Int) < 1; decide⟩, fun r hr p hp => by
  have : r = List.replicate k.toNat 0 := List.mem_singleton.1 hr
  rw [this] at hp
  have := (List.mem_replicate.1 hp).2
  subst this
  exact ⟨Int.le_refl _, by show (0 : Int) < 1; decide⟩, fun m hm => .inr (List.mem_singleton.1 hm)⟩
theorem chk_one {k : Int} {c : List Int} (h1 : 1 ≤ k) (h4 : k ≤ 4) : chkR (oneD k) c = ctdR k c 12 := by
  unfold chkR
  rw [if_neg (by rw [one_ok h1 h4]; decide), if_neg (by show ¬ ((1 : Int) > 8); decide)]
  rfl
structure CtdOk (k : Int) (c : List Int) : Prop where
  len : (c.length : Int) = k
  in_ : ∀ e ∈ c, 0 ≤ e ∧ e ≤ 6
  sum : c.sum ≤ 12
theorem ctd_ok {k : Int} {c : List Int} (h : ctdR k c 12 = 0) : CtdOk k c := by
  unfold ctdR at h
  by_cases h1 : ((c.length : Int) != k) = true
  · rw [if_pos h1] at h; cases h
  rw [if_neg h1] at h
  by_cases h2 : c.any ctdBad = true
  · rw [if_pos h2] at h; cases h
  rw [if_neg h2] at h
  by_cases h3 : c.sum > 12
  · rw [if_pos h3] at h; cases h
  refine ⟨by simpa using h1, fun e he => ?_, by omega⟩
  have := List.any_eq_false.1 (by simpa using h2) e he
  unfold ctdBad at this
  simp only [Bool.or_eq_true, decide_eq_true_eq, not_or] at this
  omega
theorem CtdOk.place {k : Int} {c : List Int} (h : CtdOk k c) (h1 : 1 ≤ k) (h4 : k ≤ 4) : PlOk k (begunR (oneD k) c) := by
  have hl := h.len
  have hi := h.in_
  have hs := h.sum
  match c, hl, hi, hs with
  | [], hl, _, _ => simp at hl; omega
  | [a], hl, hi, hs =>
    have ha := hi a (by simp)
    refine ⟨rfl, ⟨ha.1, Int.le_refl _, Int.le_refl _, Int.le_refl _⟩, ⟨fun _ => rfl, fun _ => rfl, fun _ => rfl⟩, ?_⟩
    show a + 0 + 0 + 0 ≤ 12
    simp only [List.sum_cons, List.sum_nil] at hs
    omega
  | [a, b], hl, hi, hs =>
    have ha := hi a (by simp)
    have hb := hi b (by simp)
    refine ⟨rfl, ⟨ha.1, hb.1, Int.le_refl _, Int.le_refl _⟩, ⟨fun h => ?_, fun _ => rfl, fun _ => rfl⟩, ?_⟩
    · simp only [List.length_cons, List.length_nil] at hl
      omega
    · show a + b + 0 + 0 ≤ 12
      simp only [List.sum_cons, List.sum_nil] at hs
      omega
  | [a, b, d], hl, hi, hs =>
    have ha := hi a (by simp)
    have hb := hi b (by simp)
    have hd := hi d (by simp)
    refine ⟨rfl, ⟨ha.1, hb.1, hd.1, Int.le_refl _⟩, ⟨fun h => ?_, fun h => ?_, fun _ => rfl⟩, ?_⟩
    · simp only [List.length_cons, List.length_nil] at hl
      omega
    · simp only [List.length_cons, List.length_nil] at hl
      omega
    · show a + b + d + 0 ≤ 12
      simp only [List.sum_cons, List.sum_nil] at hs
      omega
  | [a, b, d, e], hl, hi, hs =>
    have ha := hi a (by simp)
    have hb := hi b (by simp)
    have hd := hi d (by simp)
    have he := hi e (by simp)
    refine ⟨rfl, ⟨ha.1, hb.1, hd.1, he.1⟩, ⟨fun h => ?_, fun h => ?_, fun h => ?_⟩, ?_⟩
    · simp only [List.length_cons, List.length_nil] at hl
      omega
    · simp only [List.length_cons, List.length_nil] at hl
      omega
    · simp only [List.length_cons, List.length_nil] at hl
      omega
    · show a + b + d + e ≤ 12
      simp only [List.sum_cons, List.sum_nil] at hs
      omega
  | _ :: _ :: _ :: _ :: _ :: _, hl, _, _ => simp only [List.length_cons] at hl; omega
def firstW (x : St38) : List Int := List.replicate x.fE0.toNat 0 ++ (List.replicate x.fE1.toNat 1 ++ (List.replicate x.fE2.toNat 2 ++ List.replicate x.fE3.toNat 3))
theorem first_len {k : Int} {p : ParikhPlace} (h : PlOk k p) : (firstW p.fLeft).length ≤ 12 := by
  have h1 := h.nn
  have h2 := h.sum
  unfold sumE at h2
  unfold firstW
  simp only [List.length_append, List.length_replicate]
  omega
theorem first_step {k : Int} {p : ParikhPlace} (h : PlOk k p) {j : Nat} (hj : j < 4) (h0 : 0 < arrG p.fLeft.l (j : Int)) (hz : ∀ i : Nat, i < j → arrG p.fLeft.l (i : Int) = 0) : firstW p.fLeft = (j : Int) :: firstW (lessE p.fLeft (j : Int)) := by
  have hn := h.nn
  have z0 : 0 < j → p.fLeft.fE0 = 0 := fun c => (arr0 _).symm.trans (hz 0 c)
  have z1 : 1 < j → p.fLeft.fE1 = 0 := fun c => (arr1 _).symm.trans (hz 1 c)
  have z2 : 2 < j → p.fLeft.fE2 = 0 := fun c => (arr2 _).symm.trans (hz 2 c)
  have up : ∀ (e : Int) (v : Int), 0 < e → List.replicate e.toNat v = v :: List.replicate (e - 1).toNat v := fun e v he => by
    rw [show e.toNat = (e - 1).toNat + 1 by omega, List.replicate_succ]
  rcases four hj with rfl | rfl | rfl | rfl
  · show _ = 0 :: firstW (lessE p.fLeft 0)
    replace h0 : 0 < p.fLeft.fE0 := by rw [← arr0]; exact h0
    rw [less0]
    unfold firstW
    rw [up _ _ h0]
    rfl
  · show _ = 1 :: firstW (lessE p.fLeft 1)
    replace h0 : 0 < p.fLeft.fE1 := by rw [← arr1]; exact h0
    rw [less1]
    unfold firstW
    rw [z0 (by decide), up _ _ h0]
    rfl
  · show _ = 2 :: firstW (lessE p.fLeft 2)
    replace h0 : 0 < p.fLeft.fE2 := by rw [← arr2]; exact h0
    rw [less2]
    unfold firstW
    rw [z0 (by decide), z1 (by decide), up _ _ h0]
    rfl
  · show _ = 3 :: firstW (lessE p.fLeft 3)
    replace h0 : 0 < p.fLeft.fE3 := by rw [← arr3]; exact h0
    rw [less3]
    unfold firstW
    rw [z0 (by decide), z1 (by decide), z2 (by decide), up _ _ h0]
    rfl
theorem left_zero {k : Nat} {p : ParikhPlace} (h : PlOk k p) (h1 : 1 ≤ k) (hz : ∀ i : Nat, i < k → arrG p.fLeft.l (i : Int) = 0) : p.fLeft = ⟨0, 0, 0, 0⟩ := by
  have hf := h.far
  have e0 : p.fLeft.fE0 = 0 := (arr0 _).symm.trans (hz 0 (by omega))
  have e1 : p.fLeft.fE1 = 0 := by
    by_cases c : 1 < k
    · exact (arr1 _).symm.trans (hz 1 c)
    · exact hf.1 (by omega)
  have e2 : p.fLeft.fE2 = 0 := by
    by_cases c : 2 < k
    · exact (arr2 _).symm.trans (hz 2 c)
    · exact hf.2.1 (by omega)
  have e3 : p.fLeft.fE3 = 0 := by
    by_cases c : 3 < k
    · exact (arr3 _).symm.trans (hz 3 c)
    · exact hf.2.2 (by omega)
  exact (show p.fLeft = ⟨p.fLeft.fE0, p.fLeft.fE1, p.fLeft.fE2, p.fLeft.fE3⟩ from rfl).trans (by rw [e0, e1, e2, e3])
theorem arr_le {k : Int} {p : ParikhPlace} (h : PlOk k p) {j : Nat} (hj : j < 4) : arrG p.fLeft.l (j : Int) ≤ 12 := by
  have h1 := h.nn
  have h3 := h.sum
  unfold sumE at h3
  rcases four hj with rfl | rfl | rfl | rfl
  · rw [show arrG p.fLeft.l ((0 : Nat) : Int) = p.fLeft.fE0 from arr0 _]; omega
  · rw [show arrG p.fLeft.l ((1 : Nat) : Int) = p.fLeft.fE1 from arr1 _]; omega
  · rw [show arrG p.fLeft.l ((2 : Nat) : Int) = p.fLeft.fE2 from arr2 _]; omega
  · rw [show arrG p.fLeft.l ((3 : Nat) : Int) = p.fLeft.fE3 from arr3 _]; omega
theorem arr_nn {k : Int} {p : ParikhPlace} (h : PlOk k p) {j : Nat} (hj : j < 4) : 0 ≤ arrG p.fLeft.l (j : Int) := by
  have h1 := h.nn
  rcases four hj with rfl | rfl | rfl | rfl
  · rw [show arrG p.fLeft.l ((0 : Nat) : Int) = p.fLeft.fE0 from arr0 _]; omega
  · rw [show arrG p.fLeft.l ((1 : Nat) : Int) = p.fLeft.fE1 from arr1 _]; omega
  · rw [show arrG p.fLeft.l ((2 : Nat) : Int) = p.fLeft.fE2 from arr2 _]; omega
  · rw [show arrG p.fLeft.l ((3 : Nat) : Int) = p.fLeft.fE3 from arr3 _]; omega
def wordR (d : ApiDet) (c : List Int) : List Int × Bool × Int := if (chkR d c != 0) = true then ([], false, chkR d c) else (firstW (begunR d c).fLeft, true, 0)
def pWord_vc (d : ApiDet) (counts : List Int) (Q : ((List Int) × Bool × Int) → Prop) : Prop :=
  d.fNext.length ≤ 9223372036854775807 →
  d.fMark.length ≤ 9223372036854775807 →
  counts.length ≤ 9223372036854775807 →
  (IfP ((chkR d counts) != 0) (Q ([], false, (chkR d counts))) (((counts).length ≤ 4) ∧
  (WayPre d ([] : List (ParikhPlace × (Option MathBigInt))) (begunR d counts) 13) ∧
  ∀ r : (List (ParikhPlace × (Option MathBigInt))), (MOk) r →
  ((∃ u, (numR (wL ((begunR d counts)).fLeft)) = numR u) ∧
  IfP ((signR (numR (wL ((begunR d counts)).fLeft))) == 0) (Q ([], false, 0)) (∃ (Inv : (List (ParikhPlace × (Option MathBigInt))) → ParikhPlace → (List Int) → Prop) (mu : (List (ParikhPlace × (Option MathBigInt))) → ParikhPlace → (List Int) → Nat), Inv r (begunR d counts) ([] : List Int) ∧
  ∀ (m1 : List (ParikhPlace × (Option MathBigInt))) (y3 : ParikhPlace) (l4 : List Int) , Inv m1 y3 l4 → (IfP (!(decide (y3.fLeft = (St38.mk 0 0 0 0)))) (∃ (Inv_2 : Int → (List (ParikhPlace × (Option MathBigInt))) → Prop) (mu_2 : Int → (List (ParikhPlace × (Option MathBigInt))) → Nat), Inv_2 0 m1 ∧
  ∀ (x35 : Int) (m1_2 : List (ParikhPlace × (Option MathBigInt))) , Inv_2 x35 m1_2 → (IfP (decide (x35 < d.fLetters)) (∃ J : Bool → (List (ParikhPlace × (Option MathBigInt))) → Prop, ((0 ≤ x35 ∧ x35 < 4) ∧
  IfP (decide ((arrG (St38.l y3.fLeft) x35) > 0)) ((BehPre d y3 x35) ∧
  (WayPre d m1_2 (behR y3 x35) 13) ∧
  ∀ r_2 : (List (ParikhPlace × (Option MathBigInt))), (MOk) r_2 →
  ((∃ u, (numR (wL ((behR y3 x35)).fLeft)) = numR u) ∧
  J (decide ((signR (numR (wL ((behR y3 x35)).fLeft))) > 0)) r_2)) (J false m1_2)) ∧
  (∀ (x52 : Bool) (m1_3 : List (ParikhPlace × (Option MathBigInt))), J x52 m1_3 → IfP x52 (capOk l4.length (([x35] : List Int) : List Int).length 8 ∧
  (BehPre d y3 x35) ∧
  (Inv m1_3 (behR y3 x35) (l4 ++ ([x35] : List Int)) ∧ mu m1_3 (behR y3 x35) (l4 ++ ([x35] : List Int)) < mu m1 y3 l4)) ((Inv_2 (wr (x35 + 1)) m1_3 ∧ mu_2 (wr (x35 + 1)) m1_3 < mu_2 x35 m1_2)))) ((Inv m1_2 y3 l4 ∧ mu m1_2 y3 l4 < mu m1 y3 l4)))) (Q (l4, true, 0)))))))
set_option maxHeartbeats 2000000 in
theorem pWord_walk (d : ApiDet) (counts : List Int) (Q : ((List Int) × Bool × Int) → Prop) (h : pWord_vc d counts Q) : Ct 4 [.sv (.agg [I d.fLetters, I d.fStart, LS (lsT intT) d.fNext, LS intT d.fMark]), .sv (.one (LS intT counts))] [] Q (fun (r : ((List Int) × Bool × Int)) => .tup [.one (LS intT r.1), .one (B r.2.1), .one (I r.2.2)]) := by
  have ht := tab_ok
  refine Ct.body Tryz.func4 rfl rfl rfl rfl (fun c hn => ?_)
  unfold pWord_vc at h
  refine En.lenA 0 2 (by rfl) (by rfl) (fun hl => ?_)
  replace h := h hl
  clear hl
  refine En.lenA 0 3 (by rfl) (by rfl) (fun hl => ?_)
  replace h := h hl
  clear hl
  refine En.lenL 1 (by rfl) (fun hl => ?_)
  replace h := h hl
  clear hl
  refine En.seq ?_
  refine En.region ?_
  refine WL.run ht hn 4 ⟨[(1, .sv (.one (LS intT counts))), (2, .sv (.one (.ptr 0 0))), (4, .sv (.one (.v (.slice none 0 0))))], [.box [I d.fLetters, I d.fStart, LS (lsT intT) d.fNext, LS intT d.fMark] 25 false]⟩ (by kernel_rfl) ?_
  refine WL.nil ?_
  refine En.seq ?_
  refine En.seq ?_
  refine En.region ?_
  refine WL.run ht hn 2 ⟨[(1, .sv (.one (LS intT counts))), (2, .sv (.one (.ptr 0 0))), (4, .sv (.one (.v (.slice none 0 0)))), (11, .sv (.agg [I d.fLetters, I d.fStart, LS (lsT intT) d.fNext, LS intT d.fMark])), (12, .sv (.one (LS intT counts)))], [.box [I d.fLetters, I d.fStart, LS (lsT intT) d.fNext, LS intT d.fMark] 25 false]⟩ (by kernel_rfl) ?_
  refine WL.mt0 (K := []) (p := none) hn (by rfl) (mt_call (pChk_ct d counts) en7 (caps := []) [] rfl (by rfl) (by kernel_rfl) (by kernel_rfl) (by rfl) (by rfl) (by rfl)) (by rfl) (by rfl) (by rfl) ?_
  refine WL.run ht hn 1 ⟨[(1, .sv (.one (LS intT counts))), (2, .sv (.one (.ptr 0 0))), (4, .sv (.one (.v (.slice none 0 0)))), (7, .sv (.one (I (chkR d counts))))], [.box [I d.fLetters, I d.fStart, LS (lsT intT) d.fNext, LS intT d.fMark] 25 false]⟩ (by kernel_rfl) ?_
  refine WL.nil ?_
  refine En.seq ?_
  refine En.region ?_
  refine WL.run ht hn 2 ⟨[(1, .sv (.one (LS intT counts))), (2, .sv (.one (.ptr 0 0))), (4, .sv (.one (.v (.slice none 0 0)))), (7, .sv (.one (I (chkR d counts)))), (15, .sv (.one (B ((chkR d counts) != 0))))], [.box [I d.fLetters, I d.fStart, LS (lsT intT) d.fNext, LS intT d.fMark] 25 false]⟩ (by kernel_rfl) ?_
  refine WL.nil ?_
  refine En.cond (b := ((chkR d counts) != 0)) (by kernel_rfl) (fun hb => ?_) (fun hb => ?_)
  · replace h := h.1 hb
    refine En.seq ?_
    refine En.region ?_
    refine WL.run ht hn 4 ⟨[(4, .sv (.one (.v (.slice none 0 0)))), (5, .sv (.one (B false))), (6, .sv (.one (I (chkR d counts))))], [.gone]⟩ (by kernel_rfl) ?_
    refine WL.nil ?_
    refine En.ret ?_
    refine En.nilLS 4 intT (by rfl) ?_
    exact En.back ht ([], false, (chkR d counts)) h (by kernel_rfl) rfl
  · replace h := h.2 hb
    refine En.skip ?_
    refine En.seq ?_
    refine En.region ?_
    refine WL.run ht hn 1 ⟨[(1, .sv (.one (LS intT counts))), (2, .sv (.one (.ptr 0 0))), (4, .sv (.one (.v (.slice none 0 0)))), (17, .sv (.agg [I d.fLetters, I d.fStart, LS (lsT intT) d.fNext, LS intT d.fMark]))], [.box [I d.fLetters, I d.fStart, LS (lsT intT) d.fNext, LS intT d.fMark] 25 false]⟩ (by kernel_rfl) ?_
    refine WL.mt0 (K := []) (p := some (1, mapI ParikhPlace.enc (optT MathBigInt.ty) ([] : List (ParikhPlace × (Option MathBigInt))))) hn (by rfl) (mt_makeMap ParikhPlace.enc (optT MathBigInt.ty) 1 rfl) (by rfl) (by rfl) (by rfl) ?_
    refine WL.run ht hn 3 ⟨[(1, .sv (.one (LS intT counts))), (2, .sv (.one (.ptr 0 0))), (4, .sv (.one (.v (.slice none 0 0)))), (8, .sv (.one (.ptr 2 0)))], [.box [I d.fLetters, I d.fStart, LS (lsT intT) d.fNext, LS intT d.fMark] 25 false, mapI ParikhPlace.enc (optT MathBigInt.ty) ([] : List (ParikhPlace × (Option MathBigInt))), .box [I d.fLetters, I d.fStart, LS (lsT intT) d.fNext, LS intT d.fMark, .own 1] 37 false]⟩ (by kernel_rfl) ?_
    refine WL.nil ?_
    refine En.seq ?_
    refine En.region ?_
    refine WL.run ht hn 2 ⟨[(2, .sv (.one (.ptr 0 0))), (4, .sv (.one (.v (.slice none 0 0)))), (8, .sv (.one (.ptr 2 0))), (21, .sv (.agg [I d.fLetters, I d.fStart, LS (lsT intT) d.fNext, LS intT d.fMark])), (22, .sv (.one (LS intT counts)))], [.box [I d.fLetters, I d.fStart, LS (lsT intT) d.fNext, LS intT d.fMark] 25 false, mapI ParikhPlace.enc (optT MathBigInt.ty) ([] : List (ParikhPlace × (Option MathBigInt))), .box [I d.fLetters, I d.fStart, LS (lsT intT) d.fNext, LS intT d.fMark, .own 1] 37 false]⟩ (by kernel_rfl) ?_
    have hp := h.1
    replace h := h.2
    refine WL.mt0 (K := []) (p := none) hn (by rfl) (mt_call (begun_ct d counts hp) en8 (caps := []) [] rfl (by rfl) (by kernel_rfl) (by kernel_rfl) (by rfl) (by rfl) (by rfl)) (by rfl) (by rfl) (by rfl) ?_
    refine WL.run ht hn 2 ⟨[(2, .sv (.one (.ptr 0 0))), (4, .sv (.one (.v (.slice none 0 0)))), (8, .sv (.one (.ptr 2 0))), (9, .sv (.one (.ptr 3 0)))], [.box [I d.fLetters, I d.fStart, LS (lsT intT) d.fNext, LS intT d.fMark] 25 false, mapI ParikhPlace.enc (optT MathBigInt.ty) ([] : List (ParikhPlace × (Option MathBigInt))), .box [I d.fLetters, I d.fStart, LS (lsT intT) d.fNext, LS intT d.fMark, .own 1] 37 false, .box [I (begunR d counts).fQ, I (begunR d counts).fLeft.fE0, I (begunR d counts).fLeft.fE1, I (begunR d counts).fLeft.fE2, I (begunR d counts).fLeft.fE3] 40 false]⟩ (by kernel_rfl) ?_
    refine WL.nil ?_
    refine En.seq ?_
    refine En.seq ?_
    refine En.region ?_
    refine WL.run ht hn 2 ⟨[(2, .sv (.one (.ptr 0 0))), (4, .sv (.one (.v (.slice none 0 0)))), (8, .sv (.one (.ptr 2 0))), (9, .sv (.one (.ptr 3 0))), (24, .sv (.one (.ptr 2 0))), (25, .sv (.agg [I (begunR d counts).fQ, I (begunR d counts).fLeft.fE0, I (begunR d counts).fLeft.fE1, I (begunR d counts).fLeft.fE2, I (begunR d counts).fLeft.fE3]))], [.box [I d.fLetters, I d.fStart, LS (lsT intT) d.fNext, LS intT d.fMark] 25 false, mapI ParikhPlace.enc (optT MathBigInt.ty) ([] : List (ParikhPlace × (Option MathBigInt))), .box [I d.fLetters, I d.fStart, LS (lsT intT) d.fNext, LS intT d.fMark, .own 1] 37 false, .box [I (begunR d counts).fQ, I (begunR d counts).fLeft.fE0, I (begunR d counts).fLeft.fE1, I (begunR d counts).fLeft.fE2, I (begunR d counts).fLeft.fE3] 40 false]⟩ (by kernel_rfl) ?_
    have hp := h.1
    replace h := h.2
    refine WL.callQ [(2, .sv (.one (.ptr 0 0))), (4, .sv (.one (.v (.slice none 0 0)))), (8, .sv (.one (.ptr 2 0))), (9, .sv (.one (.ptr 3 0))), (24, .sv (.one (.ptr 2 0))), (25, .sv (.agg [I (begunR d counts).fQ, I (begunR d counts).fLeft.fE0, I (begunR d counts).fLeft.fE1, I (begunR d counts).fLeft.fE2, I (begunR d counts).fLeft.fE3]))] (pWay_ct d ([] : List (ParikhPlace × (Option MathBigInt))) (begunR d counts) hp) en9 (caps := []) [2, 1] hn (by rfl) rfl (by rfl) (argsAs (by kernel_rfl) (by rfl)) (by kernel_rfl) (by decide) (by kernel_rfl) (by rfl) (by rfl) (fun r hr_2 => ⟨by rfl, _, by rfl, ?_⟩)
    replace h := h r hr_2
    have hp := h.1
    replace h := h.2
    refine WL.mt0 (K := []) (p := none) hn (by rfl) (mt_call (bSign_ct (numR (wL ((begunR d counts)).fLeft)) hp) en10 (caps := []) [] rfl (by rfl) (by kernel_rfl) (by kernel_rfl) (by rfl) (by rfl) (by rfl)) (by rfl) (by rfl) (by rfl) ?_
    refine WL.run ht hn 1 ⟨[(2, .sv (.one (.ptr 0 0))), (4, .sv (.one (.v (.slice none 0 0)))), (8, .sv (.one (.ptr 2 0))), (9, .sv (.one (.ptr 3 0))), (28, .sv (.one (B ((signR (numR (wL ((begunR d counts)).fLeft))) == 0))))], [.box [I d.fLetters, I d.fStart, LS (lsT intT) d.fNext, LS intT d.fMark] 25 false, mapI ParikhPlace.enc (optT MathBigInt.ty) r, .box [I d.fLetters, I d.fStart, LS (lsT intT) d.fNext, LS intT d.fMark, .own 1] 37 false, .box [I (begunR d counts).fQ, I (begunR d counts).fLeft.fE0, I (begunR d counts).fLeft.fE1, I (begunR d counts).fLeft.fE2, I (begunR d counts).fLeft.fE3] 40 false]⟩ (by kernel_rfl) ?_
    refine WL.nil ?_
    refine En.cond (b := ((signR (numR (wL ((begunR d counts)).fLeft))) == 0)) (by kernel_rfl) (fun hb => ?_) (fun hb => ?_)
    · replace h := h.1 hb
      refine En.seq ?_
      refine En.region ?_
      refine WL.run ht hn 3 ⟨[(4, .sv (.one (.v (.slice none 0 0)))), (5, .sv (.one (B false))), (6, .sv (.one (I 0)))], [.gone, .gone, .gone, .gone]⟩ (by kernel_rfl) ?_
      refine WL.nil ?_
      refine En.ret ?_
      refine En.nilLS 4 intT (by rfl) ?_
      exact En.back ht ([], false, 0) h (by kernel_rfl) rfl
    · replace h := h.2 hb
      refine En.skip ?_
      refine En.seq ?_
      refine En.block ?_
      refine En.rowNil 4 4 3 intT (by rfl) (by rfl) ?_
      obtain ⟨Inv, mu, h0_2, hI_2⟩ := h
      refine En.loop (σ := (List (ParikhPlace × (Option MathBigInt))) × ParikhPlace × (List Int)) (fun zz => Inv zz.1 zz.2.1 zz.2.2) (fun zz => mu zz.1 zz.2.1 zz.2.2) (fun zz => ⟨[(2, .sv (.one (.ptr 0 0))), (4, .sv (.one (.own 4))), (8, .sv (.one (.ptr 2 0))), (9, .sv (.one (.ptr 3 0)))], [.box [I d.fLetters, I d.fStart, LS (lsT intT) d.fNext, LS intT d.fMark] 25 false, mapI ParikhPlace.enc (optT MathBigInt.ty) zz.1, .box [I d.fLetters, I d.fStart, LS (lsT intT) d.fNext, LS intT d.fMark, .own 1] 37 false, .box [I zz.2.1.fQ, I zz.2.1.fLeft.fE0, I zz.2.1.fLeft.fE1, I zz.2.1.fLeft.fE2, I zz.2.1.fLeft.fE3] 40 false, rowI 3 intT zz.2.2]⟩) (r, (begunR d counts), ([] : List Int)) h0_2 (sub_ok (by kernel_rfl)) ?_
      rintro ⟨m1, y3, l4⟩ h
      replace h := hI_2 _ _ _ h
      show En c ⟨[(2, .sv (.one (.ptr 0 0))), (4, .sv (.one (.own 4))), (8, .sv (.one (.ptr 2 0))), (9, .sv (.one (.ptr 3 0)))], [.box [I d.fLetters, I d.fStart, LS (lsT intT) d.fNext, LS intT d.fMark] 25 false, mapI ParikhPlace.enc (optT MathBigInt.ty) m1, .box [I d.fLetters, I d.fStart, LS (lsT intT) d.fNext, LS intT d.fMark, .own 1] 37 false, .box [I y3.fQ, I y3.fLeft.fE0, I y3.fLeft.fE1, I y3.fLeft.fE2, I y3.fLeft.fE3] 40 false, rowI 3 intT l4]⟩ _
      refine En.seq ?_
      refine En.seq ?_
      refine En.region ?_
      refine WL.run ht hn 3 ⟨[(2, .sv (.one (.ptr 0 0))), (4, .sv (.one (.own 4))), (8, .sv (.one (.ptr 2 0))), (9, .sv (.one (.ptr 3 0))), (30, .sv (.agg [I y3.fLeft.fE0, I y3.fLeft.fE1, I y3.fLeft.fE2, I y3.fLeft.fE3])), (31, .sv (.agg [I 0, I 0, I 0, I 0]))], [.box [I d.fLetters, I d.fStart, LS (lsT intT) d.fNext, LS intT d.fMark] 25 false, mapI ParikhPlace.enc (optT MathBigInt.ty) m1, .box [I d.fLetters, I d.fStart, LS (lsT intT) d.fNext, LS intT d.fMark, .own 1] 37 false, .box [I y3.fQ, I y3.fLeft.fE0, I y3.fLeft.fE1, I y3.fLeft.fE2, I y3.fLeft.fE3] 40 false, rowI 3 intT l4]⟩ (by kernel_rfl) ?_
      refine WL.val hn (by rfl) (val_eqA St38.keyLaw (u := y3.fLeft) (v := (St38.mk 0 0 0 0)) rfl (by rfl) (by rfl) rfl rfl (by kernel_rfl) (.inr ⟨rfl, rfl⟩)) (by rfl) ?_
      refine WL.nil ?_
      refine En.cond (b := (!(decide (y3.fLeft = (St38.mk 0 0 0 0))))) (by kernel_rfl) (fun hb => ?_) (fun hb => ?_)
      · replace h := h.1 hb
        refine En.skip ?_
        refine En.block ?_
        refine En.seq ?_
        refine En.region ?_
        refine WL.run ht hn 3 ⟨[(2, .sv (.one (.ptr 0 0))), (4, .sv (.one (.own 4))), (8, .sv (.one (.ptr 2 0))), (9, .sv (.one (.ptr 3 0))), (34, .sv (.one (I d.fLetters))), (35, .sv (.one (I 0)))], [.box [I d.fLetters, I d.fStart, LS (lsT intT) d.fNext, LS intT d.fMark] 25 false, mapI ParikhPlace.enc (optT MathBigInt.ty) m1, .box [I d.fLetters, I d.fStart, LS (lsT intT) d.fNext, LS intT d.fMark, .own 1] 37 false, .box [I y3.fQ, I y3.fLeft.fE0, I y3.fLeft.fE1, I y3.fLeft.fE2, I y3.fLeft.fE3] 40 false, rowI 3 intT l4]⟩ (by kernel_rfl) ?_
        refine WL.nil ?_
        refine En.block ?_
        obtain ⟨Inv_2, mu_2, h0, hI⟩ := h
        refine En.loop (σ := Int × (List (ParikhPlace × (Option MathBigInt)))) (fun zz => Inv_2 zz.1 zz.2) (fun zz => mu_2 zz.1 zz.2) (fun zz => ⟨[(2, .sv (.one (.ptr 0 0))), (4, .sv (.one (.own 4))), (8, .sv (.one (.ptr 2 0))), (9, .sv (.one (.ptr 3 0))), (34, .sv (.one (I d.fLetters))), (35, .sv (.one (I zz.1)))], [.box [I d.fLetters, I d.fStart, LS (lsT intT) d.fNext, LS intT d.fMark] 25 false, mapI ParikhPlace.enc (optT MathBigInt.ty) zz.2, .box [I d.fLetters, I d.fStart, LS (lsT intT) d.fNext, LS intT d.fMark, .own 1] 37 false, .box [I y3.fQ, I y3.fLeft.fE0, I y3.fLeft.fE1, I y3.fLeft.fE2, I y3.fLeft.fE3] 40 false, rowI 3 intT l4]⟩) (0, m1) h0 (sub_ok (by kernel_rfl)) ?_
        rintro ⟨x35, m1_2⟩ h
        replace h := hI _ _ h
        show En c ⟨[(2, .sv (.one (.ptr 0 0))), (4, .sv (.one (.own 4))), (8, .sv (.one (.ptr 2 0))), (9, .sv (.one (.ptr 3 0))), (34, .sv (.one (I d.fLetters))), (35, .sv (.one (I x35)))], [.box [I d.fLetters, I d.fStart, LS (lsT intT) d.fNext, LS intT d.fMark] 25 false, mapI ParikhPlace.enc (optT MathBigInt.ty) m1_2, .box [I d.fLetters, I d.fStart, LS (lsT intT) d.fNext, LS intT d.fMark, .own 1] 37 false, .box [I y3.fQ, I y3.fLeft.fE0, I y3.fLeft.fE1, I y3.fLeft.fE2, I y3.fLeft.fE3] 40 false, rowI 3 intT l4]⟩ _
        refine En.seq ?_
        refine En.region ?_
        refine WL.run ht hn 1 ⟨[(2, .sv (.one (.ptr 0 0))), (4, .sv (.one (.own 4))), (8, .sv (.one (.ptr 2 0))), (9, .sv (.one (.ptr 3 0))), (34, .sv (.one (I d.fLetters))), (35, .sv (.one (I x35))), (36, .sv (.one (B (decide (x35 < d.fLetters)))))], [.box [I d.fLetters, I d.fStart, LS (lsT intT) d.fNext, LS intT d.fMark] 25 false, mapI ParikhPlace.enc (optT MathBigInt.ty) m1_2, .box [I d.fLetters, I d.fStart, LS (lsT intT) d.fNext, LS intT d.fMark, .own 1] 37 false, .box [I y3.fQ, I y3.fLeft.fE0, I y3.fLeft.fE1, I y3.fLeft.fE2, I y3.fLeft.fE3] 40 false, rowI 3 intT l4]⟩ (by kernel_rfl) ?_
        refine WL.nil ?_
        refine En.seq ?_
        refine En.cond (b := (decide (x35 < d.fLetters))) (by kernel_rfl) (fun hb => ?_) (fun hb => ?_)
        · replace h := h.1 hb
          refine En.skip ?_
          refine En.seq ?_
          refine En.block ?_
          refine En.seq ?_
          refine En.region ?_
          refine WL.run ht hn 2 ⟨[(2, .sv (.one (.ptr 0 0))), (4, .sv (.one (.own 4))), (8, .sv (.one (.ptr 2 0))), (9, .sv (.one (.ptr 3 0))), (10, .sv (.one (I x35))), (34, .sv (.one (I d.fLetters))), (35, .sv (.one (I x35)))], [.box [I d.fLetters, I d.fStart, LS (lsT intT) d.fNext, LS intT d.fMark] 25 false, mapI ParikhPlace.enc (optT MathBigInt.ty) m1_2, .box [I d.fLetters, I d.fStart, LS (lsT intT) d.fNext, LS intT d.fMark, .own 1] 37 false, .box [I y3.fQ, I y3.fLeft.fE0, I y3.fLeft.fE1, I y3.fLeft.fE2, I y3.fLeft.fE3] 40 false, rowI 3 intT l4]⟩ (by kernel_rfl) ?_
          refine WL.nil ?_
          obtain ⟨J, h, hJ⟩ := h
          refine En.seqJ (σ := Bool × (List (ParikhPlace × (Option MathBigInt)))) (fun zz => J zz.1 zz.2) (fun zz => ⟨[(2, .sv (.one (.ptr 0 0))), (4, .sv (.one (.own 4))), (8, .sv (.one (.ptr 2 0))), (9, .sv (.one (.ptr 3 0))), (10, .sv (.one (I x35))), (34, .sv (.one (I d.fLetters))), (35, .sv (.one (I x35))), (52, .sv (.one (B zz.1)))], [.box [I d.fLetters, I d.fStart, LS (lsT intT) d.fNext, LS intT d.fMark] 25 false, mapI ParikhPlace.enc (optT MathBigInt.ty) zz.2, .box [I d.fLetters, I d.fStart, LS (lsT intT) d.fNext, LS intT d.fMark, .own 1] 37 false, .box [I y3.fQ, I y3.fLeft.fE0, I y3.fLeft.fE1, I y3.fLeft.fE2, I y3.fLeft.fE3] 40 false, rowI 3 intT l4]⟩) ?_ ?_
          · refine En.region ?_
            refine WL.run ht hn 2 ⟨[(2, .sv (.one (.ptr 0 0))), (4, .sv (.one (.own 4))), (8, .sv (.one (.ptr 2 0))), (9, .sv (.one (.ptr 3 0))), (10, .sv (.one (I x35))), (34, .sv (.one (I d.fLetters))), (35, .sv (.one (I x35))), (38, .sv (.one (I x35))), (39, .sv (.one (.ptr 3 1)))], [.box [I d.fLetters, I d.fStart, LS (lsT intT) d.fNext, LS intT d.fMark] 25 false, mapI ParikhPlace.enc (optT MathBigInt.ty) m1_2, .box [I d.fLetters, I d.fStart, LS (lsT intT) d.fNext, LS intT d.fMark, .own 1] 37 false, .box [I y3.fQ, I y3.fLeft.fE0, I y3.fLeft.fE1, I y3.fLeft.fE2, I y3.fLeft.fE3] 40 false, rowI 3 intT l4]⟩ (by kernel_rfl) ?_
            have hk := h.1
            replace h := h.2
            refine WL.val hn (by rfl) (val_indexP (k := x35) 3 1 (1 + (x35 : Int).toNat * 1) ht rfl Tryz.underlying38 (by rfl) (by rfl) (by rfl) (by rfl) hk rfl) (by rfl) ?_
            refine WL.val hn (by rfl) (val_loadPO (St38.l y3.fLeft) (k := x35) (m := 4) 1 ht rfl (by rfl) (by rfl) (by rfl) (by rfl) (by rfl) (by rfl) (by rfl) (by omega) (by omega)) (by rfl) ?_
            refine WL.run ht hn 2 ⟨[(2, .sv (.one (.ptr 0 0))), (4, .sv (.one (.own 4))), (8, .sv (.one (.ptr 2 0))), (9, .sv (.one (.ptr 3 0))), (10, .sv (.one (I x35))), (34, .sv (.one (I d.fLetters))), (35, .sv (.one (I x35))), (43, .sv (.one (B (decide ((arrG (St38.l y3.fLeft) x35) > 0)))))], [.box [I d.fLetters, I d.fStart, LS (lsT intT) d.fNext, LS intT d.fMark] 25 false, mapI ParikhPlace.enc (optT MathBigInt.ty) m1_2, .box [I d.fLetters, I d.fStart, LS (lsT intT) d.fNext, LS intT d.fMark, .own 1] 37 false, .box [I y3.fQ, I y3.fLeft.fE0, I y3.fLeft.fE1, I y3.fLeft.fE2, I y3.fLeft.fE3] 40 false, rowI 3 intT l4]⟩ (by kernel_rfl) ?_
            refine splitB (decide ((arrG (St38.l y3.fLeft) x35) > 0)) (fun hb => ?_) (fun hb => ?_)
            · replace h := h.1 hb
              refine WL.setB 43 hb (by kernel_rfl) ?_
              refine WL.run ht hn 4 ⟨[(2, .sv (.one (.ptr 0 0))), (4, .sv (.one (.own 4))), (8, .sv (.one (.ptr 2 0))), (9, .sv (.one (.ptr 3 0))), (10, .sv (.one (I x35))), (34, .sv (.one (I d.fLetters))), (35, .sv (.one (I x35))), (43, .sv (.one (B true))), (44, .sv (.one (.ptr 2 0))), (45, .sv (.one (.ptr 2 0))), (46, .sv (.agg [I y3.fQ, I y3.fLeft.fE0, I y3.fLeft.fE1, I y3.fLeft.fE2, I y3.fLeft.fE3])), (47, .sv (.one (I x35)))], [.box [I d.fLetters, I d.fStart, LS (lsT intT) d.fNext, LS intT d.fMark] 25 false, mapI ParikhPlace.enc (optT MathBigInt.ty) m1_2, .box [I d.fLetters, I d.fStart, LS (lsT intT) d.fNext, LS intT d.fMark, .own 1] 37 false, .box [I y3.fQ, I y3.fLeft.fE0, I y3.fLeft.fE1, I y3.fLeft.fE2, I y3.fLeft.fE3] 40 false, rowI 3 intT l4]⟩ (by kernel_rfl) ?_
              have hp := h.1
              replace h := h.2
              refine WL.callE (pBeh_ct d m1_2 y3 x35 hp) en11 (caps := []) [2, 1] hn (by rfl) rfl (by rfl) (argsAs (by kernel_rfl) (by rfl)) (by kernel_rfl) (by decide) (by rfl) (by rfl) (fun _ _ => ⟨by rfl, _, by rfl, ?_⟩)
              have hp := h.1
              replace h := h.2
              refine WL.callQ [(2, .sv (.one (.ptr 0 0))), (4, .sv (.one (.own 4))), (8, .sv (.one (.ptr 2 0))), (9, .sv (.one (.ptr 3 0))), (10, .sv (.one (I x35))), (34, .sv (.one (I d.fLetters))), (35, .sv (.one (I x35))), (43, .sv (.one (B true))), (44, .sv (.one (.ptr 2 0))), (45, .sv (.one (.ptr 2 0))), (46, .sv (.agg [I y3.fQ, I y3.fLeft.fE0, I y3.fLeft.fE1, I y3.fLeft.fE2, I y3.fLeft.fE3])), (47, .sv (.one (I x35))), (48, .sv (.agg [I (behR y3 x35).fQ, I (behR y3 x35).fLeft.fE0, I (behR y3 x35).fLeft.fE1, I (behR y3 x35).fLeft.fE2, I (behR y3 x35).fLeft.fE3]))] (pWay_ct d m1_2 (behR y3 x35) hp) en9 (caps := []) [2, 1] hn (by rfl) rfl (by rfl) (argsAs (by kernel_rfl) (by rfl)) (by kernel_rfl) (by decide) (by kernel_rfl) (by rfl) (by rfl) (fun r_2 hr_2_2 => ⟨by rfl, _, by rfl, ?_⟩)
              replace h := h r_2 hr_2_2
              have hp := h.1
              replace h := h.2
              refine WL.mt0 (K := []) (p := none) hn (by rfl) (mt_call (bSign_ct (numR (wL ((behR y3 x35)).fLeft)) hp) en10 (caps := []) [] rfl (by rfl) (by kernel_rfl) (by kernel_rfl) (by rfl) (by rfl) (by rfl)) (by rfl) (by rfl) (by rfl) ?_
              refine WL.run ht hn 2 ⟨[(2, .sv (.one (.ptr 0 0))), (4, .sv (.one (.own 4))), (8, .sv (.one (.ptr 2 0))), (9, .sv (.one (.ptr 3 0))), (10, .sv (.one (I x35))), (34, .sv (.one (I d.fLetters))), (35, .sv (.one (I x35))), (52, .sv (.one (B (decide ((signR (numR (wL ((behR y3 x35)).fLeft))) > 0)))))], [.box [I d.fLetters, I d.fStart, LS (lsT intT) d.fNext, LS intT d.fMark] 25 false, mapI ParikhPlace.enc (optT MathBigInt.ty) r_2, .box [I d.fLetters, I d.fStart, LS (lsT intT) d.fNext, LS intT d.fMark, .own 1] 37 false, .box [I y3.fQ, I y3.fLeft.fE0, I y3.fLeft.fE1, I y3.fLeft.fE2, I y3.fLeft.fE3] 40 false, rowI 3 intT l4]⟩ (by kernel_rfl) ?_
              refine WL.nil ?_
              exact En.at (I := fun zz => J zz.1 zz.2) (T := fun zz => ⟨[(2, .sv (.one (.ptr 0 0))), (4, .sv (.one (.own 4))), (8, .sv (.one (.ptr 2 0))), (9, .sv (.one (.ptr 3 0))), (10, .sv (.one (I x35))), (34, .sv (.one (I d.fLetters))), (35, .sv (.one (I x35))), (52, .sv (.one (B zz.1)))], [.box [I d.fLetters, I d.fStart, LS (lsT intT) d.fNext, LS intT d.fMark] 25 false, mapI ParikhPlace.enc (optT MathBigInt.ty) zz.2, .box [I d.fLetters, I d.fStart, LS (lsT intT) d.fNext, LS intT d.fMark, .own 1] 37 false, .box [I y3.fQ, I y3.fLeft.fE0, I y3.fLeft.fE1, I y3.fLeft.fE2, I y3.fLeft.fE3] 40 false, rowI 3 intT l4]⟩) ((decide ((signR (numR (wL ((behR y3 x35)).fLeft))) > 0)), r_2) h (by kernel_rfl)
            · replace h := h.2 hb
              refine WL.setB 43 hb (by kernel_rfl) ?_
              refine WL.run ht hn 9 ⟨[(2, .sv (.one (.ptr 0 0))), (4, .sv (.one (.own 4))), (8, .sv (.one (.ptr 2 0))), (9, .sv (.one (.ptr 3 0))), (10, .sv (.one (I x35))), (34, .sv (.one (I d.fLetters))), (35, .sv (.one (I x35))), (52, .sv (.one (B false)))], [.box [I d.fLetters, I d.fStart, LS (lsT intT) d.fNext, LS intT d.fMark] 25 false, mapI ParikhPlace.enc (optT MathBigInt.ty) m1_2, .box [I d.fLetters, I d.fStart, LS (lsT intT) d.fNext, LS intT d.fMark, .own 1] 37 false, .box [I y3.fQ, I y3.fLeft.fE0, I y3.fLeft.fE1, I y3.fLeft.fE2, I y3.fLeft.fE3] 40 false, rowI 3 intT l4]⟩ (by kernel_rfl) ?_
              refine WL.nil ?_
              exact En.at (I := fun zz => J zz.1 zz.2) (T := fun zz => ⟨[(2, .sv (.one (.ptr 0 0))), (4, .sv (.one (.own 4))), (8, .sv (.one (.ptr 2 0))), (9, .sv (.one (.ptr 3 0))), (10, .sv (.one (I x35))), (34, .sv (.one (I d.fLetters))), (35, .sv (.one (I x35))), (52, .sv (.one (B zz.1)))], [.box [I d.fLetters, I d.fStart, LS (lsT intT) d.fNext, LS intT d.fMark] 25 false, mapI ParikhPlace.enc (optT MathBigInt.ty) zz.2, .box [I d.fLetters, I d.fStart, LS (lsT intT) d.fNext, LS intT d.fMark, .own 1] 37 false, .box [I y3.fQ, I y3.fLeft.fE0, I y3.fLeft.fE1, I y3.fLeft.fE2, I y3.fLeft.fE3] 40 false, rowI 3 intT l4]⟩) (false, m1_2) h (by kernel_rfl)
          · rintro ⟨x52, m1_3⟩ h
            replace h := hJ _ _ h
            show En c ⟨[(2, .sv (.one (.ptr 0 0))), (4, .sv (.one (.own 4))), (8, .sv (.one (.ptr 2 0))), (9, .sv (.one (.ptr 3 0))), (10, .sv (.one (I x35))), (34, .sv (.one (I d.fLetters))), (35, .sv (.one (I x35))), (52, .sv (.one (B x52)))], [.box [I d.fLetters, I d.fStart, LS (lsT intT) d.fNext, LS intT d.fMark] 25 false, mapI ParikhPlace.enc (optT MathBigInt.ty) m1_3, .box [I d.fLetters, I d.fStart, LS (lsT intT) d.fNext, LS intT d.fMark, .own 1] 37 false, .box [I y3.fQ, I y3.fLeft.fE0, I y3.fLeft.fE1, I y3.fLeft.fE2, I y3.fLeft.fE3] 40 false, rowI 3 intT l4]⟩ _
            refine En.cond (b := x52) (by kernel_rfl) (fun hb => ?_) (fun hb => ?_)
            · replace h := h.1 hb
              refine En.seq ?_
              have hp_2 := h.1
              replace h := h.2
              refine En.regionT ⟨[(2, .sv (.one (.ptr 0 0))), (4, .sv (.one (.own 4))), (8, .sv (.one (.ptr 2 0))), (9, .sv (.one (.ptr 3 0))), (10, .sv (.one (I x35)))], [.sv (.one (.own 4)), .sv (.one (I x35)), .sv (.one (LS intT ([x35] : List Int))), .sv (.one (.own 5)), .sv (.one (.ptr 2 0)), .sv (.agg [I y3.fQ, I y3.fLeft.fE0, I y3.fLeft.fE1, I y3.fLeft.fE2, I y3.fLeft.fE3]), .sv (.one (I x35))], [⟨.box [I d.fLetters, I d.fStart, LS (lsT intT) d.fNext, LS intT d.fMark] 25 false, none, none, none⟩, ⟨mapI ParikhPlace.enc (optT MathBigInt.ty) m1_3, none, none, none⟩, ⟨.box [I d.fLetters, I d.fStart, LS (lsT intT) d.fNext, LS intT d.fMark, .own 1] 37 false, none, none, none⟩, ⟨.box [I y3.fQ, I y3.fLeft.fE0, I y3.fLeft.fE1, I y3.fLeft.fE2, I y3.fLeft.fE3] 40 false, none, none, none⟩, ⟨rowI 3 intT l4, none, some 3, none⟩, ⟨rowI 3 intT (l4 ++ ([x35] : List Int)), some 3, none, none⟩]⟩ 7 ⟨[(2, .sv (.one (.ptr 0 0))), (8, .sv (.one (.ptr 2 0))), (9, .sv (.one (.ptr 3 0))), (56, .sv (.one (.own 5))), (57, .sv (.one (.ptr 2 0))), (58, .sv (.agg [I y3.fQ, I y3.fLeft.fE0, I y3.fLeft.fE1, I y3.fLeft.fE2, I y3.fLeft.fE3])), (59, .sv (.one (I x35)))], [.box [I d.fLetters, I d.fStart, LS (lsT intT) d.fNext, LS intT d.fMark] 25 false, mapI ParikhPlace.enc (optT MathBigInt.ty) m1_3, .box [I d.fLetters, I d.fStart, LS (lsT intT) d.fNext, LS intT d.fMark, .own 1] 37 false, .box [I y3.fQ, I y3.fLeft.fE0, I y3.fLeft.fE1, I y3.fLeft.fE2, I y3.fLeft.fE3] 40 false, .gone, rowI 3 intT (l4 ++ ([x35] : List Int))]⟩ (by kernel_rfl) hn (by kernel_rfl) (by kernel_rfl) (by kernel_rfl) (by rfl) (by kernel_rfl) ?_ (by kernel_rfl) ?_
              · exact ⟨.mt ⟨[(4, .sv (.one (.own 4)))], []⟩ [] none (by kernel_rfl) (by rfl) (mt_ev ht (by kernel_rfl)) rfl rfl rfl rfl,
    .mt ⟨[(10, .sv (.one (I x35)))], []⟩ [] none (by kernel_rfl) (by rfl) (mt_ev ht (by kernel_rfl)) rfl rfl rfl rfl,
    .mt ⟨[(54, .sv (.one (I x35)))], []⟩ [] none (by kernel_rfl) (by rfl) (mt_seal (q := 5) (e := 3) (mt_lit (T := intT) ([x35] : List Int) (mt_bsl 5 (r := cellsOf intT ([x35] : List Int)) ht rfl (by rfl) (by rfl) (by rfl) (by kernel_rfl) (by rfl)) (fun _ h => by cases h) (fun _ => rfl) (fun _ => rfl) (by rfl) (Nat.le_of_ble_eq_true rfl))) rfl rfl rfl rfl,
    .mt ⟨[(53, .sv (.one (.own 4))), (55, .sv (.one (LS intT ([x35] : List Int))))], [.gone, .gone, .gone, .gone, rowI 3 intT l4]⟩ [4] (some 5) (by kernel_rfl) (by rfl) (mt_append (T := intT) (l := l4) (es := ([x35] : List Int)) (p := 5) ht rfl (by rfl) (by rfl) (by rfl) (by rfl) (by decide) (by rfl) (by rfl) (srcLS (T := intT) (es := ([x35] : List Int)) (fun _ h => by cases h) (by decide) (by rfl)) (by exact hp_2) (by exact hp_2.le (by decide))) rfl rfl rfl rfl,
    .mt ⟨[(8, .sv (.one (.ptr 2 0)))], []⟩ [] none (by kernel_rfl) (by rfl) (mt_ev ht (by kernel_rfl)) rfl rfl rfl rfl,
    .mt ⟨[(9, .sv (.one (.ptr 3 0)))], [.gone, .gone, .gone, .box [I y3.fQ, I y3.fLeft.fE0, I y3.fLeft.fE1, I y3.fLeft.fE2, I y3.fLeft.fE3] 40 false]⟩ [] none (by kernel_rfl) (by rfl) (mt_ev ht (by kernel_rfl)) rfl rfl rfl rfl,
    .mt ⟨[(10, .sv (.one (I x35)))], []⟩ [] none (by kernel_rfl) (by rfl) (mt_ev ht (by kernel_rfl)) rfl rfl rfl rfl,
    trivial⟩
              · have hp := h.1
                replace h := h.2
                refine WL.callE (pBeh_ct d m1_3 y3 x35 hp) en11 (caps := []) [2, 1] hn (by rfl) rfl (by rfl) (argsAs (by kernel_rfl) (by rfl)) (by kernel_rfl) (by decide) (by rfl) (by rfl) (fun _ _ => ⟨by rfl, _, by rfl, ?_⟩)
                refine WL.run ht hn 2 ⟨[(2, .sv (.one (.ptr 0 0))), (4, .sv (.one (.own 5))), (8, .sv (.one (.ptr 2 0))), (9, .sv (.one (.ptr 3 0)))], [.box [I d.fLetters, I d.fStart, LS (lsT intT) d.fNext, LS intT d.fMark] 25 false, mapI ParikhPlace.enc (optT MathBigInt.ty) m1_3, .box [I d.fLetters, I d.fStart, LS (lsT intT) d.fNext, LS intT d.fMark, .own 1] 37 false, .box [I (behR y3 x35).fQ, I (behR y3 x35).fLeft.fE0, I (behR y3 x35).fLeft.fE1, I (behR y3 x35).fLeft.fE2, I (behR y3 x35).fLeft.fE3] 40 false, .gone, rowI 3 intT (l4 ++ ([x35] : List Int))]⟩ (by kernel_rfl) ?_
                refine WL.nil ?_
                refine En.exit rfl ?_
                refine En.move 5 4 (by rfl) (by rfl) ?_
                exact En.at (I := fun zz => Inv zz.1 zz.2.1 zz.2.2 ∧ mu zz.1 zz.2.1 zz.2.2 < mu m1 y3 l4) (T := fun zz => ⟨[(2, .sv (.one (.ptr 0 0))), (4, .sv (.one (.own 4))), (8, .sv (.one (.ptr 2 0))), (9, .sv (.one (.ptr 3 0)))], [.box [I d.fLetters, I d.fStart, LS (lsT intT) d.fNext, LS intT d.fMark] 25 false, mapI ParikhPlace.enc (optT MathBigInt.ty) zz.1, .box [I d.fLetters, I d.fStart, LS (lsT intT) d.fNext, LS intT d.fMark, .own 1] 37 false, .box [I zz.2.1.fQ, I zz.2.1.fLeft.fE0, I zz.2.1.fLeft.fE1, I zz.2.1.fLeft.fE2, I zz.2.1.fLeft.fE3] 40 false, rowI 3 intT zz.2.2]⟩) (m1_3, (behR y3 x35), (l4 ++ ([x35] : List Int))) h (by kernel_rfl)
            · replace h := h.2 hb
              refine En.skip ?_
              refine En.region ?_
              refine WL.run ht hn 2 ⟨[(2, .sv (.one (.ptr 0 0))), (4, .sv (.one (.own 4))), (8, .sv (.one (.ptr 2 0))), (9, .sv (.one (.ptr 3 0))), (34, .sv (.one (I d.fLetters))), (35, .sv (.one (I (wr (x35 + 1)))))], [.box [I d.fLetters, I d.fStart, LS (lsT intT) d.fNext, LS intT d.fMark] 25 false, mapI ParikhPlace.enc (optT MathBigInt.ty) m1_3, .box [I d.fLetters, I d.fStart, LS (lsT intT) d.fNext, LS intT d.fMark, .own 1] 37 false, .box [I y3.fQ, I y3.fLeft.fE0, I y3.fLeft.fE1, I y3.fLeft.fE2, I y3.fLeft.fE3] 40 false, rowI 3 intT l4]⟩ (by kernel_rfl) ?_
              refine WL.nil ?_
              exact En.at (I := fun zz => Inv_2 zz.1 zz.2 ∧ mu_2 zz.1 zz.2 < mu_2 x35 m1_2) (T := fun zz => ⟨[(2, .sv (.one (.ptr 0 0))), (4, .sv (.one (.own 4))), (8, .sv (.one (.ptr 2 0))), (9, .sv (.one (.ptr 3 0))), (34, .sv (.one (I d.fLetters))), (35, .sv (.one (I zz.1)))], [.box [I d.fLetters, I d.fStart, LS (lsT intT) d.fNext, LS intT d.fMark] 25 false, mapI ParikhPlace.enc (optT MathBigInt.ty) zz.2, .box [I d.fLetters, I d.fStart, LS (lsT intT) d.fNext, LS intT d.fMark, .own 1] 37 false, .box [I y3.fQ, I y3.fLeft.fE0, I y3.fLeft.fE1, I y3.fLeft.fE2, I y3.fLeft.fE3] 40 false, rowI 3 intT l4]⟩) ((wr (x35 + 1)), m1_3) h (by kernel_rfl)
        · replace h := h.2 hb
          refine En.exit rfl ?_
          exact En.at (I := fun zz => Inv zz.1 zz.2.1 zz.2.2 ∧ mu zz.1 zz.2.1 zz.2.2 < mu m1 y3 l4) (T := fun zz => ⟨[(2, .sv (.one (.ptr 0 0))), (4, .sv (.one (.own 4))), (8, .sv (.one (.ptr 2 0))), (9, .sv (.one (.ptr 3 0)))], [.box [I d.fLetters, I d.fStart, LS (lsT intT) d.fNext, LS intT d.fMark] 25 false, mapI ParikhPlace.enc (optT MathBigInt.ty) zz.1, .box [I d.fLetters, I d.fStart, LS (lsT intT) d.fNext, LS intT d.fMark, .own 1] 37 false, .box [I zz.2.1.fQ, I zz.2.1.fLeft.fE0, I zz.2.1.fLeft.fE1, I zz.2.1.fLeft.fE2, I zz.2.1.fLeft.fE3] 40 false, rowI 3 intT zz.2.2]⟩) (m1_2, y3, l4) h (by kernel_rfl)
      · replace h := h.2 hb
        refine En.exit rfl ?_
        refine En.seq ?_
        refine En.region ?_
        refine WL.run ht hn 4 ⟨[(4, .sv (.one (.own 4))), (5, .sv (.one (B true))), (6, .sv (.one (I 0)))], [.gone, .gone, .gone, .gone, rowI 3 intT l4]⟩ (by kernel_rfl) ?_
        refine WL.nil ?_
        refine En.ret ?_
        refine En.seal (T := intT) (l := l4) (e := 3) 4 rfl ?_
        exact En.back ht (l4, true, 0) h (by kernel_rfl) rfl
theorem en4 : ∀ args w, (callFunc 4 args).run Tryz.prog w = .ok (.enter 4 args) w := enters_of Tryz.func4 (by kernel_rfl) rfl
theorem pWord_ct (d : ApiDet) (counts : List Int) (hp : ∃ k : Int, d = oneD k ∧ 1 ≤ k ∧ k ≤ 4)  : Ct 4 [.sv (.agg [I d.fLetters, I d.fStart, LS (lsT intT) d.fNext, LS intT d.fMark]), .sv (.one (LS intT counts))] [] (fun (_ : Unit) => True) (fun _ => .tup [.one (LS intT (wordR d counts).1), .one (B (wordR d counts).2.1), .one (I (wordR d counts).2.2)]) := by
  refine (pWord_walk d counts (fun res_ => res_ = (wordR d counts)) ?_).fun
  obtain ⟨k, rfl, h1, h4⟩ := hp
  intro _ _ _
  refine ⟨fun h => ?_, fun h => ?_⟩
  · show _ = wordR _ _
    unfold wordR
    rw [if_pos h]
  have hc : chkR (oneD k) counts = 0 := by simpa using h
  rw [chk_one h1 h4] at hc
  have hok := ctd_ok hc
  have hpl := hok.place h1 h4
  obtain ⟨n, rfl⟩ : ∃ n : Nat, k = n := ⟨k.toNat, by omega⟩
  refine ⟨by have := hok.len; omega, ⟨⟨_, rfl, h1, h4, hpl⟩, fun p o h => (by cases h), by have := hpl.sum; omega⟩, fun r hr => ⟨⟨_, rfl⟩, fun h2 => (by cases h2), fun _ => ?_⟩⟩
  refine ⟨fun m p w => MOk m ∧ PlOk n p ∧ w ++ firstW p.fLeft = firstW (begunR (oneD n) counts).fLeft, fun _ p _ => (sumE p.fLeft).toNat, ⟨hr, hpl, rfl⟩, ?_⟩
  rintro m p w ⟨hm, hp, hw⟩
  have hwl : w.length ≤ 12 := by
    have := congrArg List.length hw
    have h2 := first_len hpl
    rw [List.length_append] at this
    omega
  refine ⟨fun hb => ⟨fun x m => ∃ j : Nat, x = j ∧ j ≤ n ∧ MOk m ∧ ∀ i : Nat, i < j → arrG p.fLeft.l (i : Int) = 0, fun x _ => n - x.toNat, ⟨0, rfl, Nat.zero_le _, hm, fun i hi => absurd hi (Nat.not_lt_zero _)⟩, ?_⟩, fun hb => ?_⟩
  · rintro x m2 ⟨j, rfl, hj, hm2, hz⟩
    refine ⟨fun hlt => ?_, fun hge => ?_⟩
    · have hlt : j < n := by
        have : (j : Int) < (n : Int) := of_decide_eq_true hlt
        omega
      refine ⟨fun b m => MOk m ∧ (b = true → 0 < arrG p.fLeft.l (j : Int)) ∧ (b = false → arrG p.fLeft.l (j : Int) = 0), ⟨⟨by omega, by omega⟩, fun h0 => ?_, fun h0 => ?_⟩, ?_⟩
      · have h0 : 0 < arrG p.fLeft.l (j : Int) := of_decide_eq_true h0
        obtain ⟨l1, l2⟩ := hp.less (a := j) (by omega) h4 h0
        have hle := arr_le hp (j := j) (by omega)
        exact ⟨⟨n, rfl, h4, hp.q, by omega, by omega, h0, by omega⟩, ⟨⟨n, rfl, h1, h4, l1⟩, hm2, by have := l1.sum; show sumE (lessE p.fLeft (j : Int)) < 13; simp only at this; omega⟩, fun m3 hm3 => ⟨⟨_, rfl⟩, hm3, fun _ => h0, fun e => (by cases e)⟩⟩
      · have h0 : ¬ 0 < arrG p.fLeft.l (j : Int) := of_decide_eq_false h0
        have := arr_nn hp (j := j) (by omega)
        exact ⟨hm2, fun e => (by cases e), fun _ => by omega⟩
      · rintro b m3 ⟨hm3, hb1, hb2⟩
        refine ⟨fun e => ?_, fun e => ?_⟩
        · have h0 := hb1 e
          obtain ⟨l1, l2⟩ := hp.less (a := j) (by omega) h4 h0
          have hle := arr_le hp (j := j) (by omega)
          have hs := l1.sum0
          refine ⟨capOk_of (by simp only [List.length_cons, List.length_nil]; omega), ⟨n, rfl, h4, hp.q, by omega, by omega, h0, by omega⟩, ⟨hm3, l1, ?_⟩, ?_⟩
          · rw [← hw, first_step hp (by omega) h0 hz]
            show (w ++ [(j : Int)]) ++ firstW (lessE p.fLeft (j : Int)) = _
            simp
          · show (sumE (lessE p.fLeft (j : Int))).toNat < (sumE p.fLeft).toNat
            simp only at hs
            omega
        · refine ⟨⟨j + 1, wsucc (by omega), hlt, hm3, fun i hi => ?_⟩, mu_up hlt (by omega)⟩
          rcases Nat.lt_succ_iff_lt_or_eq.1 hi with c | rfl
          · exact hz i c
          · exact hb2 e
    · exfalso
      have hge : n ≤ j := by
        have : ¬ (j : Int) < (n : Int) := of_decide_eq_false hge
        omega
      have := left_zero hp (by omega) (fun i hi => hz i (by omega))
      rw [this] at hb
      exact absurd hb (by decide)
  · show _ = wordR _ _
    unfold wordR
    rw [if_neg (by rw [h]; decide), ← hw]
    have hb : p.fLeft = ⟨0, 0, 0, 0⟩ := by simpa using hb
    rw [hb]
    simp [firstW]
section
attribute [local irreducible] wpList
theorem fl_bits (b : Nat) (w : World) : (callFunc 134 #[.float .f64 b]).run Tryz.prog w = .ok (.value (.int .u64 (b : Int))) w := by kernel_rfl
theorem fl_from (n : Int) (w : World) : (callFunc 135 #[.int .u64 n]).run Tryz.prog w = .ok (.value (.float .f64 n.toNat)) w := by kernel_rfl
theorem fl_abs (w : World) : Calls Tryz.prog 173 #[.float .f64 4621819117588971520] w fun e w' => e = .returned (.float .f64 4621819117588971520) ∧ w' = w := by
  have h1 := fl_bits 4621819117588971520
  have h2 := fl_from 4621819117588971520
  have h3 : bits .andNot .u64 4621819117588971520 9223372036854775808 = 4621819117588971520 := by kernel_rfl
  go_enter Tryz.func173, Tryz.ntmps173
  go_wp2
  go_ret
  exact ⟨rfl, rfl⟩
theorem fl_inf (w : World) : Calls Tryz.prog 131 #[.float .f64 4621819117588971520, .int .i64 0] w fun e w' => e = .returned (.bool false) ∧ w' = w := by
  have h1 := fl_abs
  have h2 : (FloatKind.f64.format.order 4621819117588971520 9218868437227405311 == some Ordering.gt) = false := by kernel_rfl
  go_enter Tryz.func131, Tryz.ntmps131
  go_wp2_with (go_at_call 173; refine (h1 _).mono ?_; rintro e w' ⟨rfl, rfl⟩)
  go_ret
  exact ⟨rfl, rfl⟩
theorem fl_nan (w : World) : Calls Tryz.prog 132 #[.float .f64 4621819117588971520] w fun e w' => e = .returned (.bool false) ∧ w' = w := by
  have h2 : (FloatKind.f64.format.order 4621819117588971520 4621819117588971520 == some Ordering.eq) = true := by kernel_rfl
  go_enter Tryz.func132, Tryz.ntmps132
  go_wp2
  go_ret
  exact ⟨rfl, rfl⟩
theorem fl_norm (w : World) : Calls Tryz.prog 133 #[.float .f64 4621819117588971520] w fun e w' => e = .returned (.tuple #[.float .f64 4621819117588971520, .int .i64 0]) ∧ w' = w := by
  have h1 := fl_abs
  have h2 : (FloatKind.f64.format.order 4621819117588971520 4503599627370496 == some Ordering.lt) = false := by kernel_rfl
  go_enter Tryz.func133, Tryz.ntmps133
  go_wp2_with (go_at_call 173; refine (h1 _).mono ?_; rintro e w' ⟨rfl, rfl⟩)
  go_ret2
  exact ⟨rfl, rfl⟩
theorem fl_frexp (w : World) : Calls Tryz.prog 90 #[.float .f64 4621819117588971520] w fun e w' => e = .returned (.tuple #[.float .f64 4603804719079489536, .int .i64 4]) ∧ w' = w := by
  have h1 := fl_inf
  have h2 := fl_nan
  have h3 := fl_norm
  have h4 := fl_bits 4621819117588971520
  have h5 := fl_from 4603804719079489536
  have h6 : bits .andNot .u64 4621819117588971520 9218868437227405312 = 1125899906842624 := by kernel_rfl
  have h7 : bits .or .u64 1125899906842624 4602678819172646912 = 4603804719079489536 := by kernel_rfl
  have h8 : bits .and .u64 1026 2047 = 1026 := by kernel_rfl
  have h9 : (FloatKind.f64.format.order 4621819117588971520 0 == some Ordering.eq) = false := by kernel_rfl
  go_enter Tryz.func90, Tryz.ntmps90
  go_wp2_with (first | (go_at_call 131; refine (h1 _).mono ?_; rintro e w' ⟨rfl, rfl⟩) | (go_at_call 132; refine (h2 _).mono ?_; rintro e w' ⟨rfl, rfl⟩) | (go_at_call 133; refine (h3 _).mono ?_; rintro e w' ⟨rfl, rfl⟩))
  go_ret2
  exact ⟨rfl, rfl⟩
theorem fl_Frexp (w : World) : Calls Tryz.prog 75 #[.float .f64 4621819117588971520] w fun e w' => e = .returned (.tuple #[.float .f64 4603804719079489536, .int .i64 4]) ∧ w' = w := by
  have h1 := fl_frexp
  go_enter Tryz.func75, Tryz.ntmps75
  go_wp2_with (go_at_call 90; refine (h1 _).mono ?_; rintro e w' ⟨rfl, rfl⟩)
  go_ret2
  exact ⟨rfl, rfl⟩
theorem fl_arch (w : World) : (callFunc 91 #[.float .f64 4603804719079489536]).run Tryz.prog w = .ok (.value (.float .f64 13825510489450817230)) w := by kernel_rfl
theorem fl_Log (w : World) : Calls Tryz.prog 76 #[.float .f64 4603804719079489536] w fun e w' => e = .returned (.float .f64 13825510489450817230) ∧ w' = w := by
  have h1 := fl_arch
  go_enter Tryz.func76, Tryz.ntmps76
  go_wp2
  go_ret
  exact ⟨rfl, rfl⟩
theorem fl_log2 (w : World) : Calls Tryz.prog 61 #[.float .f64 4621819117588971520] w fun e w' => e = .returned (.float .f64 4614662735865160561) ∧ w' = w := by
  have h1 := fl_Frexp
  have h2 := fl_Log
  have h3 : (FloatKind.f64.format.order 4603804719079489536 4602678819172646912 == some Ordering.eq) = false := by kernel_rfl
  have h4 : ∀ w, (binOp .mul 77 (.float .f64 13825510489450817230) (.float .f64 4609176140021203710)).run Tryz.prog w = .ok (.float .f64 13827654785158443579) w := fun w => by kernel_rfl
  have h5 : ∀ w, (binOp .add 77 (.float .f64 13827654785158443579) (.float .f64 4616189618054758400)).run Tryz.prog w = .ok (.float .f64 4614662735865160561) w := fun w => by kernel_rfl
  have h6 : floatOfInt .f64 4 = 4616189618054758400 := by kernel_rfl
  go_enter Tryz.func61, Tryz.ntmps61
  go_wp2_with (first | (go_at_call 75; refine (h1 _).mono ?_; rintro e w' ⟨rfl, rfl⟩) | (go_at_call 76; refine (h2 _).mono ?_; rintro e w' ⟨rfl, rfl⟩))
  go_ret
  exact ⟨rfl, rfl⟩
theorem fl_Log2 (w : World) : Calls Tryz.prog 48 #[.float .f64 4621819117588971520] w fun e w' => e = .returned (.float .f64 4614662735865160561) ∧ w' = w := by
  have h1 := fl_log2
  go_enter Tryz.func48, Tryz.ntmps48
  go_wp2_with (go_at_call 61; refine (h1 _).mono ?_; rintro e w' ⟨rfl, rfl⟩)
  go_ret
  exact ⟨rfl, rfl⟩
def flQs : List Nat := [0, 4599094494223104511, 4603598093850475007, 4606309531003074303, 4608101693477845503, 4609457412054145151, 4610813130630444799, 4611927433817066175, 4612605293105215999, 4613283152393365823, 4613961011681515647, 4614638870969665471, 4615316730257815295, 4615994589545965119, 4616431033444436671, 4616769963088511583, 4617108892732586495, 4617447822376661407, 4617786752020736319, 4618125681664811231, 4618464611308886143, 4618803540952961055, 4619142470597035967, 4619481400241110879, 4619820329885185791, 4620159259529260703, 4620498189173335615, 4620765168249769711, 4620934633071807167, 4621104097893844623, 4621273562715882079, 4621443027537919535, 4621612492359956991, 4621781957181994447, 4621951422004031903, 4622120886826069359, 4622290351648106815, 4622459816470144271, 4622629281292181727, 4622798746114219183, 4622968210936256639, 4623137675758294095, 4623307140580331551, 4623476605402369007, 4623646070224406463, 4623815535046443919, 4623984999868481375, 4624154464690518831, 4624323929512556287, 4624493394334593743, 4624662859156631199, 4624832323978668655, 4625001788800706111, 4625171253622743567, 4625268767877140207, 4625353500288158935, 4625438232699177663, 4625522965110196391, 4625607697521215119, 4625692429932233847, 4625777162343252575, 4625861894754271303, 4625946627165290031, 4626031359576308759, 4626116091987327487]
def flTs : List Int := [0, 0, 0, 0, 1, 1, 1, 2, 2, 2, 3, 3, 3, 3, 4, 4, 4, 5, 5, 5, 6, 6, 6, 6, 7, 7, 7, 8, 8, 8, 9, 9, 9, 9, 10, 10, 10, 11, 11, 11, 12, 12, 12, 12, 13, 13, 13, 14, 14, 14, 15, 15, 15, 15, 16, 16, 16, 17, 17, 17, 18, 18, 18, 18, 19]
def flQ (L : Int) : Nat := flQs.getD L.toNat 0
def flT (L : Int) : Int := flTs.getD L.toNat 0
theorem fl_cases {L : Int} (h : 0 ≤ L ∧ L ≤ 64) : L = 0 ∨ L = 1 ∨ L = 2 ∨ L = 3 ∨ L = 4 ∨ L = 5 ∨ L = 6 ∨ L = 7 ∨ L = 8 ∨ L = 9 ∨ L = 10 ∨ L = 11 ∨ L = 12 ∨ L = 13 ∨ L = 14 ∨ L = 15 ∨ L = 16 ∨ L = 17 ∨ L = 18 ∨ L = 19 ∨ L = 20 ∨ L = 21 ∨ L = 22 ∨ L = 23 ∨ L = 24 ∨ L = 25 ∨ L = 26 ∨ L = 27 ∨ L = 28 ∨ L = 29 ∨ L = 30 ∨ L = 31 ∨ L = 32 ∨ L = 33 ∨ L = 34 ∨ L = 35 ∨ L = 36 ∨ L = 37 ∨ L = 38 ∨ L = 39 ∨ L = 40 ∨ L = 41 ∨ L = 42 ∨ L = 43 ∨ L = 44 ∨ L = 45 ∨ L = 46 ∨ L = 47 ∨ L = 48 ∨ L = 49 ∨ L = 50 ∨ L = 51 ∨ L = 52 ∨ L = 53 ∨ L = 54 ∨ L = 55 ∨ L = 56 ∨ L = 57 ∨ L = 58 ∨ L = 59 ∨ L = 60 ∨ L = 61 ∨ L = 62 ∨ L = 63 ∨ L = 64 := by omega
theorem fl_quo {L : Int} (h : 0 ≤ L ∧ L ≤ 64) (w : World) : (binOp .quo 77 (.float .f64 (floatOfInt .f64 L)) (.float .f64 4614662735865160561)).run Tryz.prog w = .ok (.float .f64 (flQ L)) w := by
  rcases fl_cases h with rfl | rfl | rfl | rfl | rfl | rfl | rfl | rfl | rfl | rfl | rfl | rfl | rfl | rfl | rfl | rfl | rfl | rfl | rfl | rfl | rfl | rfl | rfl | rfl | rfl | rfl | rfl | rfl | rfl | rfl | rfl | rfl | rfl | rfl | rfl | rfl | rfl | rfl | rfl | rfl | rfl | rfl | rfl | rfl | rfl | rfl | rfl | rfl | rfl | rfl | rfl | rfl | rfl | rfl | rfl | rfl | rfl | rfl | rfl | rfl | rfl | rfl | rfl | rfl | rfl
  all_goals kernel_rfl
theorem fl_int {L : Int} (h : 0 ≤ L ∧ L ≤ 64) (w : World) : (convert 77 3 (.float .f64 (flQ L))).run Tryz.prog w = .ok (.int .i64 (flT L)) w := by
  rcases fl_cases h with rfl | rfl | rfl | rfl | rfl | rfl | rfl | rfl | rfl | rfl | rfl | rfl | rfl | rfl | rfl | rfl | rfl | rfl | rfl | rfl | rfl | rfl | rfl | rfl | rfl | rfl | rfl | rfl | rfl | rfl | rfl | rfl | rfl | rfl | rfl | rfl | rfl | rfl | rfl | rfl | rfl | rfl | rfl | rfl | rfl | rfl | rfl | rfl | rfl | rfl | rfl | rfl | rfl | rfl | rfl | rfl | rfl | rfl | rfl | rfl | rfl | rfl | rfl | rfl | rfl
  all_goals kernel_rfl
theorem fl_enough {L : Int} (h : 0 ≤ L ∧ L ≤ 64) : 0 ≤ flT L ∧ flT L ≤ 20 ∧ 2 ^ L.toNat ≤ 10 ^ (flT L + 1).toNat := by
  rcases fl_cases h with rfl | rfl | rfl | rfl | rfl | rfl | rfl | rfl | rfl | rfl | rfl | rfl | rfl | rfl | rfl | rfl | rfl | rfl | rfl | rfl | rfl | rfl | rfl | rfl | rfl | rfl | rfl | rfl | rfl | rfl | rfl | rfl | rfl | rfl | rfl | rfl | rfl | rfl | rfl | rfl | rfl | rfl | rfl | rfl | rfl | rfl | rfl | rfl | rfl | rfl | rfl | rfl | rfl | rfl | rfl | rfl | rfl | rfl | rfl | rfl | rfl | rfl | rfl | rfl | rfl
  all_goals exact ⟨by decide, by decide, by decide⟩
theorem log2_ct : Ct 48 [.sv (.one (.v (.float .f64 4621819117588971520)))] [] (fun (_ : Unit) => True) (fun _ => .sv (.one (.v (.float .f64 4614662735865160561)))) := fun w g hs args hpe ha _ => by
  match args, ha with
  | [a0], ⟨⟨e0, _⟩, _⟩ =>
    have e0 : a0 = .float .f64 4621819117588971520 := e0
    subst e0
    refine (fl_Log2 w).mono ?_
    rintro en w' ⟨rfl, rfl⟩
    exact ⟨_, g, (), rfl, trivial, ⟨rfl, trivial⟩, ⟨rfl, rfl, rfl, Nat.le_refl _, fun _ _ _ => rfl, Gh.le.refl g, fun b o e => .inl e, hpe⟩⟩
section
variable {c : Cfg} {S : St} {o : Oper}
theorem val_toF {x : Operand} {s t : Nat} {k : Int} {n : Nat} (ho : o.op = .convert s t x) (h1 : Tryz.prog.underlying s = some (.int .i64)) (h2 : Tryz.prog.underlying t = some (.float .f64)) (hx : evX S.F x = some (.sv (.one (I k)))) (hn : floatOfInt .f64 k = n) : Val c S o (.sv (.one (.v (.float .f64 n)))) := fun a w g hs h => by
  subst hn
  have e1 : a.eval x = .int .i64 k := (evX_ok h hx).1
  refine ⟨.float .f64 (floatOfInt .f64 k), ?_, rfl, trivial⟩
  have e : execOp a.eval o = (do pure (.value (← convert s t (a.eval x))) : Sem Next) := by unfold execOp; rw [ho]
  rw [e, e1]
  refine run_val ?_
  simp only [convert, Sem.run_bind, run_underlying h1, run_underlying h2, Result.andThen_ok]
  rfl
theorem val_quoF {x y : Operand} {t : Nat} {b : TypeId} {m n r : Nat} (ho : o.op = .binOp .quo t x y b) (hx : evX S.F x = some (.sv (.one (.v (.float .f64 m))))) (hy : evX S.F y = some (.sv (.one (.v (.float .f64 n))))) (hr : ∀ w, (binOp .quo t (.float .f64 m) (.float .f64 n)).run Tryz.prog w = .ok (.float .f64 r) w) : Val c S o (.sv (.one (.v (.float .f64 r)))) := fun a w g hs h => by
  have e1 : a.eval x = .float .f64 m := (evX_ok h hx).1
  have e2 : a.eval y = .float .f64 n := (evX_ok h hy).1
  refine ⟨.float .f64 r, ?_, rfl, trivial⟩
  have e : execOp a.eval o = (do pure (.value (← (do eqGuard .quo t x y (a.eval x) (a.eval y); binOp .quo t (a.eval x) (a.eval y) : Sem Value))) : Sem Next) := by unfold execOp; rw [ho]
  rw [e, e1, e2]
  refine run_val ?_
  have hg : (eqGuard .quo t x y (.float .f64 m) (.float .f64 n)).run Tryz.prog w = .ok () w := by simp [eqGuard]
  rw [Sem.run_bind, hg, Result.andThen_ok]
  exact hr w
theorem val_fromF {x : Operand} {s t : Nat} {n : Nat} {k : Int} (ho : o.op = .convert s t x) (hx : evX S.F x = some (.sv (.one (.v (.float .f64 n))))) (hr : ∀ w, (convert s t (.float .f64 n)).run Tryz.prog w = .ok (.int .i64 k) w) : Val c S o (.sv (.one (I k))) := fun a w g hs h => by
  have e1 : a.eval x = .float .f64 n := (evX_ok h hx).1
  refine ⟨.int .i64 k, ?_, rfl, trivial⟩
  have e : execOp a.eval o = (do pure (.value (← convert s t (a.eval x))) : Sem Next) := by unfold execOp; rw [ho]
  rw [e, e1]
  exact run_val (hr w)
end
end
def litS20 : ByteArray := ByteArray.mk #[0, 1, 2, 2, 3, 3, 3, 3, 4, 4, 4, 4, 4, 4, 4, 4, 5, 5, 5, 5, 5, 5, 5, 5, 5, 5, 5, 5, 5, 5, 5, 5, 6, 6, 6, 6, 6, 6, 6, 6, 6, 6, 6, 6, 6, 6, 6, 6, 6, 6, 6, 6, 6, 6, 6, 6, 6, 6, 6, 6, 6, 6, 6, 6, 7, 7, 7, 7, 7, 7, 7, 7, 7, 7, 7, 7, 7, 7, 7, 7, 7, 7, 7, 7, 7, 7, 7, 7, 7, 7, 7, 7, 7, 7, 7, 7, 7, 7, 7, 7, 7, 7, 7, 7, 7, 7, 7, 7, 7, 7, 7, 7, 7, 7, 7, 7, 7, 7, 7, 7, 7, 7, 7, 7, 7, 7, 7, 7, 8, 8, 8, 8, 8, 8, 8, 8, 8, 8, 8, 8, 8, 8, 8, 8, 8, 8, 8, 8, 8, 8, 8, 8, 8, 8, 8, 8, 8, 8, 8, 8, 8, 8, 8, 8, 8, 8, 8, 8, 8, 8, 8, 8, 8, 8, 8, 8, 8, 8, 8, 8, 8, 8, 8, 8, 8, 8, 8, 8, 8, 8, 8, 8, 8, 8, 8, 8, 8, 8, 8, 8, 8, 8, 8, 8, 8, 8, 8, 8, 8, 8, 8, 8, 8, 8, 8, 8, 8, 8, 8, 8, 8, 8, 8, 8, 8, 8, 8, 8, 8, 8, 8, 8, 8, 8, 8, 8, 8, 8, 8, 8, 8, 8, 8, 8, 8, 8, 8, 8, 8, 8, 8, 8, 8, 8, 8, 8]
def bLen64_vc (x : Int) (Q : Int → Prop) : Prop :=
  ∃ J : Int → Int → Prop, (IfP (decide (x ≥ 4294967296)) (J (Int.fdiv x (2 ^ (min 32 64))) 32) (J x 0)) ∧
  (∀ (x0 : Int) (x2 : Int), J x0 x2 → ∃ J_2 : Int → Int → Prop, (IfP (decide (x0 ≥ 65536)) (J_2 (Int.fdiv x0 (2 ^ (min 16 64))) (wr (x2 + 16))) (J_2 x0 x2)) ∧
  (∀ (x0_2 : Int) (x2_2 : Int), J_2 x0_2 x2_2 → ∃ J_3 : Int → Int → Prop, (IfP (decide (x0_2 ≥ 256)) (J_3 (Int.fdiv x0_2 (2 ^ (min 8 64))) (wr (x2_2 + 8))) (J_3 x0_2 x2_2)) ∧
  (∀ (x0_3 : Int) (x2_3 : Int), J_3 x0_3 x2_3 → ∃ b, byteAt litS20 (IntKind.wrap .u8 x0_3) = some b ∧
  Q (wr (x2_3 + (wr b))))))
theorem bLen64_walk (x : Int) (Q : Int → Prop) (h : bLen64_vc x Q) : Ct 74 [.sv (.one (.v (.int .u64 x)))] [] Q (fun (r : Int) => .sv (.one (I r))) := by
  have ht := tab_ok
  refine Ct.body Tryz.func74 rfl rfl rfl rfl (fun c hn => ?_)
  unfold bLen64_vc at h
  refine En.seq ?_
  refine En.region ?_
  refine WL.run ht hn 1 ⟨[(0, .sv (.one (.v (.int .u64 x)))), (2, .sv (.one (I 0)))], []⟩ (by kernel_rfl) ?_
  refine WL.nil ?_
  obtain ⟨J, h, hJ⟩ := h
  refine En.seqJ (σ := Int × Int) (fun zz => J zz.1 zz.2) (fun zz => ⟨[(0, .sv (.one (.v (.int .u64 zz.1)))), (2, .sv (.one (I zz.2)))], []⟩) ?_ ?_
  · refine En.seq ?_
    refine En.region ?_
    refine WL.run ht hn 2 ⟨[(0, .sv (.one (.v (.int .u64 x)))), (2, .sv (.one (I 0))), (4, .sv (.one (B (decide (x ≥ 4294967296)))))], []⟩ (by kernel_rfl) ?_
    refine WL.nil ?_
    refine En.cond (b := (decide (x ≥ 4294967296))) (by kernel_rfl) (fun hb => ?_) (fun hb => ?_)
    · replace h := h.1 hb
      refine En.seq ?_
      refine En.region ?_
      refine WL.run ht hn 3 ⟨[(0, .sv (.one (.v (.int .u64 (Int.fdiv x (2 ^ (min 32 64)))))))], []⟩ (by kernel_rfl) ?_
      refine WL.nil ?_
      refine En.region ?_
      refine WL.run ht hn 1 ⟨[(0, .sv (.one (.v (.int .u64 (Int.fdiv x (2 ^ (min 32 64))))))), (2, .sv (.one (I 32)))], []⟩ (by kernel_rfl) ?_
      refine WL.nil ?_
      exact En.at (I := fun zz => J zz.1 zz.2) (T := fun zz => ⟨[(0, .sv (.one (.v (.int .u64 zz.1)))), (2, .sv (.one (I zz.2)))], []⟩) ((Int.fdiv x (2 ^ (min 32 64))), 32) h (by kernel_rfl)
    · replace h := h.2 hb
      refine En.skip ?_
      exact En.at (I := fun zz => J zz.1 zz.2) (T := fun zz => ⟨[(0, .sv (.one (.v (.int .u64 zz.1)))), (2, .sv (.one (I zz.2)))], []⟩) (x, 0) h (by kernel_rfl)
  · rintro ⟨x0, x2⟩ h
    replace h := hJ _ _ h
    show En c ⟨[(0, .sv (.one (.v (.int .u64 x0)))), (2, .sv (.one (I x2)))], []⟩ _
    obtain ⟨J_2, h, hJ_2⟩ := h
    refine En.seqJ (σ := Int × Int) (fun zz => J_2 zz.1 zz.2) (fun zz => ⟨[(0, .sv (.one (.v (.int .u64 zz.1)))), (2, .sv (.one (I zz.2)))], []⟩) ?_ ?_
    · refine En.seq ?_
      refine En.region ?_
      refine WL.run ht hn 2 ⟨[(0, .sv (.one (.v (.int .u64 x0)))), (2, .sv (.one (I x2))), (8, .sv (.one (B (decide (x0 ≥ 65536)))))], []⟩ (by kernel_rfl) ?_
      refine WL.nil ?_
      refine En.cond (b := (decide (x0 ≥ 65536))) (by kernel_rfl) (fun hb => ?_) (fun hb => ?_)
      · replace h := h.1 hb
        refine En.seq ?_
        refine En.region ?_
        refine WL.run ht hn 3 ⟨[(0, .sv (.one (.v (.int .u64 (Int.fdiv x0 (2 ^ (min 16 64))))))), (2, .sv (.one (I x2)))], []⟩ (by kernel_rfl) ?_
        refine WL.nil ?_
        refine En.region ?_
        refine WL.run ht hn 3 ⟨[(0, .sv (.one (.v (.int .u64 (Int.fdiv x0 (2 ^ (min 16 64))))))), (2, .sv (.one (I (wr (x2 + 16)))))], []⟩ (by kernel_rfl) ?_
        refine WL.nil ?_
        exact En.at (I := fun zz => J_2 zz.1 zz.2) (T := fun zz => ⟨[(0, .sv (.one (.v (.int .u64 zz.1)))), (2, .sv (.one (I zz.2)))], []⟩) ((Int.fdiv x0 (2 ^ (min 16 64))), (wr (x2 + 16))) h (by kernel_rfl)
      · replace h := h.2 hb
        refine En.skip ?_
        exact En.at (I := fun zz => J_2 zz.1 zz.2) (T := fun zz => ⟨[(0, .sv (.one (.v (.int .u64 zz.1)))), (2, .sv (.one (I zz.2)))], []⟩) (x0, x2) h (by kernel_rfl)
    · rintro ⟨x0_2, x2_2⟩ h
      replace h := hJ_2 _ _ h
      show En c ⟨[(0, .sv (.one (.v (.int .u64 x0_2)))), (2, .sv (.one (I x2_2)))], []⟩ _
      obtain ⟨J_3, h, hJ_3⟩ := h
      refine En.seqJ (σ := Int × Int) (fun zz => J_3 zz.1 zz.2) (fun zz => ⟨[(0, .sv (.one (.v (.int .u64 zz.1)))), (2, .sv (.one (I zz.2)))], []⟩) ?_ ?_
      · refine En.seq ?_
        refine En.region ?_
        refine WL.run ht hn 2 ⟨[(0, .sv (.one (.v (.int .u64 x0_2)))), (2, .sv (.one (I x2_2))), (14, .sv (.one (B (decide (x0_2 ≥ 256)))))], []⟩ (by kernel_rfl) ?_
        refine WL.nil ?_
        refine En.cond (b := (decide (x0_2 ≥ 256))) (by kernel_rfl) (fun hb => ?_) (fun hb => ?_)
        · replace h := h.1 hb
          refine En.seq ?_
          refine En.region ?_
          refine WL.run ht hn 3 ⟨[(0, .sv (.one (.v (.int .u64 (Int.fdiv x0_2 (2 ^ (min 8 64))))))), (2, .sv (.one (I x2_2)))], []⟩ (by kernel_rfl) ?_
          refine WL.nil ?_
          refine En.region ?_
          refine WL.run ht hn 3 ⟨[(0, .sv (.one (.v (.int .u64 (Int.fdiv x0_2 (2 ^ (min 8 64))))))), (2, .sv (.one (I (wr (x2_2 + 8)))))], []⟩ (by kernel_rfl) ?_
          refine WL.nil ?_
          exact En.at (I := fun zz => J_3 zz.1 zz.2) (T := fun zz => ⟨[(0, .sv (.one (.v (.int .u64 zz.1)))), (2, .sv (.one (I zz.2)))], []⟩) ((Int.fdiv x0_2 (2 ^ (min 8 64))), (wr (x2_2 + 8))) h (by kernel_rfl)
        · replace h := h.2 hb
          refine En.skip ?_
          exact En.at (I := fun zz => J_3 zz.1 zz.2) (T := fun zz => ⟨[(0, .sv (.one (.v (.int .u64 zz.1)))), (2, .sv (.one (I zz.2)))], []⟩) (x0_2, x2_2) h (by kernel_rfl)
      · rintro ⟨x0_3, x2_3⟩ h
        replace h := hJ_3 _ _ h
        show En c ⟨[(0, .sv (.one (.v (.int .u64 x0_3)))), (2, .sv (.one (I x2_3)))], []⟩ _
        refine En.seq ?_
        refine En.region ?_
        refine WL.run ht hn 3 ⟨[(19, .sv (.one (I x2_3))), (21, .sv (.one (.v (.int .u8 (IntKind.wrap .u8 x0_3)))))], []⟩ (by kernel_rfl) ?_
        obtain ⟨b, hb_2, h⟩ := h
        refine WL.val hn (by rfl) (val_indexS (s := litS20) (i := (IntKind.wrap .u8 x0_3)) rfl Tryz.underlying9 (by rfl) (by rfl) hb_2) (by rfl) ?_
        refine WL.run ht hn 3 ⟨[(2, .sv (.one (I (wr (x2_3 + (wr b))))))], []⟩ (by kernel_rfl) ?_
        refine WL.nil ?_
        refine En.ret ?_
        exact En.back ht (wr (x2_3 + (wr b))) h (by kernel_rfl) rfl
theorem en74 : ∀ args w, (callFunc 74 args).run Tryz.prog w = .ok (.enter 74 args) w := enters_of Tryz.func74 (by kernel_rfl) rfl
def lenOk (n : Nat) : Bool := match byteAt litS20 (n : Int) with
  | some b => decide (0 ≤ b) && decide (b ≤ 8) && decide (n < 2 ^ b.toNat)
  | none => false
theorem len_all : (List.range 256).all lenOk = true := by kernel_rfl
theorem len_at {x : Int} (h : 0 ≤ x ∧ x < 256) : ∃ b, byteAt litS20 x = some b ∧ 0 ≤ b ∧ b ≤ 8 ∧ x < 2 ^ b.toNat := by
  have h1 := List.all_eq_true.1 len_all x.toNat (List.mem_range.2 (by omega))
  unfold lenOk at h1
  rw [show ((x.toNat : Nat) : Int) = x by omega] at h1
  split at h1
  · rename_i b hb
    simp only [Bool.and_eq_true, decide_eq_true_eq] at h1
    refine ⟨b, hb, h1.1.1, h1.1.2, ?_⟩
    have h3 : ((x.toNat : Nat) : Int) < ((2 ^ b.toNat : Nat) : Int) := Int.ofNat_lt.2 h1.2
    rw [Int.natCast_pow, show ((x.toNat : Nat) : Int) = x by omega] at h3
    exact h3
  · cases h1
def LenQ (x r : Int) : Prop := 0 ≤ r ∧ r ≤ 64 ∧ x < 2 ^ r.toNat
theorem pow_up {x : Int} {a b : Nat} (h : x / 2 ^ a < 2 ^ b) : x < 2 ^ (a + b) := by
  have h0 : (0 : Int) < 2 ^ a := Int.pow_pos (by decide)
  have h1 : x < (x / 2 ^ a + 1) * 2 ^ a := Int.lt_ediv_add_one_mul_self x h0
  have h2 : (x / 2 ^ a + 1) * 2 ^ a ≤ 2 ^ b * 2 ^ a := Int.mul_le_mul_of_nonneg_right (by omega) (Int.le_of_lt h0)
  rw [Int.pow_add, Int.mul_comm (2 ^ a)]
  exact Int.lt_of_lt_of_le h1 h2
theorem bLen64_ct (x : Int) (hp : 0 ≤ x ∧ x < 18446744073709551616)  : Ct 74 [.sv (.one (.v (.int .u64 x)))] [] (LenQ x) (fun (r : Int) => .sv (.one (I r))) := by
  refine bLen64_walk x (LenQ x) ?_
  unfold bLen64_vc
  have d : ∀ (y : Int) (k : Nat), 0 ≤ y → Int.fdiv y (2 ^ k) = y / 2 ^ k := fun y k hy => Int.fdiv_eq_ediv_of_nonneg y (Int.le_of_lt (Int.pow_pos (by decide)))
  refine ⟨fun y n => 0 ≤ y ∧ y < 4294967296 ∧ (n = 0 ∨ n = 32) ∧ ∀ r : Nat, y < 2 ^ r → x < 2 ^ (n.toNat + r), ⟨fun h => ?_, fun h => ?_⟩, ?_⟩
  · rw [show min 32 64 = 32 from rfl, d x 32 hp.1]
    exact ⟨Int.ediv_nonneg hp.1 (by decide), Int.ediv_lt_of_lt_mul (by decide) (by omega), .inr rfl, fun r hr => pow_up (a := 32) hr⟩
  · have h := of_decide_eq_false h
    exact ⟨hp.1, by omega, .inl rfl, fun r hr => by simpa using hr⟩
  rintro y n ⟨h1, h2, h3, h4⟩
  refine ⟨fun z m => 0 ≤ z ∧ z < 65536 ∧ 0 ≤ m ∧ m ≤ 48 ∧ ∀ r : Nat, z < 2 ^ r → x < 2 ^ (m.toNat + r), ⟨fun h => ?_, fun h => ?_⟩, ?_⟩
  · rw [show min 16 64 = 16 from rfl, d y 16 h1, wr_in (by omega) (by omega)]
    refine ⟨Int.ediv_nonneg h1 (by decide), Int.ediv_lt_of_lt_mul (by decide) (by omega), by omega, by omega, fun r hr => ?_⟩
    have := h4 _ (pow_up (a := 16) hr)
    rwa [show (n + 16).toNat + r = n.toNat + (16 + r) by omega]
  · have h := of_decide_eq_false h
    exact ⟨h1, by omega, by omega, by omega, h4⟩
  rintro z m ⟨k1, k2, k3, k4, k5⟩
  refine ⟨fun u m => 0 ≤ u ∧ u < 256 ∧ 0 ≤ m ∧ m ≤ 56 ∧ ∀ r : Nat, u < 2 ^ r → x < 2 ^ (m.toNat + r), ⟨fun h => ?_, fun h => ?_⟩, ?_⟩
  · rw [show min 8 64 = 8 from rfl, d z 8 k1, wr_in (by omega) (by omega)]
    refine ⟨Int.ediv_nonneg k1 (by decide), Int.ediv_lt_of_lt_mul (by decide) (by omega), by omega, by omega, fun r hr => ?_⟩
    have := k5 _ (pow_up (a := 8) hr)
    rwa [show (m + 8).toNat + r = m.toNat + (8 + r) by omega]
  · have h := of_decide_eq_false h
    exact ⟨k1, by omega, k3, by omega, k5⟩
  rintro u m ⟨l1, l2, l3, l4, l5⟩
  obtain ⟨b, hb, b0, b8, hu⟩ := len_at ⟨l1, l2⟩
  refine ⟨b, ?_, ?_⟩
  · rw [show IntKind.wrap .u8 u = u from Int.emod_eq_of_lt l1 l2]
    exact hb
  · rw [wr_in (n := b) (by omega) (by omega), wr_in (by omega) (by omega)]
    refine ⟨by omega, by omega, ?_⟩
    have := l5 _ hu
    rwa [show (m + b).toNat = m.toNat + b.toNat by omega]
def bLen_vc (x : Int) (Q : Int → Prop) : Prop :=
  (0 ≤ x ∧ x < 18446744073709551616) ∧
  ∀ r : Int, (LenQ x) r →
  (Q r)
theorem bLen_walk (x : Int) (Q : Int → Prop) (h : bLen_vc x Q) : Ct 59 [.sv (.one (.v (.int .u64 x)))] [] Q (fun (r : Int) => .sv (.one (I r))) := by
  have ht := tab_ok
  refine Ct.body Tryz.func59 rfl rfl rfl rfl (fun c hn => ?_)
  unfold bLen_vc at h
  refine En.seq ?_
  refine En.region ?_
  refine WL.run ht hn 1 ⟨[(0, .sv (.one (.v (.int .u64 x))))], []⟩ (by kernel_rfl) ?_
  refine WL.nil ?_
  refine En.seq ?_
  refine En.cond (b := false) (by kernel_rfl) (fun hb => ?_) (fun hb => ?_)
  · cases hb
  · refine En.skip ?_
    refine En.seq ?_
    refine En.region ?_
    refine WL.run ht hn 1 ⟨[(6, .sv (.one (.v (.int .u64 x))))], []⟩ (by kernel_rfl) ?_
    have hp := h.1
    replace h := h.2
    refine WL.mtQ (Q := LenQ x) (x := fun (r : Int) => .sv (.one (I r))) (p := fun _ => none) hn (by rfl) (mtq_call (bLen64_ct x hp) en74 (caps := []) [] rfl (by rfl) (by kernel_rfl) (by kernel_rfl) (by rfl) (fun _ => rfl) (by rfl)) (fun r hr_2 => ⟨by rfl, _, by rfl, ?_⟩)
    replace h := h r hr_2
    refine WL.run ht hn 1 ⟨[(2, .sv (.one (I r)))], []⟩ (by kernel_rfl) ?_
    refine WL.nil ?_
    refine En.ret ?_
    exact En.back ht r h (by kernel_rfl) rfl
theorem en59 : ∀ args w, (callFunc 59 args).run Tryz.prog w = .ok (.enter 59 args) w := enters_of Tryz.func59 (by kernel_rfl) rfl
theorem bLen_ct (x : Int) (hp : 0 ≤ x ∧ x < 18446744073709551616)  : Ct 59 [.sv (.one (.v (.int .u64 x)))] [] (LenQ x) (fun (r : Int) => .sv (.one (I r))) := by
  refine bLen_walk x (LenQ x) ?_
  unfold bLen_vc
  exact ⟨hp, fun r hr => hr⟩
def bBit_vc (x : List Int) (Q : Int → Prop) : Prop :=
  x.length ≤ 9223372036854775807 →
  (IfP (decide ((wr ((x.length : Int) - 1)) ≥ 0)) (∃ e, idx x (wr ((x.length : Int) - 1)) = some e ∧
  ∀ x_2 : Int, x_2 = (bitsI .or .u64 (bitsI .or .u64 e (Int.fdiv e (2 ^ (min 1 64)))) (Int.fdiv (bitsI .or .u64 e (Int.fdiv e (2 ^ (min 1 64)))) (2 ^ (min 2 64)))) →
  ∀ x_3 : Int, x_3 = (bitsI .or .u64 (bitsI .or .u64 x_2 (Int.fdiv x_2 (2 ^ (min 4 64)))) (Int.fdiv (bitsI .or .u64 x_2 (Int.fdiv x_2 (2 ^ (min 4 64)))) (2 ^ (min 8 64)))) →
  ∀ x_4 : Int, x_4 = (bitsI .or .u64 (bitsI .or .u64 x_3 (Int.fdiv x_3 (2 ^ (min 16 64)))) (Int.fdiv (Int.fdiv (bitsI .or .u64 x_3 (Int.fdiv x_3 (2 ^ (min 16 64)))) (2 ^ (min 16 64))) (2 ^ (min 16 64)))) →
  (0 ≤ x_4 ∧ x_4 < 18446744073709551616) ∧
  ∀ r : Int, (LenQ x_4) r →
  (Q (wr ((wr ((wr ((x.length : Int) - 1)) * 64)) + r)))) (Q 0))
theorem bBit_walk (x : List Int) (Q : Int → Prop) (h : bBit_vc x Q) : Ct 47 [.sv (.one (LS (intKT .u64) x))] [] Q (fun (r : Int) => .sv (.one (I r))) := by
  have ht := tab_ok
  refine Ct.body Tryz.func47 rfl rfl rfl rfl (fun c hn => ?_)
  unfold bBit_vc at h
  refine En.lenL 0 (by rfl) (fun hl => ?_)
  replace h := h hl
  clear hl
  refine En.seq ?_
  refine En.region ?_
  refine WL.run ht hn 1 ⟨[(0, .sv (.one (LS (intKT .u64) x)))], []⟩ (by kernel_rfl) ?_
  refine WL.nil ?_
  refine En.seq ?_
  refine En.seq ?_
  refine En.region ?_
  refine WL.run ht hn 4 ⟨[(0, .sv (.one (LS (intKT .u64) x))), (3, .sv (.one (I (wr ((x.length : Int) - 1)))))], []⟩ (by kernel_rfl) ?_
  refine WL.nil ?_
  refine En.seq ?_
  refine En.region ?_
  refine WL.run ht hn 2 ⟨[(0, .sv (.one (LS (intKT .u64) x))), (3, .sv (.one (I (wr ((x.length : Int) - 1))))), (9, .sv (.one (B (decide ((wr ((x.length : Int) - 1)) ≥ 0)))))], []⟩ (by kernel_rfl) ?_
  refine WL.nil ?_
  refine En.cond (b := (decide ((wr ((x.length : Int) - 1)) ≥ 0))) (by kernel_rfl) (fun hb => ?_) (fun hb => ?_)
  · replace h := h.1 hb
    refine En.seq ?_
    refine En.region ?_
    refine WL.run ht hn 2 ⟨[(3, .sv (.one (I (wr ((x.length : Int) - 1))))), (10, .sv (.one (LS (intKT .u64) x))), (11, .sv (.one (I (wr ((x.length : Int) - 1)))))], []⟩ (by kernel_rfl) ?_
    obtain ⟨e, he, h⟩ := h
    refine WL.val hn (by rfl) (val_index (T := (intKT .u64)) (l := x) (i := (wr ((x.length : Int) - 1))) ht rfl (by rfl) (by rfl) (by rfl) (by rfl) (by rfl) (by rfl) he) (by rfl) ?_
    refine WL.val hn (by rfl) (val_load (s := .one (.v (.int .u64 e))) ht rfl (by rfl) (by rfl) (by rfl) (by rfl) (by rfl)) (by rfl) ?_
    refine WL.run ht hn 1 ⟨[(3, .sv (.one (I (wr ((x.length : Int) - 1))))), (4, .sv (.one (.v (.int .u64 e))))], []⟩ (by kernel_rfl) ?_
    refine WL.nil ?_
    refine En.seq ?_
    refine En.region ?_
    refine WL.run ht hn 5 ⟨[(3, .sv (.one (I (wr ((x.length : Int) - 1))))), (4, .sv (.one (.v (.int .u64 (bitsI .or .u64 e (Int.fdiv e (2 ^ (min 1 64))))))))], []⟩ (by kernel_rfl) ?_
    refine WL.nil ?_
    refine En.seq ?_
    refine En.region ?_
    refine WL.run ht hn 5 ⟨[(3, .sv (.one (I (wr ((x.length : Int) - 1))))), (4, .sv (.one (.v (.int .u64 (bitsI .or .u64 (bitsI .or .u64 e (Int.fdiv e (2 ^ (min 1 64)))) (Int.fdiv (bitsI .or .u64 e (Int.fdiv e (2 ^ (min 1 64)))) (2 ^ (min 2 64))))))))], []⟩ (by kernel_rfl) ?_
    refine WL.nil ?_
    refine En.seq ?_
    obtain ⟨x_2, hx⟩ : ∃ x_2 : Int, x_2 = (bitsI .or .u64 (bitsI .or .u64 e (Int.fdiv e (2 ^ (min 1 64)))) (Int.fdiv (bitsI .or .u64 e (Int.fdiv e (2 ^ (min 1 64)))) (2 ^ (min 2 64)))) := ⟨_, rfl⟩
    rw [← hx]
    replace h := h x_2 hx
    refine En.region ?_
    refine WL.run ht hn 5 ⟨[(3, .sv (.one (I (wr ((x.length : Int) - 1))))), (4, .sv (.one (.v (.int .u64 (bitsI .or .u64 x_2 (Int.fdiv x_2 (2 ^ (min 4 64))))))))], []⟩ (by kernel_rfl) ?_
    refine WL.nil ?_
    refine En.seq ?_
    refine En.region ?_
    refine WL.run ht hn 5 ⟨[(3, .sv (.one (I (wr ((x.length : Int) - 1))))), (4, .sv (.one (.v (.int .u64 (bitsI .or .u64 (bitsI .or .u64 x_2 (Int.fdiv x_2 (2 ^ (min 4 64)))) (Int.fdiv (bitsI .or .u64 x_2 (Int.fdiv x_2 (2 ^ (min 4 64)))) (2 ^ (min 8 64))))))))], []⟩ (by kernel_rfl) ?_
    refine WL.nil ?_
    refine En.seq ?_
    obtain ⟨x_3, hx_2⟩ : ∃ x_3 : Int, x_3 = (bitsI .or .u64 (bitsI .or .u64 x_2 (Int.fdiv x_2 (2 ^ (min 4 64)))) (Int.fdiv (bitsI .or .u64 x_2 (Int.fdiv x_2 (2 ^ (min 4 64)))) (2 ^ (min 8 64)))) := ⟨_, rfl⟩
    rw [← hx_2]
    replace h := h x_3 hx_2
    refine En.region ?_
    refine WL.run ht hn 5 ⟨[(3, .sv (.one (I (wr ((x.length : Int) - 1))))), (4, .sv (.one (.v (.int .u64 (bitsI .or .u64 x_3 (Int.fdiv x_3 (2 ^ (min 16 64))))))))], []⟩ (by kernel_rfl) ?_
    refine WL.nil ?_
    refine En.seq ?_
    refine En.region ?_
    refine WL.run ht hn 6 ⟨[(3, .sv (.one (I (wr ((x.length : Int) - 1))))), (4, .sv (.one (.v (.int .u64 (bitsI .or .u64 (bitsI .or .u64 x_3 (Int.fdiv x_3 (2 ^ (min 16 64)))) (Int.fdiv (Int.fdiv (bitsI .or .u64 x_3 (Int.fdiv x_3 (2 ^ (min 16 64)))) (2 ^ (min 16 64))) (2 ^ (min 16 64))))))))], []⟩ (by kernel_rfl) ?_
    refine WL.nil ?_
    refine En.seq ?_
    obtain ⟨x_4, hx_3⟩ : ∃ x_4 : Int, x_4 = (bitsI .or .u64 (bitsI .or .u64 x_3 (Int.fdiv x_3 (2 ^ (min 16 64)))) (Int.fdiv (Int.fdiv (bitsI .or .u64 x_3 (Int.fdiv x_3 (2 ^ (min 16 64)))) (2 ^ (min 16 64))) (2 ^ (min 16 64)))) := ⟨_, rfl⟩
    rw [← hx_3]
    replace h := h x_4 hx_3
    refine En.region ?_
    refine WL.run ht hn 3 ⟨[(40, .sv (.one (I (wr ((wr ((x.length : Int) - 1)) * 64))))), (41, .sv (.one (.v (.int .u64 x_4))))], []⟩ (by kernel_rfl) ?_
    have hp := h.1
    replace h := h.2
    refine WL.mtQ (Q := LenQ x_4) (x := fun (r : Int) => .sv (.one (I r))) (p := fun _ => none) hn (by rfl) (mtq_call (bLen_ct x_4 hp) en59 (caps := []) [] rfl (by rfl) (by kernel_rfl) (by kernel_rfl) (by rfl) (fun _ => rfl) (by rfl)) (fun r hr_2 => ⟨by rfl, _, by rfl, ?_⟩)
    replace h := h r hr_2
    refine WL.run ht hn 2 ⟨[(2, .sv (.one (I (wr ((wr ((wr ((x.length : Int) - 1)) * 64)) + r)))))], []⟩ (by kernel_rfl) ?_
    refine WL.nil ?_
    refine En.ret ?_
    exact En.back ht (wr ((wr ((wr ((x.length : Int) - 1)) * 64)) + r)) h (by kernel_rfl) rfl
  · replace h := h.2 hb
    refine En.skip ?_
    refine En.seq ?_
    refine En.region ?_
    refine WL.run ht hn 1 ⟨[(2, .sv (.one (I 0)))], []⟩ (by kernel_rfl) ?_
    refine WL.nil ?_
    refine En.ret ?_
    exact En.back ht 0 h (by kernel_rfl) rfl
theorem en47 : ∀ args w, (callFunc 47 args).run Tryz.prog w = .ok (.enter 47 args) w := enters_of Tryz.func47 (by kernel_rfl) rfl
def In62 (v x : Int) : Prop := v ≤ x ∧ 0 ≤ x ∧ x < 4611686018427387904
theorem orU {v a b : Int} (ha : In62 v a) (hb : 0 ≤ b ∧ b < 4611686018427387904) : In62 v (bitsI .or .u64 a b) := by
  obtain ⟨h1, h2, h3⟩ := ha
  obtain ⟨n, rfl⟩ := Int.eq_ofNat_of_zero_le h2
  obtain ⟨m, rfl⟩ := Int.eq_ofNat_of_zero_le hb.1
  have hn : n < 2 ^ 62 := by
    have : (2 : Nat) ^ 62 = 4611686018427387904 := by decide
    omega
  have hm : m < 2 ^ 62 := by
    have : (2 : Nat) ^ 62 = 4611686018427387904 := by decide
    omega
  have e : bitsI .or .u64 (n : Int) (m : Int) = ((n ||| m : Nat) : Int) := (bits_nat .u64 62 (by decide) (fun x h0 h1 => by
    show x % 2 ^ 64 = x
    have : (2 : Int) ^ 62 = 4611686018427387904 := by decide
    exact Int.emod_eq_of_lt h0 (by omega)) n m hn hm).2
  rw [e]
  have h4 := Nat.or_lt_two_pow hn hm
  have h5 : n ≤ n ||| m := Nat.left_le_or
  have : (2 : Nat) ^ 62 = 4611686018427387904 := by decide
  exact ⟨by omega, by omega, by omega⟩
theorem divU {x : Int} (h : 0 ≤ x ∧ x < 4611686018427387904) (k : Nat) : 0 ≤ Int.fdiv x (2 ^ k) ∧ Int.fdiv x (2 ^ k) < 4611686018427387904 := by
  have h0 : (0 : Int) < 2 ^ k := Int.pow_pos (by decide)
  rw [Int.fdiv_eq_ediv_of_nonneg x (Int.le_of_lt h0)]
  refine ⟨Int.ediv_nonneg h.1 (Int.le_of_lt h0), Int.lt_of_le_of_lt (Int.ediv_le_self _ h.1) h.2⟩
theorem sprU {v x : Int} (h : In62 v x) (k : Nat) : In62 v (bitsI .or .u64 x (Int.fdiv x (2 ^ k))) := orU h (divU h.2 k)
theorem bBit_ct (x : List Int) (v : Int) (hp : x = [v] ∧ 0 < v ∧ v < 4611686018427387904)  : Ct 47 [.sv (.one (LS (intKT .u64) x))] [] (LenQ v) (fun (r : Int) => .sv (.one (I r))) := by
  refine bBit_walk x (LenQ v) ?_
  obtain ⟨rfl, h0, h1⟩ := hp
  unfold bBit_vc
  intro _
  refine ⟨fun _ => ⟨v, rfl, fun a ha b hb c hc => ?_⟩, fun h => (by cases h)⟩
  have hv : In62 v v := ⟨Int.le_refl _, by omega, h1⟩
  have hA : In62 v a := by rw [ha]; exact sprU (sprU hv _) _
  have hB : In62 v b := by rw [hb]; exact sprU (sprU hA _) _
  have hC : In62 v c := by
    rw [hc]
    have h2 := sprU hB (min 16 64)
    exact orU h2 (divU (divU h2.2 _) _)
  refine ⟨⟨hC.2.1, by have := hC.2.2; omega⟩, fun r hr => ?_⟩
  obtain ⟨r0, r1, r2⟩ := hr
  rw [show wr ((([v] : List Int).length : Int) - 1) = 0 from rfl, show wr ((0 : Int) * 64) = 0 from rfl, Int.zero_add, wr_in (by omega) (by omega)]
  exact ⟨r0, r1, Int.lt_of_le_of_lt hC.1 r2⟩
def glMono (G : Gh → Prop) : Prop := ∀ g g', Gh.le g g' → G g → G g'
def CtG (G : Gh → Prop) {β : Type} (f : Nat) (ins : List SC) (M : List Item) (post : β → Prop) (out : β → SC) : Prop := ∀ (w : World) (g : Gh) (hs : Nat → Value) (args : List Value), G g → Pers g w → okArgs g hs ins args → (∀ (i : Nat) (it : Item), M[i]? = some it → fzOk g hs (hs i) it) →
  Calls Tryz.prog f args.toArray w (RetP w g post out)
theorem CtG.fun {β : Type} {G : Gh → Prop} {f : Nat} {ins : List SC} {M : List Item} {r : β} {out : β → SC} (h : CtG G f ins M (fun x => x = r) out) : CtG G f ins M (fun (_ : Unit) => True) (fun _ => out r) := fun w g hs args h0 h1 h2 h3 =>
  (h w g hs args h0 h1 h2 h3).mono fun e w' ⟨v, g', r', e1, e2, e3, e4⟩ => ⟨v, g', (), e1, trivial, by subst e2; exact e3, e4⟩
theorem CtG.body {β : Type} {G : Gh → Prop} {f : Nat} {fn : Func} {code : Code} {n : Nat} {rs : Array ResultVar} {ins : List SC} {M : List Item} {post : β → Prop} {out : β → SC} (hf : Tryz.prog.funcs[f]? = some fn) (hb : fn.body = some code) (hn : fn.ntmps = n) (hr : fn.results = rs)
    (hl : Nat.ble ins.length n = true) (h : ∀ c : Cfg, c.n = n → G c.g0 → En c ⟨enumF 0 ins, M⟩ (cwp code (PQ c (RetA c rs post out) [] (RetA c rs post out)))) : CtG G f ins M post out := fun w g hs args hGg hp ha hm => by
  have hl := Nat.le_of_ble_eq_true hl
  have hla := okArgs_length ha
  refine calls_of_wp hf hb (Code.wp_mono (fun e a w' q => ?_) (h (cfg0 n w g) rfl hGg { tmps := args.toArray ++ Array.replicate (fn.ntmps - args.toArray.size) undef, defers := [] } w ⟨g, hs, ?_⟩))
  · have key : RetA (cfg0 n w g) rs post out a w' → a.defers = [] ∧ ∃ v, (results fn a.tmps).run Tryz.prog w' = .ok v w' ∧ RetP w g post out (.returned v) w' := fun ⟨h1, v, g', r, h2, h3, h4, h5⟩ => by
      refine ⟨h1, v, ?_, v, g', r, rfl, h3, h4, h5.os, h5.tape, h5.output, h5.grows, h5.frame, h5.ghle, h5.ghnew, h5.pers⟩
      subst hr
      exact h2
    cases e <;> first | exact key q | exact (q : False).elim | exact (q.2 : False).elim
  · refine ⟨?_, rfl, ⟨rfl, rfl, rfl, Nat.le_refl _, fun _ _ _ => rfl, Gh.le.refl g, fun b o e => .inl e, hp⟩, fun t x hx => ?_, fun i it hi => ?_, ?_, ?_⟩
    · simp [cfg0, hn]
      omega
    · obtain ⟨u, h1, _, h3⟩ := enumF_ok ha hx
      simp only [Nat.sub_zero] at h1
      have hlt := (List.getElem?_eq_some_iff.1 h1).1
      have : (args.toArray ++ Array.replicate (fn.ntmps - args.toArray.size) undef).getD t undef = u := by
        rw [Array.getD_eq_getD_getElem?, Array.getElem?_append_left (by simpa using hlt)]
        simp [h1]
      rw [this]
      exact h3
    · have := hm i it hi
      cases it <;> try exact this.elim
      rename_i cells ty fz
      cases fz
      · exact this.elim
      · obtain ⟨b, cs, h1, h2, h3⟩ := this
        exact ⟨b, cs, h1, h2, hp _ _ h3, fun _ => h3⟩
    · intro i j it jt _ hi _ hfi
      have := hm i it hi
      cases it <;> try exact this.elim
      rename_i cells ty fz
      cases fz
      · exact this.elim
      · cases hfi
    · intro i it hi hnn b hb
      clear hnn
      have := hm i it hi
      cases it <;> try exact this.elim
      rename_i cells ty fz
      cases fz
      · exact this.elim
      · obtain ⟨b', cs, h1, h2, h3⟩ := this
        rw [h1] at hb
        cases hb
        exact ⟨hp.lt h3, fun h => by cases h⟩
theorem CtG.bodyD {β : Type} {G : Gh → Prop} {f : Nat} {fn : Func} {code : Code} {n : Nat} {ins : List SC} {post : β → Prop} {out : β → SC} (hf : Tryz.prog.funcs[f]? = some fn) (hb : fn.body = some code) (hn : fn.ntmps = n) (hl : Nat.ble ins.length n = true)
    (h : ∀ (c : Cfg) (R : Ending → World → Prop), c.n = n → G c.g0 → c.dfr = [] → (∀ v w' g' r, post r → (out r).ok g' hs0 v → Base c w' g' → R (.returned v) w') → (∀ ch a w', Leaves Tryz.prog fn a.tmps R a.defers (.panicking ch) w' → c.pan ch a w') → En c ⟨enumF 0 ins, []⟩ (cwp code (PQ c (RetL fn R) [] (RetL fn R)))) : CtG G f ins [] post out := fun w g hs args hGg hp ha hm => by
  have hl := Nat.le_of_ble_eq_true hl
  have hla := okArgs_length ha
  let R := RetP w g post out
  let c : Cfg := ⟨n, w, g, fun _ => False, [], fun ch a w' => Leaves Tryz.prog fn a.tmps R a.defers (.panicking ch) w'⟩
  have hR : ∀ v w' g' r, post r → (out r).ok g' hs0 v → Base c w' g' → R (.returned v) w' := fun v w' g' r h1 h2 h3 => ⟨v, g', r, rfl, h1, h2, h3.cast rfl rfl rfl⟩
  refine calls_of_wp_defers hf hb (Code.wp_mono (fun e a w' q => ?_) (h c R rfl hGg rfl hR (fun _ _ _ h => h) { tmps := args.toArray ++ Array.replicate (fn.ntmps - args.toArray.size) undef, defers := [] } w ⟨g, hs, ?_⟩))
  · cases e with
    | panic ch => exact q
    | normal => exact q
    | ret => exact q
    | exit _ => exact (q : False).elim
    | goto _ => exact (q : False).elim
    | outgrown => exact (q : False).elim
  · refine ⟨?_, rfl, ⟨rfl, rfl, rfl, Nat.le_refl _, fun _ _ _ => rfl, Gh.le.refl g, fun b o e => .inl e, hp⟩, fun t x hx => ?_, fun i it hi => by simp at hi, fun i j it jt _ hi => by simp at hi, fun i it hi => by simp at hi⟩
    · simp [c, hn]
      omega
    · obtain ⟨u, h1, _, h3⟩ := enumF_ok ha hx
      simp only [Nat.sub_zero] at h1
      have hlt := (List.getElem?_eq_some_iff.1 h1).1
      have : (args.toArray ++ Array.replicate (fn.ntmps - args.toArray.size) undef).getD t undef = u := by
        rw [Array.getD_eq_getD_getElem?, Array.getElem?_append_left (by simpa using hlt)]
        simp [h1]
      rw [this]
      exact h3
section
variable {c : Cfg} {S S1 : St} {a : Act} {w : World} {g : Gh} {hs : Nat → Value} {tab : Tab} {n : Nat} {o : Oper} {ops : Array Oper} {rest : List Oper} {N : Po}
theorem mt_callG {G : Gh → Prop} {f : Nat} {ins : List SC} {M : List Item} {x : SC} (ct : CtG G f ins M (fun (_ : Unit) => True) (fun _ => x)) (hG : G c.g0) (hmn : glMono G) (en : ∀ args w, (callFunc f args).run Tryz.prog w = .ok (.enter f args) w) {caps : List Nat} (rn : List Nat) {fo : Operand} {args : Array Operand} {ats : Array TypeId}
    (ho : o.op = .call ⟨.value fo, args, ats⟩) (hf : evX S.F fo = some (.sv (.one (.fn f caps)))) (ha : (match evXs S.F args.toList with | some l => some (l ++ caps.map fun i => .sv (.one (.ptr i 0))) | none => none) = some (ins.map (SC.ren fun i => rn.getD i 0)))
    (hM : fzE S.M (fun i => rn.getD i 0) 0 M = M.map fun it => some (it.ren fun i => rn.getD i 0)) (hz : M.all fzB = true) (hcl : x.refs = []) (hcb : caps.all (boxB S) = true) : MT c S o x [] none := fun a w g hs h N Z hN => by
  unfold Oper.wp
  have hfv : a.eval fo = .func (.func f) #[] (caps.map hs).toArray := (evX_ok h hf).1
  split at ha
  case h_2 => cases ha
  rename_i l hl
  simp only [Option.some.injEq] at ha
  have h1 := evXs_ok h hl
  have hcp : ∀ i ∈ caps, ∃ b, hs i = .pointer (some ⟨b, 0, none⟩) := fun i hi => by
    have := List.all_eq_true.1 hcb i hi
    unfold boxB at this
    cases hm : S.M[i]? with
    | none => rw [hm] at this; cases this
    | some it =>
      rw [hm] at this
      cases it <;> try (cases this; done)
      obtain ⟨b, cs, h1, _⟩ := h.items i _ hm
      exact ⟨b, h1⟩
  have h2 : okArgs g hs (caps.map fun i => SC.sv (.one (.ptr i 0))) (caps.map hs) := by
    clear ha hf hfv hcb
    induction caps with
    | nil => trivial
    | cons i caps ih =>
      refine ⟨?_, ih (fun j hj => hcp j (List.mem_cons_of_mem _ hj))⟩
      obtain ⟨b, hb⟩ := hcp i (by simp)
      exact ⟨⟨b, hb, hb⟩, by rw [hb]; trivial⟩
  have h3 := okArgs_append h1 h2
  rw [ha] at h3
  have h4 := okArgs_ren h3
  have hrun : (execOp a.eval o).run Tryz.prog w = .ok (.enter f ((args.toList.map a.eval) ++ caps.map hs).toArray) w := by
    unfold execOp
    simp only [ho, resolve, hfv, Deferred.ofValue, Sem.run_bind, Sem.run_pure, Result.andThen_ok, invoke]
    rw [show (#[] ++ Array.map a.eval args ++ (List.map hs caps).toArray : Array Value) = (args.toList.map a.eval ++ caps.map hs).toArray by simp]
    exact en _ _
  rw [hrun]
  refine (ct w g (fun i => hs (rn.getD i 0)) _ (hmn _ _ h.base.ghle hG) h.base.pers h4 (fun i it hi => ?_)).mono ?_
  · have h5 := fzE_ok hM i it hi
    rw [Nat.zero_add] at h5
    exact fz_of h5 (List.all_eq_true.1 hz it (List.mem_of_getElem? hi)) h
  · rintro e w' ⟨v, g', r, rfl, h5, h6, h7⟩
    exact hN v w' g' undef (Eff.of_base h7) (SC.ok_closed' hcl h6) trivial
theorem pptr_v {i B : Nat} : ∀ a w g hs, Ok' c S a w g hs → ∀ u, SC.ok g hs (.sv (.one (.pptr i 0 B))) u → SC.ok g hs (.sv (.one (.v (.pointer (some ⟨B, 0, none⟩))))) u := fun _ _ g hs _ u hu => ⟨hu.1.2, hu.2⟩
theorem ptr_v {t i B : Nat} (h : look t S.F = some (.sv (.one (.pptr i 0 B)))) : ∀ a w g hs, Ok' c S a w g hs → ∀ u, SC.ok g hs (.sv (.one (.ptr i 0))) u → SC.ok g hs (.sv (.one (.v (.pointer (some ⟨B, 0, none⟩))))) u := fun a w g hs hk u hu => by
  have e0 := (hk.slots t _ (look_mem h)).1.1
  obtain ⟨⟨b', k0, k1⟩, k2⟩ := hu
  rw [e0] at k0
  cases k0
  exact ⟨k1, k2⟩
theorem val_eqOp {α : Type} {T : Ty α} {q : Option α} {x y : Operand} {b : TypeId} {t e : Nat} {op : BinOp} {r : Bool} (ho : o.op = .binOp op t x y b) (ht : Tryz.prog.underlying t = some (.pointer e)) (hx : evX S.F x = some (.sv (.one (.rd (optPe T q))))) (hy : evX S.F y = some (.sv (.one (.v (.pointer none))))) (hop : (op = .eql ∧ r = q.isNone) ∨ (op = .neq ∧ r = !q.isNone)) : Val c S o (.sv (.one (.v (.bool r)))) := by
  refine val_eqN (p := q.map fun _ => ⟨0, 0, none⟩) ho ht (fun a w g hs h => ?_) hy (by rcases hop with ⟨h1, rfl⟩ | ⟨h1, rfl⟩ <;> simp [h1])
  have h1 := (evX_ok h hx).1
  cases q with
  | none => exact ⟨none, h1, rfl⟩
  | some z =>
    obtain ⟨b, off, z, e, h2⟩ := h1
    exact ⟨_, e, rfl⟩
theorem val_eqV {x y : Operand} {t : Nat} {b : TypeId} {bop : BinOp} {V : Value} {r : Bool} (ho : o.op = .binOp bop t x y b) (hx : evX S.F x = some (.sv (.one (.v V)))) (hy : evX S.F y = some (.sv (.one (.v V)))) (hb : bop = .eql ∨ bop = .neq) (hrun : ∀ w, (do eqGuard bop t x y V V; binOp bop t V V : Sem Value).run Tryz.prog w = .ok (.bool r) w) : Val c S o (.sv (.one (B r))) := fun a w g hs h => by
  have h1 : a.eval x = V := (evX_ok h hx).1
  have h2 : a.eval y = V := (evX_ok h hy).1
  refine ⟨_, ?_, rfl, trivial⟩
  have e : execOp a.eval o = (do pure (.value (← (do eqGuard bop t x y (a.eval x) (a.eval y); binOp bop t (a.eval x) (a.eval y) : Sem Value))) : Sem Next) := by unfold execOp; rw [ho]
  rw [e]
  refine run_val ?_
  rw [h1, h2]
  exact hrun w
theorem WL.deferP {F t i : Nat} {x : Operand} {ats : Array TypeId} (hw : wantE ops S.F o = some true) (ho : o.op = .defer ⟨.value (.func F), #[x], ats⟩) (hd : o.dst = none) (hx : evX S.F x = some (.sv (.one (.ptr i 0)))) (ht : look t S.F = some (.sv (.one (.ptr i 0)))) (hc : c.dfr = [])
    (h : ∀ (c' : Cfg) (B : Nat), c'.n = c.n → c'.w0 = c.w0 → c'.g0 = c.g0 → c'.may = c.may → c'.pan = c.pan → c'.dfr = [⟨.fn (.func F) #[], #[.pointer (some ⟨B, 0, none⟩)]⟩] → WL c' ops rest ⟨(t, .sv (.one (.pptr i 0 B))) :: S.F, S.M⟩ N) : WL c ops (o :: rest) S N := fun a w ⟨g, hs, hk⟩ => by
  unfold wpList
  rw [if_pos (wantE_ok hk hw)]
  refine .inl ?_
  unfold Oper.wp
  obtain ⟨⟨b, e0, e1⟩, _⟩ := evX_ok hk hx
  obtain ⟨⟨b', k0, k1⟩, k2⟩ := hk.slots t _ (look_mem ht)
  have hb : b' = b := by rw [e0] at k0; simpa using k0.symm
  subst hb
  have hrun : (execOp a.eval o).run Tryz.prog w = .ok (.defer ⟨.fn (.func F) #[], #[.pointer (some ⟨b', 0, none⟩)]⟩) w := by
    unfold execOp
    simp only [ho, resolve, Act.eval, Deferred.ofValue, Sem.run_bind, Sem.run_pure, Result.andThen_ok]
    have e1' : a.eval x = .pointer (some ⟨b', 0, none⟩) := e1
    simp [e1']
  rw [hrun]
  show wpList Tryz.prog ops (OnlyP c N) rest _ w
  let c' : Cfg := { c with dfr := [⟨.fn (.func F) #[], #[.pointer (some ⟨b', 0, none⟩)]⟩] }
  have := h c' b' rfl rfl rfl rfl rfl rfl ({ a with defers := ⟨.fn (.func F) #[], #[.pointer (some ⟨b', 0, none⟩)]⟩ :: a.defers }.put o.dst undef) w ⟨g, hs, ?_⟩
  · have e : OnlyP c' N = OnlyP c N := rfl
    rw [← e]
    exact this
  · rw [hd]
    refine ⟨hk.size, ?_, hk.base.cast rfl rfl rfl, fun t' y hy => ?_, hk.items, hk.sep, hk.mine⟩
    · show (⟨.fn (.func F) #[], #[.pointer (some ⟨b', 0, none⟩)]⟩ : Deferred) :: a.defers = _
      rw [hk.defers, hc]
    · rcases List.mem_cons.1 hy with hy | hy
      · cases hy
        exact ⟨⟨e0, k1⟩, k2⟩
      · exact hk.slots t' y hy
theorem En.backPl {β : Type} {fn : Func} {R : Ending → World → Prop} {rs : Array ResultVar} {post : β → Prop} {out : β → SC} {F B ty : Nat} {fz : Bool} {cells : List At} (t i : Nat) (ht : tab.ok) (hr : fn.results = rs) (hR : ∀ v w' g' r, post r → (out r).ok g' hs0 v → Base c w' g' → R (.returned v) w')
    (hdf : c.dfr = [⟨.fn (.func F) #[], #[.pointer (some ⟨B, 0, none⟩)]⟩]) (h0 : look t S.F = some (.sv (.one (.pptr i 0 B)))) (hm : S.M[i]? = some (.box cells ty fz)) (hcl0 : cells = [.v (.pointer none)])
    (ct : ∀ (w : World) (b : Nat), w.cell? ⟨b, 0, none⟩ = some (.pointer none) → CallsD Tryz.prog F #[.pointer (some ⟨b, 0, none⟩)] .returning w (fun e u' w' => u' = .returning ∧ (∃ v, e = .returned v) ∧ w' = w)) (en : ∀ args w, (callFunc F args).run Tryz.prog w = .ok (.enter F args) w)
    (r : β) (hp : post r) (e : evR tab S rs = some (out r)) (hcl : (out r).refs = []) : En c S (RetL fn R) := fun a w ⟨g, hs, hk⟩ => by
  show Leaves Tryz.prog fn a.tmps R a.defers .returning w
  rw [hk.defers, hdf]
  have e0 : hs i = .pointer (some ⟨B, 0, none⟩) := (hk.slots t _ (look_mem h0)).1.1
  obtain ⟨b', cs, k1, k2, k3, _⟩ := hk.items i _ hm
  rw [e0] at k1
  have hb : B = b' := by simpa using k1
  subst hb hcl0
  have hcell : w.cell? ⟨B, 0, none⟩ = some (.pointer none) := by
    match cs, k2 with
    | [c0], k2 =>
      have e1 : c0 = .pointer none := k2.1.1
      unfold World.cell?
      simp only [k3, e1]
      rfl
  refine leaves_cons (f := F) (args := #[.pointer (some ⟨B, 0, none⟩)]) (by simp) (by
    simp only [invoke]
    rw [show (#[Value.pointer (some ⟨B, 0, none⟩)] ++ #[] : Array Value) = #[.pointer (some ⟨B, 0, none⟩)] by simp]
    exact en _ _) ?_
  refine (ct w B hcell).mono ?_
  rintro e' u2 w' ⟨rfl, ⟨v, rfl⟩, rfl⟩
  show Leaves Tryz.prog fn a.tmps R [] .returning w'
  obtain ⟨v', r1, r2⟩ := evR_ok ht hk e
  refine ⟨v', ?_, hR v' w' g r hp (SC.ok_closed hcl r2) hk.base⟩
  subst hr
  exact r1
end
def bMax_vc (b : Int) (Q : (Int × Int) → Prop) : Prop :=
  (b ≠ 0) ∧
  ∃ (Inv : Int → Int → Prop) (mu : Int → Int → Nat), Inv b 1 ∧
  ∀ (x2 : Int) (x3 : Int) , Inv x2 x3 → (IfP (decide (x2 ≤ (IntKind.wrap .u64 (Int.tdiv 18446744073709551615 b)))) ((Inv (IntKind.wrap .u64 (x2 * b)) (wr (x3 + 1)) ∧ mu (IntKind.wrap .u64 (x2 * b)) (wr (x3 + 1)) < mu x2 x3)) (Q (x2, x3)))
theorem bMax_walk (b : Int) (Q : (Int × Int) → Prop) (h : bMax_vc b Q) : Ct 52 [.sv (.one (.v (.int .u64 b)))] [] Q (fun (r : (Int × Int)) => .tup [.one (.v (.int .u64 r.1)), .one (I r.2)]) := by
  have ht := tab_ok
  refine Ct.body Tryz.func52 rfl rfl rfl rfl (fun c hn => ?_)
  unfold bMax_vc at h
  refine En.seq ?_
  refine En.region ?_
  refine WL.run ht hn 2 ⟨[(0, .sv (.one (.v (.int .u64 b))))], []⟩ (by kernel_rfl) ?_
  refine WL.nil ?_
  refine En.seq ?_
  refine En.region ?_
  refine WL.run ht hn 3 ⟨[(0, .sv (.one (.v (.int .u64 b)))), (2, .sv (.one (.v (.int .u64 b)))), (3, .sv (.one (I 1)))], []⟩ (by kernel_rfl) ?_
  refine WL.nil ?_
  refine En.seq ?_
  refine En.seq ?_
  refine En.region ?_
  refine WL.run ht hn 1 ⟨[(0, .sv (.one (.v (.int .u64 b)))), (2, .sv (.one (.v (.int .u64 b)))), (3, .sv (.one (I 1))), (6, .sv (.one (.v (.int .u64 b))))], []⟩ (by kernel_rfl) ?_
  have hz := h.1
  replace h := h.2
  refine WL.val hn (by rfl) (val_div (u := 18446744073709551615) (v := b) rfl (by rfl) (by rfl) hz (.inl ⟨rfl, rfl⟩)) (by rfl) ?_
  refine WL.run ht hn 1 ⟨[(0, .sv (.one (.v (.int .u64 b)))), (2, .sv (.one (.v (.int .u64 b)))), (3, .sv (.one (I 1))), (4, .sv (.one (.v (.int .u64 (IntKind.wrap .u64 (Int.tdiv 18446744073709551615 b))))))], []⟩ (by kernel_rfl) ?_
  refine WL.nil ?_
  refine En.block ?_
  obtain ⟨Inv, mu, h0, hI⟩ := h
  refine En.loop (σ := Int × Int) (fun zz => Inv zz.1 zz.2) (fun zz => mu zz.1 zz.2) (fun zz => ⟨[(0, .sv (.one (.v (.int .u64 b)))), (2, .sv (.one (.v (.int .u64 zz.1)))), (3, .sv (.one (I zz.2))), (4, .sv (.one (.v (.int .u64 (IntKind.wrap .u64 (Int.tdiv 18446744073709551615 b))))))], []⟩) (b, 1) h0 (sub_ok (by kernel_rfl)) ?_
  rintro ⟨x2, x3⟩ h
  replace h := hI _ _ h
  show En c ⟨[(0, .sv (.one (.v (.int .u64 b)))), (2, .sv (.one (.v (.int .u64 x2)))), (3, .sv (.one (I x3))), (4, .sv (.one (.v (.int .u64 (IntKind.wrap .u64 (Int.tdiv 18446744073709551615 b))))))], []⟩ _
  refine En.seq ?_
  refine En.seq ?_
  refine En.region ?_
  refine WL.run ht hn 3 ⟨[(0, .sv (.one (.v (.int .u64 b)))), (2, .sv (.one (.v (.int .u64 x2)))), (3, .sv (.one (I x3))), (4, .sv (.one (.v (.int .u64 (IntKind.wrap .u64 (Int.tdiv 18446744073709551615 b)))))), (10, .sv (.one (B (decide (x2 ≤ (IntKind.wrap .u64 (Int.tdiv 18446744073709551615 b)))))))], []⟩ (by kernel_rfl) ?_
  refine WL.nil ?_
  refine En.cond (b := (decide (x2 ≤ (IntKind.wrap .u64 (Int.tdiv 18446744073709551615 b))))) (by kernel_rfl) (fun hb => ?_) (fun hb => ?_)
  · replace h := h.1 hb
    refine En.skip ?_
    refine En.block ?_
    refine En.seq ?_
    refine En.region ?_
    refine WL.run ht hn 4 ⟨[(0, .sv (.one (.v (.int .u64 b)))), (2, .sv (.one (.v (.int .u64 (IntKind.wrap .u64 (x2 * b)))))), (3, .sv (.one (I x3))), (4, .sv (.one (.v (.int .u64 (IntKind.wrap .u64 (Int.tdiv 18446744073709551615 b))))))], []⟩ (by kernel_rfl) ?_
    refine WL.nil ?_
    refine En.region ?_
    refine WL.run ht hn 3 ⟨[(0, .sv (.one (.v (.int .u64 b)))), (2, .sv (.one (.v (.int .u64 (IntKind.wrap .u64 (x2 * b)))))), (3, .sv (.one (I (wr (x3 + 1))))), (4, .sv (.one (.v (.int .u64 (IntKind.wrap .u64 (Int.tdiv 18446744073709551615 b))))))], []⟩ (by kernel_rfl) ?_
    refine WL.nil ?_
    exact En.at (I := fun zz => Inv zz.1 zz.2 ∧ mu zz.1 zz.2 < mu x2 x3) (T := fun zz => ⟨[(0, .sv (.one (.v (.int .u64 b)))), (2, .sv (.one (.v (.int .u64 zz.1)))), (3, .sv (.one (I zz.2))), (4, .sv (.one (.v (.int .u64 (IntKind.wrap .u64 (Int.tdiv 18446744073709551615 b))))))], []⟩) ((IntKind.wrap .u64 (x2 * b)), (wr (x3 + 1))) h (by kernel_rfl)
  · replace h := h.2 hb
    refine En.exit rfl ?_
    refine En.ret ?_
    exact En.back ht (x2, x3) h (by kernel_rfl) rfl
theorem en52 : ∀ args w, (callFunc 52 args).run Tryz.prog w = .ok (.enter 52 args) w := enters_of Tryz.func52 (by kernel_rfl) rfl
theorem bMax_ct (b : Int) (hp : b = 10)  : Ct 52 [.sv (.one (.v (.int .u64 b)))] [] (fun (_ : Unit) => True) (fun _ => .tup [.one (.v (.int .u64 (((10000000000000000000, 19) : Int × Int)).1)), .one (I (((10000000000000000000, 19) : Int × Int)).2)]) := by
  refine (bMax_walk b (fun res_ => res_ = (((10000000000000000000, 19) : Int × Int))) ?_).fun
  subst hp
  unfold bMax_vc
  refine ⟨by decide, fun x n => ∃ k : Nat, 1 ≤ k ∧ k ≤ 19 ∧ x = 10 ^ k ∧ n = k, fun _ n => 19 - n.toNat, ⟨1, by decide, by decide, rfl, rfl⟩, ?_⟩
  rintro x n ⟨k, k1, k2, rfl, rfl⟩
  have hw : IntKind.wrap .u64 (Int.tdiv 18446744073709551615 10) = 1844674407370955161 := by decide
  rw [hw]
  have hk : k = 1 ∨ k = 2 ∨ k = 3 ∨ k = 4 ∨ k = 5 ∨ k = 6 ∨ k = 7 ∨ k = 8 ∨ k = 9 ∨ k = 10 ∨ k = 11 ∨ k = 12 ∨ k = 13 ∨ k = 14 ∨ k = 15 ∨ k = 16 ∨ k = 17 ∨ k = 18 ∨ k = 19 := by omega
  refine ⟨fun h => ?_, fun h => ?_⟩
  · have hlt : k < 19 := by
      rcases Nat.lt_or_ge k 19 with c | c
      · exact c
      · have : k = 19 := by omega
        subst this
        exact absurd (of_decide_eq_true h) (by decide)
    refine ⟨⟨k + 1, by omega, by omega, ?_, ?_⟩, ?_⟩
    · rcases hk with rfl | rfl | rfl | rfl | rfl | rfl | rfl | rfl | rfl | rfl | rfl | rfl | rfl | rfl | rfl | rfl | rfl | rfl | rfl <;> first | rfl | omega
    · rw [wr_in (by omega) (by omega)]
      rfl
    · rw [wr_in (by omega) (by omega)]
      show 19 - ((k : Int) + 1).toNat < 19 - (k : Int).toNat
      omega
  · have : k = 19 := by
      rcases Nat.lt_or_ge k 19 with c | c
      · exfalso
        rcases hk with rfl | rfl | rfl | rfl | rfl | rfl | rfl | rfl | rfl | rfl | rfl | rfl | rfl | rfl | rfl | rfl | rfl | rfl | rfl <;> first | exact absurd (of_decide_eq_false h) (by decide) | omega
      · omega
    subst this
    rfl
theorem en72 : ∀ args w, (callFunc 72 args).run Tryz.prog w = .ok (.enter 72 args) w := enters_of Tryz.func72 (by kernel_rfl) rfl
theorem ndivw_c (l : List Int) (y : Int) (hp : ∃ v, l = [v] ∧ 0 ≤ v ∧ v < y ∧ 1 < y ∧ y < 18446744073709551616) : CtE 72 [.sv (.one (.own 0)), .sv (.one (.own 0)), .sv (.one (.v (.int .u64 y)))] [wordI l] [] (fun (_ : Unit) => True) (fun _ => .tup [.one (.own 0), .one (.v (.int .u64 l.sum))]) (fun _ => [wordI []]) := by
  obtain ⟨v, rfl, h1, h2, h3, h4⟩ := hp
  have := ndivw_ct [v] y v rfl h1 h2 h4 h3
  simpa using this
def bCnv_vc (q : List Int) (x : Value) (s : List Int) (b : Int) (n : Int) (y : Int) (Q : (List Int) → Prop) : Prop :=
  ∃ J : Int → (List Int) → Prop, (IfP (b == 10) (∃ (Inv : Int → (List Int) → (List Int) → Prop) (mu : Int → (List Int) → (List Int) → Nat), Inv (s.length : Int) q s ∧
  ∀ (x19_2 : Int) (l0 : List Int) (l1_2 : List Int) , Inv x19_2 l0 l1_2 → (IfP (decide ((l0.length : Int) > 0)) ((∃ v, l0 = [v] ∧ 0 ≤ v ∧ v < y ∧ 1 < y ∧ y < 18446744073709551616) ∧
  ∃ (Inv_2 : Int → Int → Int → (List Int) → Prop) (mu_2 : Int → Int → Int → (List Int) → Nat), Inv_2 x19_2 l0.sum 0 l1_2 ∧
  ∀ (x19_3 : Int) (x20 : Int) (x21 : Int) (l1_3 : List Int) , Inv_2 x19_3 x20 x21 l1_3 → (IfP ((decide (x21 < n)) && (decide (x19_3 > 0))) (∃ e, idx l1_3 (wr (x19_3 - 1)) = some e ∧
  (Inv_2 (wr (x19_3 - 1)) (IntKind.wrap .u64 (Int.tdiv x20 10)) (wr (x21 + 1)) (l1_3.set ((wr (x19_3 - 1))).toNat (IntKind.wrap .u8 (48 + (IntKind.wrap .u8 (IntKind.wrap .u64 (x20 - (IntKind.wrap .u64 ((IntKind.wrap .u64 (Int.tdiv x20 10)) * 10)))))))) ∧ mu_2 (wr (x19_3 - 1)) (IntKind.wrap .u64 (Int.tdiv x20 10)) (wr (x21 + 1)) (l1_3.set ((wr (x19_3 - 1))).toNat (IntKind.wrap .u8 (48 + (IntKind.wrap .u8 (IntKind.wrap .u64 (x20 - (IntKind.wrap .u64 ((IntKind.wrap .u64 (Int.tdiv x20 10)) * 10)))))))) < mu_2 x19_3 x20 x21 l1_3)) ((Inv x19_3 ([] : List Int) l1_3 ∧ mu x19_3 ([] : List Int) l1_3 < mu x19_2 l0 l1_2)))) (J x19_2 l1_2))) (∃ (Inv_3 : Int → (List Int) → (List Int) → Prop) (mu_3 : Int → (List Int) → (List Int) → Nat), Inv_3 (s.length : Int) q s ∧
  ∀ (x19_4 : Int) (l0_2 : List Int) (l1_4 : List Int) , Inv_3 x19_4 l0_2 l1_4 → (IfP (decide ((l0_2.length : Int) > 0)) ((∃ v, l0_2 = [v] ∧ 0 ≤ v ∧ v < y ∧ 1 < y ∧ y < 18446744073709551616) ∧
  ∃ (Inv_4 : Int → Int → Int → (List Int) → Prop) (mu_4 : Int → Int → Int → (List Int) → Nat), Inv_4 x19_4 l0_2.sum 0 l1_4 ∧
  ∀ (x19_5 : Int) (x20_2 : Int) (x23 : Int) (l1_5 : List Int) , Inv_4 x19_5 x20_2 x23 l1_5 → (IfP ((decide (x23 < n)) && (decide (x19_5 > 0))) ((b ≠ 0) ∧
  ∃ b_2, byteAt (ByteArray.mk #[48, 49, 50, 51, 52, 53, 54, 55, 56, 57, 97, 98, 99, 100, 101, 102, 103, 104, 105, 106, 107, 108, 109, 110, 111, 112, 113, 114, 115, 116, 117, 118, 119, 120, 121, 122, 65, 66, 67, 68, 69, 70, 71, 72, 73, 74, 75, 76, 77, 78, 79, 80, 81, 82, 83, 84, 85, 86, 87, 88, 89, 90]) (Int.tmod x20_2 b) = some b_2 ∧
  ∃ e_2, idx l1_5 (wr (x19_5 - 1)) = some e_2 ∧
  (b ≠ 0) ∧
  (Inv_4 (wr (x19_5 - 1)) (IntKind.wrap .u64 (Int.tdiv x20_2 b)) (wr (x23 + 1)) (l1_5.set ((wr (x19_5 - 1))).toNat b_2) ∧ mu_4 (wr (x19_5 - 1)) (IntKind.wrap .u64 (Int.tdiv x20_2 b)) (wr (x23 + 1)) (l1_5.set ((wr (x19_5 - 1))).toNat b_2) < mu_4 x19_5 x20_2 x23 l1_5)) ((Inv_3 x19_5 ([] : List Int) l1_5 ∧ mu_3 x19_5 ([] : List Int) l1_5 < mu_3 x19_4 l0_2 l1_4)))) (J x19_4 l1_4)))) ∧
  (∀ (x19 : Int) (l1 : List Int), J x19 l1 → ∃ (Inv_5 : Int → (List Int) → Prop) (mu_5 : Int → (List Int) → Nat), Inv_5 x19 l1 ∧
  ∀ (x19_6 : Int) (l1_6 : List Int) , Inv_5 x19_6 l1_6 → (IfP (decide (x19_6 > 0)) (∃ e_3, idx l1_6 (wr (x19_6 - 1)) = some e_3 ∧
  (Inv_5 (wr (x19_6 - 1)) (l1_6.set ((wr (x19_6 - 1))).toNat 48) ∧ mu_5 (wr (x19_6 - 1)) (l1_6.set ((wr (x19_6 - 1))).toNat 48) < mu_5 x19_6 l1_6)) (Q l1_6)))
set_option maxHeartbeats 2000000 in
theorem bCnv_walk (q : List Int) (x : Value) (s : List Int) (b : Int) (n : Int) (y : Int) (Q : (List Int) → Prop) (h : bCnv_vc q x s b n y Q) : CtE 54 [.sv (.one (.own 0)), .sv (.one (.v (x))), .sv (.one (.own 1)), .sv (.one (.v (.int .u64 b))), .sv (.one (I n)), .sv (.one (.v (.int .u64 y))), .sv (.one (.v (.slice none 0 0)))] [rowI 68 (intKT .u64) q, rowI 5 (intKT .u8) s] [1] Q (fun (r : List Int) => .tup []) (fun (r : List Int) => [.gone, rowI 5 (intKT .u8) r]) := by
  have ht := tab_ok
  refine CtE.bodyR Tryz.func54 rfl rfl rfl (by kernel_rfl) (fun c Vk hn => ?_)
  unfold bCnv_vc at h
  show En c ⟨[(0, .sv (.one (.own 0))), (1, .sv (.one (.v (x)))), (2, .sv (.one (.pown 1 (Vk 1)))), (3, .sv (.one (.v (.int .u64 b)))), (4, .sv (.one (I n))), (5, .sv (.one (.v (.int .u64 y)))), (6, .sv (.one (.v (.slice none 0 0))))], [rowI 68 (intKT .u64) q, rowI 5 (intKT .u8) s]⟩ _
  refine En.seq ?_
  refine En.seq ?_
  refine En.region ?_
  refine WL.run ht hn 1 ⟨[(0, .sv (.one (.own 0))), (1, .sv (.one (.v (x)))), (2, .sv (.one (.pown 1 (Vk 1)))), (3, .sv (.one (.v (.int .u64 b)))), (4, .sv (.one (I n))), (5, .sv (.one (.v (.int .u64 y)))), (6, .sv (.one (.v (.slice none 0 0)))), (24, .sv (.one (.v (.slice none 0 0))))], [rowI 68 (intKT .u64) q, rowI 5 (intKT .u8) s]⟩ (by kernel_rfl) ?_
  refine WL.val hn (by rfl) (val_eqV (V := .slice none 0 0) (r := false) rfl (by rfl) (by rfl) (.inr rfl) (fun w => by kernel_rfl)) (by rfl) ?_
  refine WL.nil ?_
  refine En.cond (b := false) (by kernel_rfl) (fun hb => ?_) (fun hb => ?_)
  · cases hb
  · refine En.skip ?_
    refine En.seq ?_
    refine En.region ?_
    refine WL.run ht hn 3 ⟨[(0, .sv (.one (.own 0))), (2, .sv (.one (.pown 1 (Vk 1)))), (3, .sv (.one (.v (.int .u64 b)))), (4, .sv (.one (I n))), (5, .sv (.one (.v (.int .u64 y)))), (19, .sv (.one (I (s.length : Int))))], [rowI 68 (intKT .u64) q, rowI 5 (intKT .u8) s]⟩ (by kernel_rfl) ?_
    refine WL.nil ?_
    refine En.seq ?_
    refine En.region ?_
    refine WL.run ht hn 1 ⟨[(0, .sv (.one (.own 0))), (2, .sv (.one (.pown 1 (Vk 1)))), (3, .sv (.one (.v (.int .u64 b)))), (4, .sv (.one (I n))), (5, .sv (.one (.v (.int .u64 y)))), (19, .sv (.one (I (s.length : Int))))], [rowI 68 (intKT .u64) q, rowI 5 (intKT .u8) s]⟩ (by kernel_rfl) ?_
    refine WL.nil ?_
    obtain ⟨J, h, hJ⟩ := h
    refine En.seqJ (σ := Int × (List Int)) (fun zz => J zz.1 zz.2) (fun zz => ⟨[(2, .sv (.one (.pown 1 (Vk 1)))), (19, .sv (.one (I zz.1)))], [.gone, rowI 5 (intKT .u8) zz.2]⟩) ?_ ?_
    · refine En.seq ?_
      refine En.region ?_
      refine WL.run ht hn 2 ⟨[(0, .sv (.one (.own 0))), (2, .sv (.one (.pown 1 (Vk 1)))), (3, .sv (.one (.v (.int .u64 b)))), (4, .sv (.one (I n))), (5, .sv (.one (.v (.int .u64 y)))), (19, .sv (.one (I (s.length : Int)))), (112, .sv (.one (B (b == 10))))], [rowI 68 (intKT .u64) q, rowI 5 (intKT .u8) s]⟩ (by kernel_rfl) ?_
      refine WL.nil ?_
      refine En.cond (b := (b == 10)) (by kernel_rfl) (fun hb => ?_) (fun hb => ?_)
      · replace h := h.1 hb
        refine En.block ?_
        obtain ⟨Inv, mu, h0_2, hI_2⟩ := h
        refine En.loop (σ := Int × (List Int) × (List Int)) (fun zz => Inv zz.1 zz.2.1 zz.2.2) (fun zz => mu zz.1 zz.2.1 zz.2.2) (fun zz => ⟨[(0, .sv (.one (.own 0))), (2, .sv (.one (.pown 1 (Vk 1)))), (4, .sv (.one (I n))), (5, .sv (.one (.v (.int .u64 y)))), (19, .sv (.one (I zz.1)))], [rowI 68 (intKT .u64) zz.2.1, rowI 5 (intKT .u8) zz.2.2]⟩) ((s.length : Int), q, s) h0_2 (sub_ok (by kernel_rfl)) ?_
        rintro ⟨x19_2, l0, l1_2⟩ h
        replace h := hI_2 _ _ _ h
        show En c ⟨[(0, .sv (.one (.own 0))), (2, .sv (.one (.pown 1 (Vk 1)))), (4, .sv (.one (I n))), (5, .sv (.one (.v (.int .u64 y)))), (19, .sv (.one (I x19_2)))], [rowI 68 (intKT .u64) l0, rowI 5 (intKT .u8) l1_2]⟩ _
        refine En.seq ?_
        refine En.seq ?_
        refine En.region ?_
        refine WL.run ht hn 3 ⟨[(0, .sv (.one (.own 0))), (2, .sv (.one (.pown 1 (Vk 1)))), (4, .sv (.one (I n))), (5, .sv (.one (.v (.int .u64 y)))), (19, .sv (.one (I x19_2))), (115, .sv (.one (B (decide ((l0.length : Int) > 0)))))], [rowI 68 (intKT .u64) l0, rowI 5 (intKT .u8) l1_2]⟩ (by kernel_rfl) ?_
        refine WL.nil ?_
        refine En.cond (b := (decide ((l0.length : Int) > 0))) (by kernel_rfl) (fun hb => ?_) (fun hb => ?_)
        · replace h := h.1 hb
          refine En.skip ?_
          refine En.block ?_
          refine En.seq ?_
          refine En.region ?_
          refine WL.run ht hn 3 ⟨[(2, .sv (.one (.pown 1 (Vk 1)))), (4, .sv (.one (I n))), (5, .sv (.one (.v (.int .u64 y)))), (19, .sv (.one (I x19_2))), (117, .sv (.one (.own 0))), (118, .sv (.one (.own 0))), (119, .sv (.one (.v (.int .u64 y))))], [rowI 68 (intKT .u64) l0, rowI 5 (intKT .u8) l1_2]⟩ (by kernel_rfl) ?_
          have hp := h.1
          replace h := h.2
          refine WL.callQ [(2, .sv (.one (.pown 1 (Vk 1)))), (4, .sv (.one (I n))), (5, .sv (.one (.v (.int .u64 y)))), (19, .sv (.one (I x19_2))), (119, .sv (.one (.v (.int .u64 y))))] (ndivw_c l0 y hp) en72 (caps := []) [0] hn (by rfl) rfl (by rfl) (argsAs (by kernel_rfl) (by rfl)) (by kernel_rfl) (by decide) (by kernel_rfl) (by rfl) (by rfl) (fun r hr_2 => ⟨by rfl, _, by rfl, ?_⟩)
          refine WL.run ht hn 5 ⟨[(0, .sv (.one (.own 0))), (2, .sv (.one (.pown 1 (Vk 1)))), (4, .sv (.one (I n))), (5, .sv (.one (.v (.int .u64 y)))), (19, .sv (.one (I x19_2))), (20, .sv (.one (.v (.int .u64 l0.sum))))], [rowI 68 (intKT .u64) ([] : List Int), rowI 5 (intKT .u8) l1_2]⟩ (by kernel_rfl) ?_
          refine WL.nil ?_
          refine En.seq ?_
          refine En.region ?_
          refine WL.run ht hn 1 ⟨[(0, .sv (.one (.own 0))), (2, .sv (.one (.pown 1 (Vk 1)))), (4, .sv (.one (I n))), (5, .sv (.one (.v (.int .u64 y)))), (19, .sv (.one (I x19_2))), (20, .sv (.one (.v (.int .u64 l0.sum)))), (21, .sv (.one (I 0)))], [rowI 68 (intKT .u64) ([] : List Int), rowI 5 (intKT .u8) l1_2]⟩ (by kernel_rfl) ?_
          refine WL.nil ?_
          refine En.block ?_
          obtain ⟨Inv_2, mu_2, h0, hI⟩ := h
          refine En.loop (σ := Int × Int × Int × (List Int)) (fun zz => Inv_2 zz.1 zz.2.1 zz.2.2.1 zz.2.2.2) (fun zz => mu_2 zz.1 zz.2.1 zz.2.2.1 zz.2.2.2) (fun zz => ⟨[(0, .sv (.one (.own 0))), (2, .sv (.one (.pown 1 (Vk 1)))), (4, .sv (.one (I n))), (5, .sv (.one (.v (.int .u64 y)))), (19, .sv (.one (I zz.1))), (20, .sv (.one (.v (.int .u64 zz.2.1)))), (21, .sv (.one (I zz.2.2.1)))], [rowI 68 (intKT .u64) ([] : List Int), rowI 5 (intKT .u8) zz.2.2.2]⟩) (x19_2, l0.sum, 0, l1_2) h0 (sub_ok (by kernel_rfl)) ?_
          rintro ⟨x19_3, x20, x21, l1_3⟩ h
          replace h := hI _ _ _ _ h
          show En c ⟨[(0, .sv (.one (.own 0))), (2, .sv (.one (.pown 1 (Vk 1)))), (4, .sv (.one (I n))), (5, .sv (.one (.v (.int .u64 y)))), (19, .sv (.one (I x19_3))), (20, .sv (.one (.v (.int .u64 x20)))), (21, .sv (.one (I x21)))], [rowI 68 (intKT .u64) ([] : List Int), rowI 5 (intKT .u8) l1_3]⟩ _
          refine En.seq ?_
          refine En.seq ?_
          refine En.region ?_
          refine WL.run ht hn 4 ⟨[(0, .sv (.one (.own 0))), (2, .sv (.one (.pown 1 (Vk 1)))), (4, .sv (.one (I n))), (5, .sv (.one (.v (.int .u64 y)))), (19, .sv (.one (I x19_3))), (20, .sv (.one (.v (.int .u64 x20)))), (21, .sv (.one (I x21))), (126, .sv (.one (B (decide (x21 < n)))))], [rowI 68 (intKT .u64) ([] : List Int), rowI 5 (intKT .u8) l1_3]⟩ (by kernel_rfl) ?_
          refine WL.thru ⟨[(0, .sv (.one (.own 0))), (2, .sv (.one (.pown 1 (Vk 1)))), (4, .sv (.one (I n))), (5, .sv (.one (.v (.int .u64 y)))), (19, .sv (.one (I x19_3))), (20, .sv (.one (.v (.int .u64 x20)))), (21, .sv (.one (I x21))), (129, .sv (.one (B ((decide (x21 < n)) && (decide (x19_3 > 0))))))], [rowI 68 (intKT .u64) ([] : List Int), rowI 5 (intKT .u8) l1_3]⟩ ?_ ?_
          · refine splitB (decide (x21 < n)) (fun hb0 => ?_) (fun hb0 => ?_)
            · refine WL.setB 126 hb0 (by kernel_rfl) ?_
              refine WL.run ht hn 3 ⟨[(0, .sv (.one (.own 0))), (2, .sv (.one (.pown 1 (Vk 1)))), (4, .sv (.one (I n))), (5, .sv (.one (.v (.int .u64 y)))), (19, .sv (.one (I x19_3))), (20, .sv (.one (.v (.int .u64 x20)))), (21, .sv (.one (I x21))), (129, .sv (.one (B (decide (x19_3 > 0)))))], [rowI 68 (intKT .u64) ([] : List Int), rowI 5 (intKT .u8) l1_3]⟩ (by kernel_rfl) ?_
              exact WL.nil (sub_ok (by simp only [hb0]; kernel_rfl))
            · refine WL.setB 126 hb0 (by kernel_rfl) ?_
              refine WL.run ht hn 3 ⟨[(0, .sv (.one (.own 0))), (2, .sv (.one (.pown 1 (Vk 1)))), (4, .sv (.one (I n))), (5, .sv (.one (.v (.int .u64 y)))), (19, .sv (.one (I x19_3))), (20, .sv (.one (.v (.int .u64 x20)))), (21, .sv (.one (I x21))), (129, .sv (.one (B false)))], [rowI 68 (intKT .u64) ([] : List Int), rowI 5 (intKT .u8) l1_3]⟩ (by kernel_rfl) ?_
              exact WL.nil (sub_ok (by simp only [hb0]; kernel_rfl))
          · refine En.cond (b := ((decide (x21 < n)) && (decide (x19_3 > 0)))) (by kernel_rfl) (fun hb => ?_) (fun hb => ?_)
            · replace h := h.1 hb
              refine En.skip ?_
              refine En.seq ?_
              refine En.block ?_
              refine En.seq ?_
              refine En.region ?_
              refine WL.run ht hn 3 ⟨[(0, .sv (.one (.own 0))), (2, .sv (.one (.pown 1 (Vk 1)))), (4, .sv (.one (I n))), (5, .sv (.one (.v (.int .u64 y)))), (19, .sv (.one (I (wr (x19_3 - 1))))), (20, .sv (.one (.v (.int .u64 x20)))), (21, .sv (.one (I x21)))], [rowI 68 (intKT .u64) ([] : List Int), rowI 5 (intKT .u8) l1_3]⟩ (by kernel_rfl) ?_
              refine WL.nil ?_
              refine En.seq ?_
              refine En.region ?_
              refine WL.run ht hn 3 ⟨[(0, .sv (.one (.own 0))), (2, .sv (.one (.pown 1 (Vk 1)))), (4, .sv (.one (I n))), (5, .sv (.one (.v (.int .u64 y)))), (19, .sv (.one (I (wr (x19_3 - 1))))), (20, .sv (.one (.v (.int .u64 x20)))), (21, .sv (.one (I x21))), (22, .sv (.one (.v (.int .u64 (IntKind.wrap .u64 (Int.tdiv x20 10))))))], [rowI 68 (intKT .u64) ([] : List Int), rowI 5 (intKT .u8) l1_3]⟩ (by kernel_rfl) ?_
              refine WL.nil ?_
              refine En.seq ?_
              refine En.region ?_
              refine WL.run ht hn 8 ⟨[(0, .sv (.one (.own 0))), (2, .sv (.one (.pown 1 (Vk 1)))), (4, .sv (.one (I n))), (5, .sv (.one (.v (.int .u64 y)))), (19, .sv (.one (I (wr (x19_3 - 1))))), (21, .sv (.one (I x21))), (22, .sv (.one (.v (.int .u64 (IntKind.wrap .u64 (Int.tdiv x20 10)))))), (136, .sv (.one (.own 1))), (137, .sv (.one (I (wr (x19_3 - 1))))), (143, .sv (.one (.v (.int .u8 (IntKind.wrap .u8 (48 + (IntKind.wrap .u8 (IntKind.wrap .u64 (x20 - (IntKind.wrap .u64 ((IntKind.wrap .u64 (Int.tdiv x20 10)) * 10)))))))))))], [rowI 68 (intKT .u64) ([] : List Int), rowI 5 (intKT .u8) l1_3]⟩ (by kernel_rfl) ?_
              obtain ⟨e, he, h⟩ := h
              refine WL.val hn (by rfl) (val_indexO (T := (intKT .u8)) (l := l1_3) (k := (wr (x19_3 - 1))) ht rfl (by rfl) (by rfl) (by rfl) (by rfl) (by decide) (by rfl) (by rfl) (by rfl) he) (by rfl) ?_
              refine WL.storeO (T := (intKT .u8)) (l := l1_3) (y := (IntKind.wrap .u8 (48 + (IntKind.wrap .u8 (IntKind.wrap .u64 (x20 - (IntKind.wrap .u64 ((IntKind.wrap .u64 (Int.tdiv x20 10)) * 10)))))))) ht hn (by rfl) rfl (by rfl) (by rfl) (fun _ h => by cases h) (by rfl) (by rfl) (idx_lt he) (by rfl) (by rfl) (by rfl) (by rfl) ?_
              refine WL.nil ?_
              refine En.region ?_
              refine WL.run ht hn 2 ⟨[(0, .sv (.one (.own 0))), (2, .sv (.one (.pown 1 (Vk 1)))), (4, .sv (.one (I n))), (5, .sv (.one (.v (.int .u64 y)))), (19, .sv (.one (I (wr (x19_3 - 1))))), (20, .sv (.one (.v (.int .u64 (IntKind.wrap .u64 (Int.tdiv x20 10)))))), (21, .sv (.one (I x21)))], [rowI 68 (intKT .u64) ([] : List Int), rowI 5 (intKT .u8) (l1_3.set ((wr (x19_3 - 1))).toNat (IntKind.wrap .u8 (48 + (IntKind.wrap .u8 (IntKind.wrap .u64 (x20 - (IntKind.wrap .u64 ((IntKind.wrap .u64 (Int.tdiv x20 10)) * 10))))))))]⟩ (by kernel_rfl) ?_
              refine WL.nil ?_
              refine En.region ?_
              refine WL.run ht hn 3 ⟨[(0, .sv (.one (.own 0))), (2, .sv (.one (.pown 1 (Vk 1)))), (4, .sv (.one (I n))), (5, .sv (.one (.v (.int .u64 y)))), (19, .sv (.one (I (wr (x19_3 - 1))))), (20, .sv (.one (.v (.int .u64 (IntKind.wrap .u64 (Int.tdiv x20 10)))))), (21, .sv (.one (I (wr (x21 + 1)))))], [rowI 68 (intKT .u64) ([] : List Int), rowI 5 (intKT .u8) (l1_3.set ((wr (x19_3 - 1))).toNat (IntKind.wrap .u8 (48 + (IntKind.wrap .u8 (IntKind.wrap .u64 (x20 - (IntKind.wrap .u64 ((IntKind.wrap .u64 (Int.tdiv x20 10)) * 10))))))))]⟩ (by kernel_rfl) ?_
              refine WL.nil ?_
              exact En.at (I := fun zz => Inv_2 zz.1 zz.2.1 zz.2.2.1 zz.2.2.2 ∧ mu_2 zz.1 zz.2.1 zz.2.2.1 zz.2.2.2 < mu_2 x19_3 x20 x21 l1_3) (T := fun zz => ⟨[(0, .sv (.one (.own 0))), (2, .sv (.one (.pown 1 (Vk 1)))), (4, .sv (.one (I n))), (5, .sv (.one (.v (.int .u64 y)))), (19, .sv (.one (I zz.1))), (20, .sv (.one (.v (.int .u64 zz.2.1)))), (21, .sv (.one (I zz.2.2.1)))], [rowI 68 (intKT .u64) ([] : List Int), rowI 5 (intKT .u8) zz.2.2.2]⟩) ((wr (x19_3 - 1)), (IntKind.wrap .u64 (Int.tdiv x20 10)), (wr (x21 + 1)), (l1_3.set ((wr (x19_3 - 1))).toNat (IntKind.wrap .u8 (48 + (IntKind.wrap .u8 (IntKind.wrap .u64 (x20 - (IntKind.wrap .u64 ((IntKind.wrap .u64 (Int.tdiv x20 10)) * 10))))))))) h (by kernel_rfl)
            · replace h := h.2 hb
              refine En.exit rfl ?_
              exact En.at (I := fun zz => Inv zz.1 zz.2.1 zz.2.2 ∧ mu zz.1 zz.2.1 zz.2.2 < mu x19_2 l0 l1_2) (T := fun zz => ⟨[(0, .sv (.one (.own 0))), (2, .sv (.one (.pown 1 (Vk 1)))), (4, .sv (.one (I n))), (5, .sv (.one (.v (.int .u64 y)))), (19, .sv (.one (I zz.1)))], [rowI 68 (intKT .u64) zz.2.1, rowI 5 (intKT .u8) zz.2.2]⟩) (x19_3, ([] : List Int), l1_3) h (by kernel_rfl)
        · replace h := h.2 hb
          refine En.exit rfl ?_
          exact En.at (I := fun zz => J zz.1 zz.2) (T := fun zz => ⟨[(2, .sv (.one (.pown 1 (Vk 1)))), (19, .sv (.one (I zz.1)))], [.gone, rowI 5 (intKT .u8) zz.2]⟩) (x19_2, l1_2) h (by kernel_rfl)
      · replace h := h.2 hb
        refine En.block ?_
        obtain ⟨Inv_3, mu_3, h0_4, hI_4⟩ := h
        refine En.loop (σ := Int × (List Int) × (List Int)) (fun zz => Inv_3 zz.1 zz.2.1 zz.2.2) (fun zz => mu_3 zz.1 zz.2.1 zz.2.2) (fun zz => ⟨[(0, .sv (.one (.own 0))), (2, .sv (.one (.pown 1 (Vk 1)))), (3, .sv (.one (.v (.int .u64 b)))), (4, .sv (.one (I n))), (5, .sv (.one (.v (.int .u64 y)))), (19, .sv (.one (I zz.1)))], [rowI 68 (intKT .u64) zz.2.1, rowI 5 (intKT .u8) zz.2.2]⟩) ((s.length : Int), q, s) h0_4 (sub_ok (by kernel_rfl)) ?_
        rintro ⟨x19_4, l0_2, l1_4⟩ h
        replace h := hI_4 _ _ _ h
        show En c ⟨[(0, .sv (.one (.own 0))), (2, .sv (.one (.pown 1 (Vk 1)))), (3, .sv (.one (.v (.int .u64 b)))), (4, .sv (.one (I n))), (5, .sv (.one (.v (.int .u64 y)))), (19, .sv (.one (I x19_4)))], [rowI 68 (intKT .u64) l0_2, rowI 5 (intKT .u8) l1_4]⟩ _
        refine En.seq ?_
        refine En.seq ?_
        refine En.region ?_
        refine WL.run ht hn 3 ⟨[(0, .sv (.one (.own 0))), (2, .sv (.one (.pown 1 (Vk 1)))), (3, .sv (.one (.v (.int .u64 b)))), (4, .sv (.one (I n))), (5, .sv (.one (.v (.int .u64 y)))), (19, .sv (.one (I x19_4))), (148, .sv (.one (B (decide ((l0_2.length : Int) > 0)))))], [rowI 68 (intKT .u64) l0_2, rowI 5 (intKT .u8) l1_4]⟩ (by kernel_rfl) ?_
        refine WL.nil ?_
        refine En.cond (b := (decide ((l0_2.length : Int) > 0))) (by kernel_rfl) (fun hb => ?_) (fun hb => ?_)
        · replace h := h.1 hb
          refine En.skip ?_
          refine En.block ?_
          refine En.seq ?_
          refine En.region ?_
          refine WL.run ht hn 3 ⟨[(2, .sv (.one (.pown 1 (Vk 1)))), (3, .sv (.one (.v (.int .u64 b)))), (4, .sv (.one (I n))), (5, .sv (.one (.v (.int .u64 y)))), (19, .sv (.one (I x19_4))), (150, .sv (.one (.own 0))), (151, .sv (.one (.own 0))), (152, .sv (.one (.v (.int .u64 y))))], [rowI 68 (intKT .u64) l0_2, rowI 5 (intKT .u8) l1_4]⟩ (by kernel_rfl) ?_
          have hp := h.1
          replace h := h.2
          refine WL.callQ [(2, .sv (.one (.pown 1 (Vk 1)))), (3, .sv (.one (.v (.int .u64 b)))), (4, .sv (.one (I n))), (5, .sv (.one (.v (.int .u64 y)))), (19, .sv (.one (I x19_4))), (152, .sv (.one (.v (.int .u64 y))))] (ndivw_c l0_2 y hp) en72 (caps := []) [0] hn (by rfl) rfl (by rfl) (argsAs (by kernel_rfl) (by rfl)) (by kernel_rfl) (by decide) (by kernel_rfl) (by rfl) (by rfl) (fun r_2 hr_2_2 => ⟨by rfl, _, by rfl, ?_⟩)
          refine WL.run ht hn 5 ⟨[(0, .sv (.one (.own 0))), (2, .sv (.one (.pown 1 (Vk 1)))), (3, .sv (.one (.v (.int .u64 b)))), (4, .sv (.one (I n))), (5, .sv (.one (.v (.int .u64 y)))), (19, .sv (.one (I x19_4))), (20, .sv (.one (.v (.int .u64 l0_2.sum))))], [rowI 68 (intKT .u64) ([] : List Int), rowI 5 (intKT .u8) l1_4]⟩ (by kernel_rfl) ?_
          refine WL.nil ?_
          refine En.seq ?_
          refine En.region ?_
          refine WL.run ht hn 1 ⟨[(0, .sv (.one (.own 0))), (2, .sv (.one (.pown 1 (Vk 1)))), (3, .sv (.one (.v (.int .u64 b)))), (4, .sv (.one (I n))), (5, .sv (.one (.v (.int .u64 y)))), (19, .sv (.one (I x19_4))), (20, .sv (.one (.v (.int .u64 l0_2.sum)))), (23, .sv (.one (I 0)))], [rowI 68 (intKT .u64) ([] : List Int), rowI 5 (intKT .u8) l1_4]⟩ (by kernel_rfl) ?_
          refine WL.nil ?_
          refine En.block ?_
          obtain ⟨Inv_4, mu_4, h0_3, hI_3⟩ := h
          refine En.loop (σ := Int × Int × Int × (List Int)) (fun zz => Inv_4 zz.1 zz.2.1 zz.2.2.1 zz.2.2.2) (fun zz => mu_4 zz.1 zz.2.1 zz.2.2.1 zz.2.2.2) (fun zz => ⟨[(0, .sv (.one (.own 0))), (2, .sv (.one (.pown 1 (Vk 1)))), (3, .sv (.one (.v (.int .u64 b)))), (4, .sv (.one (I n))), (5, .sv (.one (.v (.int .u64 y)))), (19, .sv (.one (I zz.1))), (20, .sv (.one (.v (.int .u64 zz.2.1)))), (23, .sv (.one (I zz.2.2.1)))], [rowI 68 (intKT .u64) ([] : List Int), rowI 5 (intKT .u8) zz.2.2.2]⟩) (x19_4, l0_2.sum, 0, l1_4) h0_3 (sub_ok (by kernel_rfl)) ?_
          rintro ⟨x19_5, x20_2, x23, l1_5⟩ h
          replace h := hI_3 _ _ _ _ h
          show En c ⟨[(0, .sv (.one (.own 0))), (2, .sv (.one (.pown 1 (Vk 1)))), (3, .sv (.one (.v (.int .u64 b)))), (4, .sv (.one (I n))), (5, .sv (.one (.v (.int .u64 y)))), (19, .sv (.one (I x19_5))), (20, .sv (.one (.v (.int .u64 x20_2)))), (23, .sv (.one (I x23)))], [rowI 68 (intKT .u64) ([] : List Int), rowI 5 (intKT .u8) l1_5]⟩ _
          refine En.seq ?_
          refine En.seq ?_
          refine En.region ?_
          refine WL.run ht hn 4 ⟨[(0, .sv (.one (.own 0))), (2, .sv (.one (.pown 1 (Vk 1)))), (3, .sv (.one (.v (.int .u64 b)))), (4, .sv (.one (I n))), (5, .sv (.one (.v (.int .u64 y)))), (19, .sv (.one (I x19_5))), (20, .sv (.one (.v (.int .u64 x20_2)))), (23, .sv (.one (I x23))), (159, .sv (.one (B (decide (x23 < n)))))], [rowI 68 (intKT .u64) ([] : List Int), rowI 5 (intKT .u8) l1_5]⟩ (by kernel_rfl) ?_
          refine WL.thru ⟨[(0, .sv (.one (.own 0))), (2, .sv (.one (.pown 1 (Vk 1)))), (3, .sv (.one (.v (.int .u64 b)))), (4, .sv (.one (I n))), (5, .sv (.one (.v (.int .u64 y)))), (19, .sv (.one (I x19_5))), (20, .sv (.one (.v (.int .u64 x20_2)))), (23, .sv (.one (I x23))), (162, .sv (.one (B ((decide (x23 < n)) && (decide (x19_5 > 0))))))], [rowI 68 (intKT .u64) ([] : List Int), rowI 5 (intKT .u8) l1_5]⟩ ?_ ?_
          · refine splitB (decide (x23 < n)) (fun hb0 => ?_) (fun hb0 => ?_)
            · refine WL.setB 159 hb0 (by kernel_rfl) ?_
              refine WL.run ht hn 3 ⟨[(0, .sv (.one (.own 0))), (2, .sv (.one (.pown 1 (Vk 1)))), (3, .sv (.one (.v (.int .u64 b)))), (4, .sv (.one (I n))), (5, .sv (.one (.v (.int .u64 y)))), (19, .sv (.one (I x19_5))), (20, .sv (.one (.v (.int .u64 x20_2)))), (23, .sv (.one (I x23))), (162, .sv (.one (B (decide (x19_5 > 0)))))], [rowI 68 (intKT .u64) ([] : List Int), rowI 5 (intKT .u8) l1_5]⟩ (by kernel_rfl) ?_
              exact WL.nil (sub_ok (by simp only [hb0]; kernel_rfl))
            · refine WL.setB 159 hb0 (by kernel_rfl) ?_
              refine WL.run ht hn 3 ⟨[(0, .sv (.one (.own 0))), (2, .sv (.one (.pown 1 (Vk 1)))), (3, .sv (.one (.v (.int .u64 b)))), (4, .sv (.one (I n))), (5, .sv (.one (.v (.int .u64 y)))), (19, .sv (.one (I x19_5))), (20, .sv (.one (.v (.int .u64 x20_2)))), (23, .sv (.one (I x23))), (162, .sv (.one (B false)))], [rowI 68 (intKT .u64) ([] : List Int), rowI 5 (intKT .u8) l1_5]⟩ (by kernel_rfl) ?_
              exact WL.nil (sub_ok (by simp only [hb0]; kernel_rfl))
          · refine En.cond (b := ((decide (x23 < n)) && (decide (x19_5 > 0)))) (by kernel_rfl) (fun hb => ?_) (fun hb => ?_)
            · replace h := h.1 hb
              refine En.skip ?_
              refine En.seq ?_
              refine En.block ?_
              refine En.seq ?_
              refine En.region ?_
              refine WL.run ht hn 3 ⟨[(0, .sv (.one (.own 0))), (2, .sv (.one (.pown 1 (Vk 1)))), (3, .sv (.one (.v (.int .u64 b)))), (4, .sv (.one (I n))), (5, .sv (.one (.v (.int .u64 y)))), (19, .sv (.one (I (wr (x19_5 - 1))))), (20, .sv (.one (.v (.int .u64 x20_2)))), (23, .sv (.one (I x23)))], [rowI 68 (intKT .u64) ([] : List Int), rowI 5 (intKT .u8) l1_5]⟩ (by kernel_rfl) ?_
              refine WL.nil ?_
              refine En.seq ?_
              refine En.region ?_
              refine WL.run ht hn 4 ⟨[(0, .sv (.one (.own 0))), (2, .sv (.one (.pown 1 (Vk 1)))), (3, .sv (.one (.v (.int .u64 b)))), (4, .sv (.one (I n))), (5, .sv (.one (.v (.int .u64 y)))), (19, .sv (.one (I (wr (x19_5 - 1))))), (20, .sv (.one (.v (.int .u64 x20_2)))), (23, .sv (.one (I x23))), (167, .sv (.one (.own 1))), (168, .sv (.one (I (wr (x19_5 - 1))))), (169, .sv (.one (.v (.int .u64 x20_2)))), (170, .sv (.one (.v (.int .u64 b))))], [rowI 68 (intKT .u64) ([] : List Int), rowI 5 (intKT .u8) l1_5]⟩ (by kernel_rfl) ?_
              have hz := h.1
              replace h := h.2
              refine WL.val hn (by rfl) (val_div (u := x20_2) (v := b) rfl (by rfl) (by rfl) hz (.inr ⟨rfl, rfl⟩)) (by rfl) ?_
              obtain ⟨b_2, hb_2, h⟩ := h
              refine WL.val hn (by rfl) (val_indexS (s := (ByteArray.mk #[48, 49, 50, 51, 52, 53, 54, 55, 56, 57, 97, 98, 99, 100, 101, 102, 103, 104, 105, 106, 107, 108, 109, 110, 111, 112, 113, 114, 115, 116, 117, 118, 119, 120, 121, 122, 65, 66, 67, 68, 69, 70, 71, 72, 73, 74, 75, 76, 77, 78, 79, 80, 81, 82, 83, 84, 85, 86, 87, 88, 89, 90])) (i := (Int.tmod x20_2 b)) rfl Tryz.underlying9 (by rfl) (by rfl) hb_2) (by rfl) ?_
              obtain ⟨e_2, he_2, h⟩ := h
              refine WL.val hn (by rfl) (val_indexO (T := (intKT .u8)) (l := l1_5) (k := (wr (x19_5 - 1))) ht rfl (by rfl) (by rfl) (by rfl) (by rfl) (by decide) (by rfl) (by rfl) (by rfl) he_2) (by rfl) ?_
              refine WL.storeO (T := (intKT .u8)) (l := l1_5) (y := b_2) ht hn (by rfl) rfl (by rfl) (by rfl) (fun _ h => by cases h) (by rfl) (by rfl) (idx_lt he_2) (by rfl) (by rfl) (by rfl) (by rfl) ?_
              refine WL.nil ?_
              refine En.region ?_
              refine WL.run ht hn 2 ⟨[(0, .sv (.one (.own 0))), (2, .sv (.one (.pown 1 (Vk 1)))), (3, .sv (.one (.v (.int .u64 b)))), (4, .sv (.one (I n))), (5, .sv (.one (.v (.int .u64 y)))), (19, .sv (.one (I (wr (x19_5 - 1))))), (23, .sv (.one (I x23))), (174, .sv (.one (.v (.int .u64 x20_2)))), (175, .sv (.one (.v (.int .u64 b))))], [rowI 68 (intKT .u64) ([] : List Int), rowI 5 (intKT .u8) (l1_5.set ((wr (x19_5 - 1))).toNat b_2)]⟩ (by kernel_rfl) ?_
              have hz_2 := h.1
              replace h := h.2
              refine WL.val hn (by rfl) (val_div (u := x20_2) (v := b) rfl (by rfl) (by rfl) hz_2 (.inl ⟨rfl, rfl⟩)) (by rfl) ?_
              refine WL.run ht hn 1 ⟨[(0, .sv (.one (.own 0))), (2, .sv (.one (.pown 1 (Vk 1)))), (3, .sv (.one (.v (.int .u64 b)))), (4, .sv (.one (I n))), (5, .sv (.one (.v (.int .u64 y)))), (19, .sv (.one (I (wr (x19_5 - 1))))), (20, .sv (.one (.v (.int .u64 (IntKind.wrap .u64 (Int.tdiv x20_2 b)))))), (23, .sv (.one (I x23)))], [rowI 68 (intKT .u64) ([] : List Int), rowI 5 (intKT .u8) (l1_5.set ((wr (x19_5 - 1))).toNat b_2)]⟩ (by kernel_rfl) ?_
              refine WL.nil ?_
              refine En.region ?_
              refine WL.run ht hn 3 ⟨[(0, .sv (.one (.own 0))), (2, .sv (.one (.pown 1 (Vk 1)))), (3, .sv (.one (.v (.int .u64 b)))), (4, .sv (.one (I n))), (5, .sv (.one (.v (.int .u64 y)))), (19, .sv (.one (I (wr (x19_5 - 1))))), (20, .sv (.one (.v (.int .u64 (IntKind.wrap .u64 (Int.tdiv x20_2 b)))))), (23, .sv (.one (I (wr (x23 + 1)))))], [rowI 68 (intKT .u64) ([] : List Int), rowI 5 (intKT .u8) (l1_5.set ((wr (x19_5 - 1))).toNat b_2)]⟩ (by kernel_rfl) ?_
              refine WL.nil ?_
              exact En.at (I := fun zz => Inv_4 zz.1 zz.2.1 zz.2.2.1 zz.2.2.2 ∧ mu_4 zz.1 zz.2.1 zz.2.2.1 zz.2.2.2 < mu_4 x19_5 x20_2 x23 l1_5) (T := fun zz => ⟨[(0, .sv (.one (.own 0))), (2, .sv (.one (.pown 1 (Vk 1)))), (3, .sv (.one (.v (.int .u64 b)))), (4, .sv (.one (I n))), (5, .sv (.one (.v (.int .u64 y)))), (19, .sv (.one (I zz.1))), (20, .sv (.one (.v (.int .u64 zz.2.1)))), (23, .sv (.one (I zz.2.2.1)))], [rowI 68 (intKT .u64) ([] : List Int), rowI 5 (intKT .u8) zz.2.2.2]⟩) ((wr (x19_5 - 1)), (IntKind.wrap .u64 (Int.tdiv x20_2 b)), (wr (x23 + 1)), (l1_5.set ((wr (x19_5 - 1))).toNat b_2)) h (by kernel_rfl)
            · replace h := h.2 hb
              refine En.exit rfl ?_
              exact En.at (I := fun zz => Inv_3 zz.1 zz.2.1 zz.2.2 ∧ mu_3 zz.1 zz.2.1 zz.2.2 < mu_3 x19_4 l0_2 l1_4) (T := fun zz => ⟨[(0, .sv (.one (.own 0))), (2, .sv (.one (.pown 1 (Vk 1)))), (3, .sv (.one (.v (.int .u64 b)))), (4, .sv (.one (I n))), (5, .sv (.one (.v (.int .u64 y)))), (19, .sv (.one (I zz.1)))], [rowI 68 (intKT .u64) zz.2.1, rowI 5 (intKT .u8) zz.2.2]⟩) (x19_5, ([] : List Int), l1_5) h (by kernel_rfl)
        · replace h := h.2 hb
          refine En.exit rfl ?_
          exact En.at (I := fun zz => J zz.1 zz.2) (T := fun zz => ⟨[(2, .sv (.one (.pown 1 (Vk 1)))), (19, .sv (.one (I zz.1)))], [.gone, rowI 5 (intKT .u8) zz.2]⟩) (x19_4, l1_4) h (by kernel_rfl)
    · rintro ⟨x19, l1⟩ h
      replace h := hJ _ _ h
      show En c ⟨[(2, .sv (.one (.pown 1 (Vk 1)))), (19, .sv (.one (I x19)))], [.gone, rowI 5 (intKT .u8) l1]⟩ _
      refine En.block ?_
      obtain ⟨Inv_5, mu_5, h0_5, hI_5⟩ := h
      refine En.loop (σ := Int × (List Int)) (fun zz => Inv_5 zz.1 zz.2) (fun zz => mu_5 zz.1 zz.2) (fun zz => ⟨[(2, .sv (.one (.pown 1 (Vk 1)))), (19, .sv (.one (I zz.1)))], [.gone, rowI 5 (intKT .u8) zz.2]⟩) (x19, l1) h0_5 (sub_ok (by kernel_rfl)) ?_
      rintro ⟨x19_6, l1_6⟩ h
      replace h := hI_5 _ _ h
      show En c ⟨[(2, .sv (.one (.pown 1 (Vk 1)))), (19, .sv (.one (I x19_6)))], [.gone, rowI 5 (intKT .u8) l1_6]⟩ _
      refine En.seq ?_
      refine En.seq ?_
      refine En.region ?_
      refine WL.run ht hn 2 ⟨[(2, .sv (.one (.pown 1 (Vk 1)))), (19, .sv (.one (I x19_6))), (178, .sv (.one (B (decide (x19_6 > 0)))))], [.gone, rowI 5 (intKT .u8) l1_6]⟩ (by kernel_rfl) ?_
      refine WL.nil ?_
      refine En.cond (b := (decide (x19_6 > 0))) (by kernel_rfl) (fun hb => ?_) (fun hb => ?_)
      · replace h := h.1 hb
        refine En.skip ?_
        refine En.block ?_
        refine En.seq ?_
        refine En.region ?_
        refine WL.run ht hn 3 ⟨[(2, .sv (.one (.pown 1 (Vk 1)))), (19, .sv (.one (I (wr (x19_6 - 1)))))], [.gone, rowI 5 (intKT .u8) l1_6]⟩ (by kernel_rfl) ?_
        refine WL.nil ?_
        refine En.region ?_
        refine WL.run ht hn 2 ⟨[(2, .sv (.one (.pown 1 (Vk 1)))), (19, .sv (.one (I (wr (x19_6 - 1))))), (181, .sv (.one (.own 1))), (182, .sv (.one (I (wr (x19_6 - 1)))))], [.gone, rowI 5 (intKT .u8) l1_6]⟩ (by kernel_rfl) ?_
        obtain ⟨e_3, he_3, h⟩ := h
        refine WL.val hn (by rfl) (val_indexO (T := (intKT .u8)) (l := l1_6) (k := (wr (x19_6 - 1))) ht rfl (by rfl) (by rfl) (by rfl) (by rfl) (by decide) (by rfl) (by rfl) (by rfl) he_3) (by rfl) ?_
        refine WL.storeO (T := (intKT .u8)) (l := l1_6) (y := 48) ht hn (by rfl) rfl (by rfl) (by rfl) (fun _ h => by cases h) (by rfl) (by rfl) (idx_lt he_3) (by rfl) (by rfl) (by rfl) (by rfl) ?_
        refine WL.nil ?_
        exact En.at (I := fun zz => Inv_5 zz.1 zz.2 ∧ mu_5 zz.1 zz.2 < mu_5 x19_6 l1_6) (T := fun zz => ⟨[(2, .sv (.one (.pown 1 (Vk 1)))), (19, .sv (.one (I zz.1)))], [.gone, rowI 5 (intKT .u8) zz.2]⟩) ((wr (x19_6 - 1)), (l1_6.set ((wr (x19_6 - 1))).toNat 48)) h (by kernel_rfl)
      · replace h := h.2 hb
        refine En.exit rfl ?_
        exact En.backR [2] ht l1_6 h (by kernel_rfl) (by rfl) rfl
theorem en54 : ∀ args w, (callFunc 54 args).run Tryz.prog w = .ok (.enter 54 args) w := enters_of Tryz.func54 (by kernel_rfl) rfl
def digL : Nat → Int → List Int
  | 0, _ => []
  | m + 1, v => digL m (v / 10) ++ [48 + v % 10]
theorem digL_len : ∀ (m : Nat) (v : Int), (digL m v).length = m
  | 0, _ => rfl
  | m + 1, v => by simp [digL, digL_len m]
def CvI (D : List Int) (k : Nat) (t : Int) (l : List Int) : Prop := ∃ pre suf : List Int, pre.length = k ∧ l = pre ++ suf ∧ D = digL k t ++ suf
theorem CvI.step {D : List Int} {k : Nat} {t : Int} {l : List Int} (h : CvI D (k + 1) t l) : (∃ e, idx l (k : Int) = some e) ∧ CvI D k (t / 10) (l.set k (48 + t % 10)) := by
  obtain ⟨pre, suf, h1, rfl, h3⟩ := h
  obtain ⟨pre', z, rfl⟩ : ∃ pre' z, pre = pre' ++ [z] := by
    refine ⟨pre.dropLast, pre.getLast (by intro e; rw [e] at h1; cases h1), (List.dropLast_concat_getLast _).symm⟩
  have hk : pre'.length = k := by simpa using h1
  refine ⟨⟨z, ?_⟩, pre', (48 + t % 10) :: suf, hk, ?_, ?_⟩
  · unfold idx
    rw [if_pos (by omega), Int.toNat_natCast, List.append_assoc, List.getElem?_append_right (by omega), hk]
    simp
  · rw [List.append_assoc, ← hk]
    simp
  · rw [h3]
    simp [digL]
theorem CvI.zero {D : List Int} {t t' : Int} {l : List Int} (h : CvI D 0 t l) : CvI D 0 t' l := h
theorem CvI.done {D : List Int} {t : Int} {l : List Int} (h : CvI D 0 t l) : l = D := by
  obtain ⟨pre, suf, h1, rfl, rfl⟩ := h
  rw [List.length_eq_zero_iff.1 h1]
  rfl
theorem put_eq {t : Int} (h0 : 0 ≤ t) (h1 : t < 18446744073709551616) : IntKind.wrap .u64 (Int.tdiv t 10) = t / 10 ∧ IntKind.wrap .u8 (48 + IntKind.wrap .u8 (IntKind.wrap .u64 (t - IntKind.wrap .u64 (IntKind.wrap .u64 (Int.tdiv t 10) * 10)))) = 48 + t % 10 := by
  have w64 : ∀ x : Int, 0 ≤ x → x < 18446744073709551616 → IntKind.wrap .u64 x = x := fun x a b => Int.emod_eq_of_lt a b
  have w8 : ∀ x : Int, 0 ≤ x → x < 256 → IntKind.wrap .u8 x = x := fun x a b => Int.emod_eq_of_lt a b
  have e1 : Int.tdiv t 10 = t / 10 := Int.tdiv_eq_ediv_of_nonneg h0
  rw [e1, w64 (t / 10) (by omega) (by omega), w64 (t / 10 * 10) (by omega) (by omega), w64 (t - t / 10 * 10) (by omega) (by omega), w8 (t - t / 10 * 10) (by omega) (by omega), w8 _ (by omega) (by omega)]
  exact ⟨rfl, by omega⟩
theorem bCnv_ct (q : List Int) (x : Value) (s : List Int) (b : Int) (n : Int) (y : Int) (hp : ∃ v, q = [v] ∧ 0 < v ∧ v < 10000000000000000000 ∧ s.length ≤ 1000 ∧ b = 10 ∧ n = 19 ∧ y = 10000000000000000000)  : CtE 54 [.sv (.one (.own 0)), .sv (.one (.v (x))), .sv (.one (.own 1)), .sv (.one (.v (.int .u64 b))), .sv (.one (I n)), .sv (.one (.v (.int .u64 y))), .sv (.one (.v (.slice none 0 0)))] [rowI 68 (intKT .u64) q, rowI 5 (intKT .u8) s] [1] (fun (_ : Unit) => True) (fun _ => .tup []) (fun _ => [.gone, rowI 5 (intKT .u8) (digL s.length q.sum)]) := by
  refine (bCnv_walk q x s b n y (fun res_ => res_ = digL s.length q.sum) ?_).imp (fun r hr => ⟨(), trivial, by subst hr; rfl, by subst hr; rfl⟩)
  obtain ⟨v, rfl, h0, h1, h2, rfl, rfl, rfl⟩ := hp
  have hsum : ([v] : List Int).sum = v := by simp
  rw [hsum]
  obtain ⟨D, hD⟩ : ∃ D, D = digL s.length v := ⟨_, rfl⟩
  rw [← hD]
  have hD0 : CvI D s.length v s := ⟨s, [], rfl, by simp, by simp [hD]⟩
  have hsl : (s.length : Int) ≤ 1000 := by omega
  unfold bCnv_vc
  refine ⟨fun x l => ∃ k : Nat, x = k ∧ k ≤ 1000 ∧ CvI D k 0 l, ⟨fun _ => ?_, fun h => (by cases h)⟩, ?_⟩
  · refine ⟨fun x q l => (x = s.length ∧ q = [v] ∧ l = s) ∨ (q = [] ∧ ∃ k : Nat, x = k ∧ k ≤ 1000 ∧ CvI D k 0 l), fun _ q _ => q.length, .inl ⟨rfl, rfl, rfl⟩, ?_⟩
    rintro x q l (⟨rfl, rfl, rfl⟩ | ⟨rfl, hk⟩)
    · refine ⟨fun _ => ⟨⟨v, rfl, by omega, h1, by decide, by decide⟩, fun x t j l => ∃ (k : Nat) (i : Nat), x = k ∧ j = i ∧ i ≤ 19 ∧ k ≤ 1000 ∧ 0 ≤ t ∧ t ≤ v ∧ t < 10 ^ (19 - i) ∧ CvI D k t l, fun x _ _ _ => x.toNat, ⟨l.length, 0, rfl, rfl, by decide, by omega, by rw [hsum]; omega, by rw [hsum]; omega, by rw [hsum]; exact h1, by rw [hsum]; exact hD0⟩, ?_⟩, fun h => ?_⟩
      · rintro x t j l' ⟨k, i, rfl, rfl, hi, hk, t0, tv, t1, hc⟩
        refine ⟨fun h => ?_, fun h => ?_⟩
        · simp only [Bool.and_eq_true, decide_eq_true_eq] at h
          obtain ⟨k, rfl⟩ : ∃ k', k = k' + 1 := ⟨k - 1, by omega⟩
          have hlt : t < 18446744073709551616 := by omega
          obtain ⟨p1, p2⟩ := put_eq t0 hlt
          have hw : wr (((k + 1 : Nat) : Int) - 1) = (k : Int) := by rw [wr_in (by omega) (by omega)]; omega
          rw [p2, p1, hw, Int.toNat_natCast]
          obtain ⟨s1, s2⟩ := hc.step
          obtain ⟨e, he⟩ := s1
          refine ⟨e, he, ⟨k, i + 1, rfl, wsucc (by omega), by omega, by omega, by omega, by omega, ?_, s2⟩, by show (k : Int).toNat < ((k + 1 : Nat) : Int).toNat; omega⟩
          refine Int.ediv_lt_of_lt_mul (by decide) ?_
          have : (10 : Int) ^ (19 - i) = 10 ^ (19 - (i + 1)) * 10 := by
            rw [show 19 - i = (19 - (i + 1)) + 1 by omega, Int.pow_succ]
          omega
        · simp only [Bool.and_eq_false_iff, decide_eq_false_iff_not] at h
          refine ⟨.inr ⟨rfl, k, rfl, hk, ?_⟩, by simp⟩
          rcases h with h | h
          · have : i = 19 := by omega
            subst this
            have : t = 0 := by
              have : (10 : Int) ^ (19 - 19) = 1 := by decide
              omega
            subst this
            exact hc
          · have : k = 0 := by omega
            subst this
            exact hc.zero
      · simp at h
    · refine ⟨fun h => absurd (of_decide_eq_true h) (by simp), fun _ => hk⟩
  · rintro x l ⟨k, rfl, hk, hc⟩
    refine ⟨fun x l => ∃ k : Nat, x = k ∧ k ≤ 1000 ∧ CvI D k 0 l, fun x _ => x.toNat, ⟨k, rfl, hk, hc⟩, ?_⟩
    rintro x l ⟨k, rfl, hk, hc⟩
    refine ⟨fun h => ?_, fun h => ?_⟩
    · have h := of_decide_eq_true h
      obtain ⟨k, rfl⟩ : ∃ k', k = k' + 1 := ⟨k - 1, by omega⟩
      have hw : wr (((k + 1 : Nat) : Int) - 1) = (k : Int) := by rw [wr_in (by omega) (by omega)]; omega
      rw [hw, Int.toNat_natCast]
      obtain ⟨⟨e, he⟩, s2⟩ := hc.step
      exact ⟨e, he, ⟨k, rfl, by omega, s2⟩, by show (k : Int).toNat < ((k + 1 : Nat) : Int).toNat; omega⟩
    · have h := of_decide_eq_false h
      have : k = 0 := by omega
      subst this
      exact hc.done
section
attribute [local irreducible] wpList
def GL : Gh → Prop := fun g => g.cell ⟨1, 0, none⟩ = some (.int .i64 8)
theorem GL_mono : glMono GL := fun g g' h e => by
  unfold GL at e ⊢
  exact Gh.cell_up h e
theorem bfree (w : World) (b : Nat) (h : w.cell? ⟨b, 0, none⟩ = some (.pointer none)) : CallsD Tryz.prog 51 #[.pointer (some ⟨b, 0, none⟩)] .returning w (fun e u' w' => u' = .returning ∧ (∃ v, e = .returned v) ∧ w' = w) := by
  go_enter_d Tryz.func51, Tryz.ntmps51
  go_wp2
  go_end0
  exact ⟨⟨_, rfl⟩, rfl⟩
theorem bdivs (x : Value) (b n y : Int) (w : World) (h : w.cell? ⟨1, 0, none⟩ = some (.int .i64 8)) : Calls Tryz.prog 53 #[x, .int .i64 1, .int .u64 b, .int .i64 n, .int .u64 y] w fun e w' => e = .returned (.slice none 0 0) ∧ w' = w := by
  go_enter Tryz.func53, Tryz.ntmps53
  go_wp2
  go_ret
  exact ⟨rfl, rfl⟩
theorem bDivs_ct (x : Value) (b n y : Int) : CtG GL 53 [.sv (.one (.v x)), .sv (.one (.v (.int .i64 1))), .sv (.one (.v (.int .u64 b))), .sv (.one (.v (.int .i64 n))), .sv (.one (.v (.int .u64 y)))] [] (fun (_ : Unit) => True) (fun _ => .sv (.one (.v (.slice none 0 0)))) := fun w g hs args hG hpe ha _ => by
  match args, ha with
  | [a0, a1, a2, a3, a4], ⟨⟨e0, _⟩, ⟨e1, _⟩, ⟨e2, _⟩, ⟨e3, _⟩, ⟨e4, _⟩, _⟩ =>
    have e0 : a0 = x := e0
    have e1 : a1 = .int .i64 1 := e1
    have e2 : a2 = .int .u64 b := e2
    have e3 : a3 = .int .i64 n := e3
    have e4 : a4 = .int .u64 y := e4
    subst e0 e1 e2 e3 e4
    refine (bdivs a0 b n y w (hpe.cell hG)).mono ?_
    rintro en w' ⟨rfl, rfl⟩
    exact ⟨_, g, (), rfl, trivial, ⟨rfl, trivial⟩, base_of (v := .slice none 0 0) hpe ⟨rfl, rfl, rfl, Nat.le_refl _, fun _ _ _ => rfl⟩ (fun b e => by simp [Value.ownBlock] at e)⟩
end
def bStk_vc (Q : Unit → Prop) : Prop :=
  Q ()
theorem bStk_walk (Q : Unit → Prop) (h : bStk_vc  Q) : CtE 50 [] [] [] Q (fun (r : Unit) => .sv (.one (.ptr 0 0))) (fun (r : Unit) => [.box [.v (.pointer none)] 97 false]) := by
  have ht := tab_ok
  refine CtE.body Tryz.func50 rfl rfl rfl (by kernel_rfl) (by kernel_rfl) (fun c Bk hn => ?_)
  unfold bStk_vc at h
  show En c ⟨[], []⟩ _
  refine En.seq ?_
  refine En.region ?_
  refine WL.run ht hn 1 ⟨[], []⟩ (by kernel_rfl) ?_
  refine WL.nil ?_
  refine En.seq ?_
  refine En.region ?_
  refine WL.run ht hn 3 ⟨[(0, .sv (.one (.ptr 0 0)))], [.box [.v (.pointer none)] 97 false]⟩ (by kernel_rfl) ?_
  refine WL.nil ?_
  refine En.ret ?_
  exact En.backE [] ht () h (by kernel_rfl) (by rfl) rfl
theorem en50 : ∀ args w, (callFunc 50 args).run Tryz.prog w = .ok (.enter 50 args) w := enters_of Tryz.func50 (by kernel_rfl) rfl
theorem bStk_ct : CtE 50 [] [] [] (fun (_ : Unit) => True) (fun _ => .sv (.one (.ptr 0 0))) (fun _ => [.box [.v (.pointer none)] 97 false]) := by
  refine (bStk_walk (fun r => True) ?_).imp (fun r hr => ⟨(), trivial, rfl, rfl⟩)
  trivial
theorem bBit_c (x : List Int) (hp : ∃ v, x = [v] ∧ 0 < v ∧ v < 4611686018427387904) : Ct 47 [.sv (.one (LS (intKT .u64) x))] [] (LenQ x.sum) (fun (r : Int) => .sv (.one (I r))) := by
  obtain ⟨v, rfl, h1, h2⟩ := hp
  have := bBit_ct [v] v ⟨rfl, h1, h2⟩
  simpa using this
theorem bDivs_c (x : Value) (m b n y : Int) (hp : m = 1) : CtG GL 53 [.sv (.one (.v x)), .sv (.one (.v (.int .i64 m))), .sv (.one (.v (.int .u64 b))), .sv (.one (.v (.int .i64 n))), .sv (.one (.v (.int .u64 y)))] [] (fun (_ : Unit) => True) (fun _ => .sv (.one (.v (.slice none 0 0)))) := by
  subst hp
  exact bDivs_ct x b n y
theorem nset_c (x : List Int) (hp : ∃ u, x = [u]) : CtI 39 [.sv (.one (.v (.slice none 0 0))), .sv (.one (LS (intKT .u64) x))] [] (wordI x) := by
  obtain ⟨u, rfl⟩ := hp
  exact nset_ct [u] u rfl
theorem en39 : ∀ args w, (callFunc 39 args).run Tryz.prog w = .ok (.enter 39 args) w := enters_of Tryz.func39 (by kernel_rfl) rfl
theorem en48 : ∀ args w, (callFunc 48 args).run Tryz.prog w = .ok (.enter 48 args) w := enters_of Tryz.func48 (by kernel_rfl) rfl
theorem en53 : ∀ args w, (callFunc 53 args).run Tryz.prog w = .ok (.enter 53 args) w := enters_of Tryz.func53 (by kernel_rfl) rfl
theorem en51 : ∀ args w, (callFunc 51 args).run Tryz.prog w = .ok (.enter 51 args) w := enters_of Tryz.func51 (by kernel_rfl) rfl
def bIto_vc (x : List Int) (Q : (List Int) → Prop) : Prop :=
  x.length ≤ 9223372036854775807 →
  (IfP ((decide (10 < 2)) || (decide (10 > 62))) (False) (IfP ((x.length : Int) == 0) (False) ((∃ v, x = [v] ∧ 0 < v ∧ v < 4611686018427387904) ∧
  ∀ r : Int, (LenQ (x.sum)) r →
  ((0 ≤ r ∧ r ≤ 64) ∧
  makeOk (wr ((flT r) + 1)) (wr ((flT r) + 1)) 1 ∧
  ((IntKind.wrap .u64 10) = 10) ∧
  ((x.length : Int) = 1) ∧
  (∃ u, x = [u]) ∧
  (∃ v, (x) = [v] ∧ 0 < v ∧ v < 10000000000000000000 ∧ (List.replicate ((wr ((flT r) + 1))).toNat (0 : Int)).length ≤ 1000 ∧ (IntKind.wrap .u64 10) = 10 ∧ (((10000000000000000000, 19) : Int × Int)).2 = 19 ∧ (((10000000000000000000, 19) : Int × Int)).1 = 10000000000000000000) ∧
  ∃ (Inv : Int → Prop) (mu : Int → Nat), Inv 0 ∧
  ∀ (x7 : Int) , Inv x7 → (∃ e, idx (digL (List.replicate ((wr ((flT r) + 1))).toNat (0 : Int)).length (x).sum) x7 = some e ∧
  IfP (e == 48) ((Inv (wr (x7 + 1)) ∧ mu (wr (x7 + 1)) < mu x7)) ((0 ≤ x7 ∧ x7 ≤ ((digL (List.replicate ((wr ((flT r) + 1))).toNat (0 : Int)).length (x).sum).length : Int)) ∧
  Q ((digL (List.replicate ((wr ((flT r) + 1))).toNat (0 : Int)).length (x).sum).drop (x7 : Int).toNat)))))))
theorem bIto_walk (x : List Int) (Q : (List Int) → Prop) (h : bIto_vc x Q) : CtG GL 34 [.sv (.one (LS (intKT .u64) x)), .sv (.one (B false)), .sv (.one (I 10))] [] Q (fun (r : List Int) => .sv (.one (LS (intKT .u8) r))) := by
  have ht := tab_ok
  refine CtG.bodyD Tryz.func34 rfl rfl rfl (fun c R hn hG hdf hR hpan => ?_)
  unfold bIto_vc at h
  refine En.lenL 0 (by rfl) (fun hl => ?_)
  replace h := h hl
  clear hl
  refine En.seq ?_
  refine En.region ?_
  refine WL.run ht hn 1 ⟨[(0, .sv (.one (LS (intKT .u64) x))), (1, .sv (.one (B false))), (2, .sv (.one (I 10)))], []⟩ (by kernel_rfl) ?_
  refine WL.nil ?_
  refine En.seq ?_
  refine En.seq ?_
  refine En.region ?_
  refine WL.run ht hn 3 ⟨[(0, .sv (.one (LS (intKT .u64) x))), (1, .sv (.one (B false))), (2, .sv (.one (I 10))), (22, .sv (.one (B (decide (10 < 2)))))], []⟩ (by kernel_rfl) ?_
  refine WL.thru ⟨[(0, .sv (.one (LS (intKT .u64) x))), (1, .sv (.one (B false))), (2, .sv (.one (I 10))), (25, .sv (.one (B ((decide (10 < 2)) || (decide (10 > 62))))))], []⟩ ?_ ?_
  · refine splitB (decide (10 < 2)) (fun hb0 => ?_) (fun hb0 => ?_)
    · refine WL.setB 22 hb0 (by kernel_rfl) ?_
      refine WL.run ht hn 3 ⟨[(0, .sv (.one (LS (intKT .u64) x))), (1, .sv (.one (B false))), (2, .sv (.one (I 10))), (25, .sv (.one (B true)))], []⟩ (by kernel_rfl) ?_
      exact WL.nil (sub_ok (by simp only [hb0]; kernel_rfl))
    · refine WL.setB 22 hb0 (by kernel_rfl) ?_
      refine WL.run ht hn 3 ⟨[(0, .sv (.one (LS (intKT .u64) x))), (1, .sv (.one (B false))), (2, .sv (.one (I 10))), (25, .sv (.one (B (decide (10 > 62)))))], []⟩ (by kernel_rfl) ?_
      exact WL.nil (sub_ok (by simp only [hb0]; kernel_rfl))
  · refine En.cond (b := ((decide (10 < 2)) || (decide (10 > 62)))) (by kernel_rfl) (fun hb => ?_) (fun hb => ?_)
    · replace h := h.1 hb
      exact h.elim
    · replace h := h.2 hb
      refine En.skip ?_
      refine En.seq ?_
      refine En.seq ?_
      refine En.region ?_
      refine WL.run ht hn 3 ⟨[(0, .sv (.one (LS (intKT .u64) x))), (1, .sv (.one (B false))), (2, .sv (.one (I 10))), (29, .sv (.one (B ((x.length : Int) == 0))))], []⟩ (by kernel_rfl) ?_
      refine WL.nil ?_
      refine En.cond (b := ((x.length : Int) == 0)) (by kernel_rfl) (fun hb => ?_) (fun hb => ?_)
      · replace h := h.1 hb
        exact h.elim
      · replace h := h.2 hb
        refine En.skip ?_
        refine En.seq ?_
        refine En.region ?_
        refine WL.run ht hn 1 ⟨[(0, .sv (.one (LS (intKT .u64) x))), (1, .sv (.one (B false))), (2, .sv (.one (I 10))), (32, .sv (.one (LS (intKT .u64) x)))], []⟩ (by kernel_rfl) ?_
        have hp := h.1
        replace h := h.2
        refine WL.mtQ (Q := LenQ (x.sum)) (x := fun (r : Int) => .sv (.one (I r))) (p := fun _ => none) hn (by rfl) (mtq_call (bBit_c x hp) en47 (caps := []) [] rfl (by rfl) (by kernel_rfl) (by kernel_rfl) (by rfl) (fun _ => rfl) (by rfl)) (fun r hr_2 => ⟨by rfl, _, by rfl, ?_⟩)
        replace h := h r hr_2
        refine WL.val hn (by rfl) (val_toF (n := (floatOfInt .f64 r)) rfl Tryz.underlying3 Tryz.underlying77 (by rfl) (by rfl)) (by rfl) ?_
        refine WL.run ht hn 1 ⟨[(0, .sv (.one (LS (intKT .u64) x))), (1, .sv (.one (B false))), (2, .sv (.one (I 10))), (34, .sv (.one (.v (.float .f64 (floatOfInt .f64 r))))), (35, .sv (.one (I 10)))], []⟩ (by kernel_rfl) ?_
        refine WL.val hn (by rfl) (val_toF (n := 4621819117588971520) rfl Tryz.underlying3 Tryz.underlying77 (by rfl) (by kernel_rfl)) (by rfl) ?_
        refine WL.mt0 (K := []) (p := none) hn (by rfl) (mt_call (log2_ct ) en48 (caps := []) [] rfl (by rfl) (by kernel_rfl) (by kernel_rfl) (by rfl) (by rfl) (by rfl)) (by rfl) (by rfl) (by rfl) ?_
        have hp_2 := h.1
        replace h := h.2
        refine WL.val hn (by rfl) (val_quoF rfl (by rfl) (by rfl) (fl_quo hp_2)) (by rfl) ?_
        refine WL.val hn (by rfl) (val_fromF rfl (by rfl) (fl_int hp_2)) (by rfl) ?_
        refine WL.run ht hn 2 ⟨[(0, .sv (.one (LS (intKT .u64) x))), (1, .sv (.one (B false))), (2, .sv (.one (I 10))), (7, .sv (.one (I (wr ((flT r) + 1)))))], []⟩ (by kernel_rfl) ?_
        refine WL.nil ?_
        refine En.seq ?_
        refine En.seq ?_
        refine En.region ?_
        refine WL.run ht hn 1 ⟨[(0, .sv (.one (LS (intKT .u64) x))), (1, .sv (.one (B false))), (2, .sv (.one (I 10))), (7, .sv (.one (I (wr ((flT r) + 1))))), (41, .sv (.one (B false)))], []⟩ (by kernel_rfl) ?_
        refine WL.nil ?_
        refine En.cond (b := false) (by kernel_rfl) (fun hb => ?_) (fun hb => ?_)
        · cases hb
        · refine En.skip ?_
          refine En.seq ?_
          refine En.region ?_
          refine WL.run ht hn 1 ⟨[(0, .sv (.one (LS (intKT .u64) x))), (1, .sv (.one (B false))), (2, .sv (.one (I 10))), (7, .sv (.one (I (wr ((flT r) + 1))))), (44, .sv (.one (I (wr ((flT r) + 1)))))], []⟩ (by kernel_rfl) ?_
          have hp := h.1
          replace h := h.2
          refine WL.mt0 (K := []) (p := some (0, rowI 5 (intKT .u8) (List.replicate ((wr ((flT r) + 1))).toNat (0 : Int)))) hn (by rfl) (mt_make (T := (intKT .u8)) (0 : Int) (zv := (.int .u8 0)) 0 (l := (wr ((flT r) + 1))) (cp := (wr ((flT r) + 1))) ht rfl (by rfl) (by rfl) (by rfl) (by rfl) (by decide) (by rfl) (by rfl) hp.1 hp.2.1 hp.2.2 (hp.le (by decide)) rfl (fun _ => ⟨rfl, trivial⟩)) (by rfl) (by rfl) (by rfl) ?_
          refine WL.run ht hn 1 ⟨[(0, .sv (.one (LS (intKT .u64) x))), (1, .sv (.one (B false))), (2, .sv (.one (I 10))), (7, .sv (.one (I (wr ((flT r) + 1))))), (8, .sv (.one (.own 0)))], [rowI 5 (intKT .u8) (List.replicate ((wr ((flT r) + 1))).toNat (0 : Int))]⟩ (by kernel_rfl) ?_
          refine WL.nil ?_
          refine En.seq ?_
          refine En.seq ?_
          refine En.region ?_
          refine WL.run ht hn 3 ⟨[(0, .sv (.one (LS (intKT .u64) x))), (1, .sv (.one (B false))), (7, .sv (.one (I (wr ((flT r) + 1))))), (8, .sv (.one (.own 0))), (9, .sv (.one (.v (.int .u64 (IntKind.wrap .u64 10)))))], [rowI 5 (intKT .u8) (List.replicate ((wr ((flT r) + 1))).toNat (0 : Int))]⟩ (by kernel_rfl) ?_
          refine WL.nil ?_
          refine En.seq ?_
          refine En.region ?_
          refine WL.run ht hn 6 ⟨[(0, .sv (.one (LS (intKT .u64) x))), (1, .sv (.one (B false))), (7, .sv (.one (I (wr ((flT r) + 1))))), (8, .sv (.one (.own 0))), (9, .sv (.one (.v (.int .u64 (IntKind.wrap .u64 10))))), (53, .sv (.one (B ((IntKind.wrap .u64 10) == (bitsI .and .u64 (IntKind.wrap .u64 10) (IntKind.wrap .u64 (0 - (IntKind.wrap .u64 10))))))))], [rowI 5 (intKT .u8) (List.replicate ((wr ((flT r) + 1))).toNat (0 : Int))]⟩ (by kernel_rfl) ?_
          refine WL.nil ?_
          refine En.cond (b := ((IntKind.wrap .u64 10) == (bitsI .and .u64 (IntKind.wrap .u64 10) (IntKind.wrap .u64 (0 - (IntKind.wrap .u64 10)))))) (by kernel_rfl) (fun hb => ?_) (fun hb => ?_)
          · cases (show ((IntKind.wrap .u64 10) == (bitsI .and .u64 (IntKind.wrap .u64 10) (IntKind.wrap .u64 (0 - (IntKind.wrap .u64 10))))) = false by kernel_rfl).symm.trans hb
          · refine En.seq ?_
            refine En.region ?_
            refine WL.callQ [(0, .sv (.one (LS (intKT .u64) x))), (1, .sv (.one (B false))), (7, .sv (.one (I (wr ((flT r) + 1))))), (8, .sv (.one (.own 0))), (9, .sv (.one (.v (.int .u64 (IntKind.wrap .u64 10))))), (53, .sv (.one (B ((IntKind.wrap .u64 10) == (bitsI .and .u64 (IntKind.wrap .u64 10) (IntKind.wrap .u64 (0 - (IntKind.wrap .u64 10))))))))] (bStk_ct ) en50 (caps := []) [] hn (by rfl) rfl (by rfl) (argsAs (by kernel_rfl) (by rfl)) (by kernel_rfl) (by decide) (by kernel_rfl) (by rfl) (by rfl) (fun r_2 hr_2_2 => ⟨by rfl, _, by rfl, ?_⟩)
            refine WL.run ht hn 1 ⟨[(0, .sv (.one (LS (intKT .u64) x))), (1, .sv (.one (B false))), (8, .sv (.one (.own 0))), (9, .sv (.one (.v (.int .u64 (IntKind.wrap .u64 10))))), (15, .sv (.one (.ptr 1 0)))], [rowI 5 (intKT .u8) (List.replicate ((wr ((flT r) + 1))).toNat (0 : Int)), .box [.v (.pointer none)] 97 false]⟩ (by kernel_rfl) ?_
            refine WL.nil ?_
            refine En.seq ?_
            refine En.region ?_
            refine WL.run ht hn 1 ⟨[(0, .sv (.one (LS (intKT .u64) x))), (1, .sv (.one (B false))), (8, .sv (.one (.own 0))), (9, .sv (.one (.v (.int .u64 (IntKind.wrap .u64 10))))), (15, .sv (.one (.ptr 1 0))), (137, .sv (.one (.ptr 1 0)))], [rowI 5 (intKT .u8) (List.replicate ((wr ((flT r) + 1))).toNat (0 : Int)), .box [.v (.pointer none)] 97 false]⟩ (by kernel_rfl) ?_
            refine WL.deferP (F := 51) (t := 15) (i := 1) (by rfl) rfl rfl (by rfl) (by rfl) hdf (fun c B_ hn' hw0 hg0 hm0 hpn hdf => ?_)
            obtain ⟨Bk, hBk⟩ : ∃ Bk : Nat → Nat, Bk 1 = B_ := ⟨fun _ => B_, rfl⟩
            subst hBk
            replace hR := hR_cast hw0 hg0 hm0 hR
            replace hG := (hg0 ▸ hG : GL c.g0)
            replace hpan := hpan_cast hpn hpan
            replace hn := hn'.trans hn
            clear hn' hw0 hg0 hm0
            refine WL.sub ⟨[(0, .sv (.one (LS (intKT .u64) x))), (1, .sv (.one (B false))), (8, .sv (.one (.own 0))), (9, .sv (.one (.v (.int .u64 (IntKind.wrap .u64 10))))), (15, .sv (.one (.pptr 1 0 (Bk 1)))), (137, .sv (.one (.ptr 1 0)))], [rowI 5 (intKT .u8) (List.replicate ((wr ((flT r) + 1))).toNat (0 : Int)), .box [.v (.pointer none)] 97 false]⟩ (by kernel_rfl) ?_
            refine WL.nil ?_
            refine En.cfg hpn ?_
            refine En.seq ?_
            refine En.region ?_
            refine WL.run ht hn 1 ⟨[(0, .sv (.one (LS (intKT .u64) x))), (1, .sv (.one (B false))), (8, .sv (.one (.own 0))), (9, .sv (.one (.v (.int .u64 (IntKind.wrap .u64 10))))), (15, .sv (.one (.pptr 1 0 (Bk 1)))), (139, .sv (.one (.v (.int .u64 (IntKind.wrap .u64 10)))))], [rowI 5 (intKT .u8) (List.replicate ((wr ((flT r) + 1))).toNat (0 : Int)), .box [.v (.pointer none)] 97 false]⟩ (by kernel_rfl) ?_
            have hp := h.1
            replace h := h.2
            refine WL.mt0 (K := []) (p := none) hn (by rfl) (mt_call (bMax_ct (IntKind.wrap .u64 10) hp) en52 (caps := []) [] rfl (by rfl) (by kernel_rfl) (by kernel_rfl) (by rfl) (by rfl) (by rfl)) (by rfl) (by rfl) (by rfl) ?_
            refine WL.run ht hn 5 ⟨[(0, .sv (.one (LS (intKT .u64) x))), (1, .sv (.one (B false))), (8, .sv (.one (.own 0))), (9, .sv (.one (.v (.int .u64 (IntKind.wrap .u64 10))))), (15, .sv (.one (.pptr 1 0 (Bk 1)))), (16, .sv (.one (.v (.int .u64 (((10000000000000000000, 19) : Int × Int)).1)))), (17, .sv (.one (I (((10000000000000000000, 19) : Int × Int)).2)))], [rowI 5 (intKT .u8) (List.replicate ((wr ((flT r) + 1))).toNat (0 : Int)), .box [.v (.pointer none)] 97 false]⟩ (by kernel_rfl) ?_
            refine WL.nil ?_
            refine En.seq ?_
            refine En.region ?_
            refine WL.run ht hn 6 ⟨[(0, .sv (.one (LS (intKT .u64) x))), (1, .sv (.one (B false))), (8, .sv (.one (.own 0))), (9, .sv (.one (.v (.int .u64 (IntKind.wrap .u64 10))))), (15, .sv (.one (.pptr 1 0 (Bk 1)))), (16, .sv (.one (.v (.int .u64 (((10000000000000000000, 19) : Int × Int)).1)))), (17, .sv (.one (I (((10000000000000000000, 19) : Int × Int)).2))), (143, .sv (.one (.ptr 1 0))), (145, .sv (.one (I (x.length : Int)))), (146, .sv (.one (.v (.int .u64 (IntKind.wrap .u64 10))))), (147, .sv (.one (I (((10000000000000000000, 19) : Int × Int)).2))), (148, .sv (.one (.v (.int .u64 (((10000000000000000000, 19) : Int × Int)).1))))], [rowI 5 (intKT .u8) (List.replicate ((wr ((flT r) + 1))).toNat (0 : Int)), .box [.v (.pointer none)] 97 false]⟩ (by kernel_rfl) ?_
            refine WL.ghost 143 (.sv (.one (.v ((.pointer (some ⟨Bk 1, 0, none⟩)))))) (by rfl) (ptr_v (t := 15) (by rfl)) ?_
            have hp := h.1
            replace h := h.2
            refine WL.mt0 (K := []) (p := none) hn (by rfl) (mt_callG (bDivs_c (.pointer (some ⟨Bk 1, 0, none⟩)) (x.length : Int) (IntKind.wrap .u64 10) (((10000000000000000000, 19) : Int × Int)).2 (((10000000000000000000, 19) : Int × Int)).1 hp) hG GL_mono en53 (caps := []) [] rfl (by rfl) (by kernel_rfl) (by kernel_rfl) (by rfl) (by rfl) (by rfl)) (by rfl) (by rfl) (by rfl) ?_
            refine WL.run ht hn 1 ⟨[(0, .sv (.one (LS (intKT .u64) x))), (1, .sv (.one (B false))), (8, .sv (.one (.own 0))), (9, .sv (.one (.v (.int .u64 (IntKind.wrap .u64 10))))), (15, .sv (.one (.pptr 1 0 (Bk 1)))), (16, .sv (.one (.v (.int .u64 (((10000000000000000000, 19) : Int × Int)).1)))), (17, .sv (.one (I (((10000000000000000000, 19) : Int × Int)).2))), (18, .sv (.one (.v (.slice none 0 0))))], [rowI 5 (intKT .u8) (List.replicate ((wr ((flT r) + 1))).toNat (0 : Int)), .box [.v (.pointer none)] 97 false]⟩ (by kernel_rfl) ?_
            refine WL.nil ?_
            refine En.seq ?_
            refine En.region ?_
            refine WL.run ht hn 1 ⟨[(1, .sv (.one (B false))), (8, .sv (.one (.own 0))), (9, .sv (.one (.v (.int .u64 (IntKind.wrap .u64 10))))), (15, .sv (.one (.pptr 1 0 (Bk 1)))), (16, .sv (.one (.v (.int .u64 (((10000000000000000000, 19) : Int × Int)).1)))), (17, .sv (.one (I (((10000000000000000000, 19) : Int × Int)).2))), (18, .sv (.one (.v (.slice none 0 0)))), (150, .sv (.one (LS (intKT .u64) x)))], [rowI 5 (intKT .u8) (List.replicate ((wr ((flT r) + 1))).toNat (0 : Int)), .box [.v (.pointer none)] 97 false]⟩ (by kernel_rfl) ?_
            have hp := h.1
            replace h := h.2
            refine WL.mt0 (K := []) (p := some (2, rowI 68 (intKT .u64) (x))) hn (by rfl) (mt_callI 2 (nset_c x hp) en39 (caps := []) [] rfl rfl (by rfl) (by kernel_rfl) (by kernel_rfl) (by rfl) (by rfl)) (by rfl) (by rfl) (by rfl) ?_
            refine WL.run ht hn 1 ⟨[(1, .sv (.one (B false))), (8, .sv (.one (.own 0))), (9, .sv (.one (.v (.int .u64 (IntKind.wrap .u64 10))))), (15, .sv (.one (.pptr 1 0 (Bk 1)))), (16, .sv (.one (.v (.int .u64 (((10000000000000000000, 19) : Int × Int)).1)))), (17, .sv (.one (I (((10000000000000000000, 19) : Int × Int)).2))), (18, .sv (.one (.v (.slice none 0 0)))), (19, .sv (.one (.own 2)))], [rowI 5 (intKT .u8) (List.replicate ((wr ((flT r) + 1))).toNat (0 : Int)), .box [.v (.pointer none)] 97 false, rowI 68 (intKT .u64) (x)]⟩ (by kernel_rfl) ?_
            refine WL.nil ?_
            refine En.seq ?_
            refine En.region ?_
            refine WL.run ht hn 7 ⟨[(1, .sv (.one (B false))), (8, .sv (.one (.own 0))), (15, .sv (.one (.pptr 1 0 (Bk 1)))), (152, .sv (.one (.own 2))), (153, .sv (.one (.ptr 1 0))), (154, .sv (.one (.own 0))), (155, .sv (.one (.v (.int .u64 (IntKind.wrap .u64 10))))), (156, .sv (.one (I (((10000000000000000000, 19) : Int × Int)).2))), (157, .sv (.one (.v (.int .u64 (((10000000000000000000, 19) : Int × Int)).1)))), (158, .sv (.one (.v (.slice none 0 0))))], [rowI 5 (intKT .u8) (List.replicate ((wr ((flT r) + 1))).toNat (0 : Int)), .box [.v (.pointer none)] 97 false, rowI 68 (intKT .u64) (x)]⟩ (by kernel_rfl) ?_
            refine WL.ghost 153 (.sv (.one (.v ((.pointer (some ⟨Bk 1, 0, none⟩)))))) (by rfl) (ptr_v (t := 15) (by rfl)) ?_
            have hp := h.1
            replace h := h.2
            refine WL.callQ [(1, .sv (.one (B false))), (8, .sv (.one (.own 0))), (15, .sv (.one (.pptr 1 0 (Bk 1)))), (153, .sv (.one (.v ((.pointer (some ⟨Bk 1, 0, none⟩)))))), (154, .sv (.one (.own 0))), (155, .sv (.one (.v (.int .u64 (IntKind.wrap .u64 10))))), (156, .sv (.one (I (((10000000000000000000, 19) : Int × Int)).2))), (157, .sv (.one (.v (.int .u64 (((10000000000000000000, 19) : Int × Int)).1)))), (158, .sv (.one (.v (.slice none 0 0))))] (bCnv_ct (x) (.pointer (some ⟨Bk 1, 0, none⟩)) (List.replicate ((wr ((flT r) + 1))).toNat (0 : Int)) (IntKind.wrap .u64 10) (((10000000000000000000, 19) : Int × Int)).2 (((10000000000000000000, 19) : Int × Int)).1 hp) en54 (caps := []) [2, 0] hn (by rfl) rfl (by rfl) (argsAs (by kernel_rfl) (by rfl)) (by kernel_rfl) (by decide) (by kernel_rfl) (by rfl) (by rfl) (fun r_3 hr_3 => ⟨by rfl, _, by rfl, ?_⟩)
            refine WL.nil ?_
            refine En.seq ?_
            refine En.region ?_
            refine WL.run ht hn 1 ⟨[(1, .sv (.one (B false))), (7, .sv (.one (I 0))), (8, .sv (.one (.own 0))), (15, .sv (.one (.pptr 1 0 (Bk 1))))], [rowI 5 (intKT .u8) (digL (List.replicate ((wr ((flT r) + 1))).toNat (0 : Int)).length (x).sum), .box [.v (.pointer none)] 97 false, .gone]⟩ (by kernel_rfl) ?_
            refine WL.nil ?_
            refine En.block ?_
            obtain ⟨Inv, mu, h0, hI⟩ := h
            refine En.loop (σ := Int) (fun zz => Inv zz) (fun zz => mu zz) (fun zz => ⟨[(1, .sv (.one (B false))), (7, .sv (.one (I zz))), (8, .sv (.one (.own 0))), (15, .sv (.one (.pptr 1 0 (Bk 1))))], [rowI 5 (intKT .u8) (digL (List.replicate ((wr ((flT r) + 1))).toNat (0 : Int)).length (x).sum), .box [.v (.pointer none)] 97 false, .gone]⟩) 0 h0 (sub_ok (by kernel_rfl)) ?_
            intro x7 h
            replace h := hI _ h
            show En c ⟨[(1, .sv (.one (B false))), (7, .sv (.one (I x7))), (8, .sv (.one (.own 0))), (15, .sv (.one (.pptr 1 0 (Bk 1))))], [rowI 5 (intKT .u8) (digL (List.replicate ((wr ((flT r) + 1))).toNat (0 : Int)).length (x).sum), .box [.v (.pointer none)] 97 false, .gone]⟩ _
            refine En.seq ?_
            refine En.seq ?_
            refine En.region ?_
            refine WL.run ht hn 2 ⟨[(1, .sv (.one (B false))), (7, .sv (.one (I x7))), (8, .sv (.one (.own 0))), (15, .sv (.one (.pptr 1 0 (Bk 1)))), (160, .sv (.one (.own 0))), (161, .sv (.one (I x7)))], [rowI 5 (intKT .u8) (digL (List.replicate ((wr ((flT r) + 1))).toNat (0 : Int)).length (x).sum), .box [.v (.pointer none)] 97 false, .gone]⟩ (by kernel_rfl) ?_
            obtain ⟨e, he, h⟩ := h
            refine WL.val hn (by rfl) (val_indexO (T := (intKT .u8)) (l := (digL (List.replicate ((wr ((flT r) + 1))).toNat (0 : Int)).length (x).sum)) (k := x7) ht rfl (by rfl) (by rfl) (by rfl) (by rfl) (by decide) (by rfl) (by rfl) (by rfl) he) (by rfl) ?_
            refine WL.val hn (by rfl) (val_loadO (T := (intKT .u8)) (l := (digL (List.replicate ((wr ((flT r) + 1))).toNat (0 : Int)).length (x).sum)) (y := e) ht rfl (by rfl) (by rfl) (by rfl) (by rfl) (by rfl) (idx_some he).2.2 (by rfl)) (by rfl) ?_
            refine WL.run ht hn 1 ⟨[(1, .sv (.one (B false))), (7, .sv (.one (I x7))), (8, .sv (.one (.own 0))), (15, .sv (.one (.pptr 1 0 (Bk 1)))), (164, .sv (.one (B (e == 48))))], [rowI 5 (intKT .u8) (digL (List.replicate ((wr ((flT r) + 1))).toNat (0 : Int)).length (x).sum), .box [.v (.pointer none)] 97 false, .gone]⟩ (by kernel_rfl) ?_
            refine WL.nil ?_
            refine En.cond (b := (e == 48)) (by kernel_rfl) (fun hb => ?_) (fun hb => ?_)
            · replace h := h.1 hb
              refine En.skip ?_
              refine En.block ?_
              refine En.region ?_
              refine WL.run ht hn 3 ⟨[(1, .sv (.one (B false))), (7, .sv (.one (I (wr (x7 + 1))))), (8, .sv (.one (.own 0))), (15, .sv (.one (.pptr 1 0 (Bk 1))))], [rowI 5 (intKT .u8) (digL (List.replicate ((wr ((flT r) + 1))).toNat (0 : Int)).length (x).sum), .box [.v (.pointer none)] 97 false, .gone]⟩ (by kernel_rfl) ?_
              refine WL.nil ?_
              exact En.at (I := fun zz => Inv zz ∧ mu zz < mu x7) (T := fun zz => ⟨[(1, .sv (.one (B false))), (7, .sv (.one (I zz))), (8, .sv (.one (.own 0))), (15, .sv (.one (.pptr 1 0 (Bk 1))))], [rowI 5 (intKT .u8) (digL (List.replicate ((wr ((flT r) + 1))).toNat (0 : Int)).length (x).sum), .box [.v (.pointer none)] 97 false, .gone]⟩) (wr (x7 + 1)) h (by kernel_rfl)
            · replace h := h.2 hb
              refine En.exit rfl ?_
              try refine En.cfg hpn ?_
              refine En.seq ?_
              refine En.seq ?_
              refine En.region ?_
              refine WL.run ht hn 1 ⟨[(7, .sv (.one (I x7))), (8, .sv (.one (.own 0))), (15, .sv (.one (.pptr 1 0 (Bk 1)))), (167, .sv (.one (B false)))], [rowI 5 (intKT .u8) (digL (List.replicate ((wr ((flT r) + 1))).toNat (0 : Int)).length (x).sum), .box [.v (.pointer none)] 97 false, .gone]⟩ (by kernel_rfl) ?_
              refine WL.nil ?_
              refine En.cond (b := false) (by kernel_rfl) (fun hb => ?_) (fun hb => ?_)
              · cases hb
              · refine En.skip ?_
                refine En.seq ?_
                refine En.region ?_
                refine WL.run ht hn 2 ⟨[(15, .sv (.one (.pptr 1 0 (Bk 1)))), (173, .sv (.one (.own 0))), (174, .sv (.one (I x7)))], [rowI 5 (intKT .u8) (digL (List.replicate ((wr ((flT r) + 1))).toNat (0 : Int)).length (x).sum), .box [.v (.pointer none)] 97 false, .gone]⟩ (by kernel_rfl) ?_
                have hp_3 := h.1
                replace h := h.2
                refine WL.mt (S2 := ⟨[(15, .sv (.one (.pptr 1 0 (Bk 1)))), (174, .sv (.one (I x7)))], [rowI 5 (intKT .u8) (digL (List.replicate ((wr ((flT r) + 1))).toNat (0 : Int)).length (x).sum), .box [.v (.pointer none)] 97 false, .gone]⟩) (K := [0]) (p := some (0, rowI 5 (intKT .u8) ((digL (List.replicate ((wr ((flT r) + 1))).toNat (0 : Int)).length (x).sum).drop (x7 : Int).toNat))) hn (by rfl) (mt_sliceF (T := (intKT .u8)) (l := (digL (List.replicate ((wr ((flT r) + 1))).toNat (0 : Int)).length (x).sum)) (p := 0) (lv := x7) ht rfl (by rfl) (by rfl) (by rfl) (by rfl) (by rfl) (by rfl) (by rfl) hp_3) (by kernel_rfl) (by rfl) (by rfl) (by rfl) ?_
                refine WL.run ht hn 1 ⟨[(6, .sv (.one (.own 0))), (15, .sv (.one (.pptr 1 0 (Bk 1))))], [rowI 5 (intKT .u8) ((digL (List.replicate ((wr ((flT r) + 1))).toNat (0 : Int)).length (x).sum).drop (x7 : Int).toNat), .box [.v (.pointer none)] 97 false, .gone]⟩ (by kernel_rfl) ?_
                refine WL.nil ?_
                refine En.ret ?_
                refine En.seal (T := (intKT .u8)) (l := ((digL (List.replicate ((wr ((flT r) + 1))).toNat (0 : Int)).length (x).sum).drop (x7 : Int).toNat)) (e := 5) 0 rfl ?_
                exact En.backPl 15 1 ht rfl hR hdf (by rfl) (by rfl) rfl bfree en51 ((digL (List.replicate ((wr ((flT r) + 1))).toNat (0 : Int)).length (x).sum).drop (x7 : Int).toNat) h (by kernel_rfl) rfl
theorem en34 : ∀ args w, (callFunc 34 args).run Tryz.prog w = .ok (.enter 34 args) w := enters_of Tryz.func34 (by kernel_rfl) rfl
def decL (v : Int) : List Int := if h : v ≤ 0 then [] else decL (v / 10) ++ [48 + v % 10]
termination_by v.toNat
decreasing_by omega
theorem decL_pos {v : Int} (h : 0 < v) : decL v = decL (v / 10) ++ [48 + v % 10] := by
  rw [decL]
  exact dif_neg (by omega)
theorem decL_zero : decL 0 = [] := by
  rw [decL]
  exact dif_pos (by decide)
theorem digL_dec : ∀ (m : Nat) (v : Int), 0 ≤ v → v < 10 ^ m → ∃ j, digL m v = List.replicate j 48 ++ decL v
  | 0, v, h0, h1 => by
    have : v = 0 := by
      have : (10 : Int) ^ 0 = 1 := rfl
      omega
    subst this
    exact ⟨0, by rw [decL_zero]; rfl⟩
  | m + 1, v, h0, h1 => by
    have hlt : v / 10 < 10 ^ m := Int.ediv_lt_of_lt_mul (by decide) (by rw [Int.pow_succ] at h1; exact h1)
    obtain ⟨j, hj⟩ := digL_dec m (v / 10) (Int.ediv_nonneg h0 (by decide)) hlt
    rcases Int.lt_or_eq_of_le h0 with c | c
    · exact ⟨j, by rw [digL, hj, decL_pos c, List.append_assoc]⟩
    · subst c
      refine ⟨j + 1, ?_⟩
      have e : (0 : Int) / 10 = 0 := by decide
      rw [e, decL_zero, List.append_nil] at hj
      rw [digL, e, hj, decL_zero, List.append_nil, List.replicate_succ']
      rfl
theorem decL_head (n : Nat) : ∀ v : Int, 0 < v → v.toNat ≤ n → ∃ x l, decL v = x :: l ∧ x ≠ 48 := by
  induction n with
  | zero => intro v h0 h1; omega
  | succ n ih =>
    intro v h0 h1
    rw [decL_pos h0]
    rcases Int.lt_or_le 0 (v / 10) with c | c
    · obtain ⟨x, l, e, hx⟩ := ih (v / 10) c (by omega)
      exact ⟨x, l ++ [48 + v % 10], by rw [e]; rfl, hx⟩
    · have e : v / 10 = 0 := by omega
      rw [e, decL_zero]
      exact ⟨_, [], rfl, by omega⟩
theorem bIto_ct (x : List Int) (hp : ∃ v, x = [v] ∧ 0 < v ∧ v < 4611686018427387904) : CtG GL 34 [.sv (.one (LS (intKT .u64) x)), .sv (.one (B false)), .sv (.one (I 10))] [] (fun (_ : Unit) => True) (fun _ => .sv (.one (LS (intKT .u8) (decL x.sum)))) := by
  refine (bIto_walk x (fun res_ => res_ = decL x.sum) ?_).fun
  obtain ⟨v, rfl, h0, h1⟩ := hp
  have hs : ([v] : List Int).sum = v := by simp
  have h10 : IntKind.wrap .u64 10 = 10 := by decide
  unfold bIto_vc
  intro _
  refine ⟨fun h => absurd h (by decide), fun _ => ⟨fun h => absurd h (by simp), fun _ => ⟨⟨v, rfl, h0, h1⟩, fun r hr => ?_⟩⟩⟩
  rw [hs] at hr
  obtain ⟨r0, r1, r2⟩ := hr
  obtain ⟨f0, f1, f2⟩ := fl_enough ⟨r0, r1⟩
  have hw : wr (flT r + 1) = flT r + 1 := wr_in (by omega) (by omega)
  rw [hs, hw, h10, List.length_replicate]
  have hv : v < 10 ^ (flT r + 1).toNat := Int.lt_of_lt_of_le r2 (by exact_mod_cast Int.ofNat_le.2 f2)
  obtain ⟨j, hj⟩ := digL_dec _ v (by omega) hv
  obtain ⟨y, l, hd, hy⟩ := decL_head v.toNat v h0 (Nat.le_refl _)
  have hjl : j < (flT r + 1).toNat := by
    have := congrArg List.length hj
    rw [digL_len, List.length_append, List.length_replicate, hd, List.length_cons] at this
    omega
  refine ⟨⟨r0, r1⟩, ?_, rfl, rfl, ⟨v, rfl⟩, ⟨v, rfl, h0, by omega, by omega, rfl, rfl, rfl⟩, ?_⟩
  · exact ⟨by omega, Int.le_refl _, by omega⟩
  rw [hj]
  refine ⟨fun i => ∃ k : Nat, i = k ∧ k ≤ j, fun i => j - i.toNat, ⟨0, rfl, Nat.zero_le _⟩, ?_⟩
  rintro i ⟨k, rfl, hk⟩
  rcases Nat.lt_or_eq_of_le hk with c | rfl
  · refine ⟨48, ?_, fun _ => ⟨⟨k + 1, wsucc (by omega), c⟩, ?_⟩, fun h => absurd h (by decide)⟩
    · unfold idx
      rw [if_pos (by omega), Int.toNat_natCast, List.getElem?_append_left (by simpa using c), List.getElem?_replicate, if_pos c]
    · rw [wr_in (by omega) (by omega)]
      show j - ((k : Int) + 1).toNat < j - (k : Int).toNat
      omega
  · refine ⟨y, ?_, fun h => absurd (by simpa using h) hy, fun _ => ⟨⟨by omega, by rw [List.length_append, List.length_replicate]; omega⟩, ?_⟩⟩
    · unfold idx
      rw [if_pos (by omega), Int.toNat_natCast, List.getElem?_append_right (by simp), hd]
      simp
    · rw [Int.toNat_natCast, List.drop_left' (by simp)]
theorem bIto_ct2 (x : List Int) (neg : Bool) (b : Int) (hp : ∃ v, x = [v] ∧ 0 < v ∧ v < 4611686018427387904 ∧ neg = false ∧ b = 10) : CtG GL 34 [.sv (.one (LS (intKT .u64) x)), .sv (.one (B neg)), .sv (.one (I b))] [] (fun (_ : Unit) => True) (fun _ => .sv (.one (LS (intKT .u8) (decL x.sum)))) := by
  obtain ⟨v, h1, h2, h3, rfl, rfl⟩ := hp
  exact bIto_ct x ⟨v, h1, h2, h3⟩
def bTex_vc (x : (Option MathBigInt)) (b : Int) (Q : ByteArray → Prop) : Prop :=
  IfP (x).isNone (Q (ByteArray.mk #[60, 110, 105, 108, 62])) (∃ y, x = some y ∧
  ∃ y_2, x = some y_2 ∧
  (∃ v, y.fAbs = [v] ∧ 0 < v ∧ v < 4611686018427387904 ∧ y_2.fNeg = false ∧ b = 10) ∧
  Q (bytesOf (decL (y.fAbs.sum))))
theorem bTex_walk (x : (Option MathBigInt)) (b : Int) (Q : ByteArray → Prop) (h : bTex_vc x b Q) : CtG GL 23 [.sv (.one (.rd (optPe MathBigInt.ty x))), .sv (.one (I b))] [] Q (fun (r : ByteArray) => .sv (.one (.v (.string r)))) := by
  have ht := tab_ok
  refine CtG.body Tryz.func23 rfl rfl rfl rfl (fun c hn hG => ?_)
  unfold bTex_vc at h
  refine En.seq ?_
  refine En.region ?_
  refine WL.run ht hn 1 ⟨[(0, .sv (.one (.rd (optPe MathBigInt.ty x)))), (1, .sv (.one (I b)))], []⟩ (by kernel_rfl) ?_
  refine WL.nil ?_
  refine En.seq ?_
  refine En.seq ?_
  refine En.region ?_
  refine WL.run ht hn 1 ⟨[(0, .sv (.one (.rd (optPe MathBigInt.ty x)))), (1, .sv (.one (I b))), (5, .sv (.one (.rd (optPe MathBigInt.ty x))))], []⟩ (by kernel_rfl) ?_
  refine WL.val hn (by rfl) (val_eqOp (T := MathBigInt.ty) (q := x) rfl Tryz.underlying42 (by rfl) (by rfl) (.inl ⟨rfl, rfl⟩)) (by rfl) ?_
  refine WL.nil ?_
  refine En.cond (b := (x).isNone) (by kernel_rfl) (fun hb => ?_) (fun hb => ?_)
  · replace h := h.1 hb
    refine En.seq ?_
    refine En.region ?_
    refine WL.run ht hn 1 ⟨[(4, .sv (.one (.v (.string (ByteArray.mk #[60, 110, 105, 108, 62])))))], []⟩ (by kernel_rfl) ?_
    refine WL.nil ?_
    refine En.ret ?_
    exact En.back ht (ByteArray.mk #[60, 110, 105, 108, 62]) h (by kernel_rfl) rfl
  · replace h := h.2 hb
    refine En.skip ?_
    refine En.seq ?_
    obtain ⟨y, hy, h⟩ := h
    obtain ⟨y_2, hy_2, h⟩ := h
    have hp_2 := h.1
    replace h := h.2
    refine En.regionA ⟨[(0, .sv (.one (.rd (optPe MathBigInt.ty x)))), (1, .sv (.one (I b)))], [.sv (.one (.rd (optPe MathBigInt.ty x))), .sv (.one (.pe (svR (.agg [B y.fNeg, LS (intKT .u64) y.fAbs])) 2)), .sv (.one (.pe (svR (.one (LS (intKT .u64) y.fAbs))) 1)), .sv (.one (LS (intKT .u64) y.fAbs)), .sv (.one (.rd (optPe MathBigInt.ty x))), .sv (.one (.pe (svR (.agg [B y_2.fNeg, LS (intKT .u64) y_2.fAbs])) 2)), .sv (.one (.pe (svR (.one (B y_2.fNeg))) 1)), .sv (.one (B y_2.fNeg)), .sv (.one (I b)), .sv (.one (LS (intKT .u8) (decL (y.fAbs.sum)))), .sv (.one (.v (.string (bytesOf (decL (y.fAbs.sum)))))), .sv (.one (.v (.string (bytesOf (decL (y.fAbs.sum))))))], []⟩ ⟨[(4, .sv (.one (.v (.string (bytesOf (decL (y.fAbs.sum)))))))], []⟩ (by kernel_rfl) hn (by kernel_rfl) (by rfl) (by kernel_rfl) ?_ (by kernel_rfl) ?_
    · exact ⟨.mt ⟨[(0, .sv (.one (.rd (optPe MathBigInt.ty x))))], []⟩ [] none (by kernel_rfl) (by rfl) (mt_ev ht (by kernel_rfl)) rfl rfl rfl rfl,
    .mt ⟨[(7, .sv (.one (.rd (optPe MathBigInt.ty x))))], []⟩ [] none (by kernel_rfl) (by rfl) (mt_val (val_nilOp (T := MathBigInt.ty) (y := y) rfl (by rfl) hy)) rfl rfl rfl rfl,
    .mt ⟨[(8, .sv (.one (.pe (svR (.agg [B y.fNeg, LS (intKT .u64) y.fAbs])) 2)))], []⟩ [] none (by kernel_rfl) (by rfl) (mt_val (val_field (l := [B y.fNeg, LS (intKT .u64) y.fAbs]) (r := .one (LS (intKT .u64) y.fAbs)) ht rfl (by rfl) (by rfl) (by rfl) (by rfl) (by rfl) (by rfl))) rfl rfl rfl rfl,
    .mt ⟨[(9, .sv (.one (.pe (svR (.one (LS (intKT .u64) y.fAbs))) 1)))], []⟩ [] none (by kernel_rfl) (by rfl) (mt_val (val_load (s := .one (LS (intKT .u64) y.fAbs)) ht rfl (by rfl) (by rfl) (by rfl) (by rfl) (by rfl))) rfl rfl rfl rfl,
    .mt ⟨[(0, .sv (.one (.rd (optPe MathBigInt.ty x))))], []⟩ [] none (by kernel_rfl) (by rfl) (mt_ev ht (by kernel_rfl)) rfl rfl rfl rfl,
    .mt ⟨[(11, .sv (.one (.rd (optPe MathBigInt.ty x))))], []⟩ [] none (by kernel_rfl) (by rfl) (mt_val (val_nilOp (T := MathBigInt.ty) (y := y_2) rfl (by rfl) hy_2)) rfl rfl rfl rfl,
    .mt ⟨[(12, .sv (.one (.pe (svR (.agg [B y_2.fNeg, LS (intKT .u64) y_2.fAbs])) 2)))], []⟩ [] none (by kernel_rfl) (by rfl) (mt_val (val_field (l := [B y_2.fNeg, LS (intKT .u64) y_2.fAbs]) (r := .one (B y_2.fNeg)) ht rfl (by rfl) (by rfl) (by rfl) (by rfl) (by rfl) (by rfl))) rfl rfl rfl rfl,
    .mt ⟨[(13, .sv (.one (.pe (svR (.one (B y_2.fNeg))) 1)))], []⟩ [] none (by kernel_rfl) (by rfl) (mt_val (val_load (s := .one (B y_2.fNeg)) ht rfl (by rfl) (by rfl) (by rfl) (by rfl) (by rfl))) rfl rfl rfl rfl,
    .mt ⟨[(1, .sv (.one (I b)))], []⟩ [] none (by kernel_rfl) (by rfl) (mt_ev ht (by kernel_rfl)) rfl rfl rfl rfl,
    .mt ⟨[(10, .sv (.one (LS (intKT .u64) y.fAbs))), (14, .sv (.one (B y_2.fNeg))), (15, .sv (.one (I b)))], []⟩ [] none (by kernel_rfl) (by rfl) (mt_callG (bIto_ct2 y.fAbs y_2.fNeg b hp_2) hG GL_mono en34 (caps := []) [] rfl (by rfl) (by kernel_rfl) (by kernel_rfl) (by rfl) (by rfl) (by rfl)) rfl rfl rfl rfl,
    .mt ⟨[(16, .sv (.one (LS (intKT .u8) (decL (y.fAbs.sum)))))], []⟩ [] none (by kernel_rfl) (by rfl) (mt_val (val_str rfl Tryz.underlying47 Tryz.underlying5 Tryz.underlying9 (srcLS (T := intKT .u8) (es := (decL (y.fAbs.sum))) (fun _ h => by cases h) (by decide) (by rfl)))) rfl rfl rfl rfl,
    .mt ⟨[(17, .sv (.one (.v (.string (bytesOf (decL (y.fAbs.sum)))))))], []⟩ [] none (by kernel_rfl) (by rfl) (mt_ev ht (by kernel_rfl)) rfl rfl rfl rfl,
    trivial⟩
    · refine En.ret ?_
      exact En.back ht (bytesOf (decL (y.fAbs.sum))) h (by kernel_rfl) rfl
theorem en23 : ∀ args w, (callFunc 23 args).run Tryz.prog w = .ok (.enter 23 args) w := enters_of Tryz.func23 (by kernel_rfl) rfl
theorem bTex_ct (x : (Option MathBigInt)) (b : Int) (hp : (∃ v, x = numR v ∧ 0 < v ∧ v < 4611686018427387904) ∧ b = 10)  : CtG GL 23 [.sv (.one (.rd (optPe MathBigInt.ty x))), .sv (.one (I b))] [] (fun (_ : Unit) => True) (fun _ => .sv (.one (.v (.string (bytesOf (decL (numS x))))))) := by
  refine (bTex_walk x b (fun res_ => res_ = (bytesOf (decL (numS x)))) ?_).fun
  obtain ⟨⟨v, rfl, h0, h1⟩, rfl⟩ := hp
  unfold bTex_vc
  exact ⟨fun h => (by cases h), fun _ => ⟨⟨false, [v]⟩, rfl, ⟨false, [v]⟩, rfl, ⟨v, rfl, h0, h1, rfl, rfl⟩, rfl⟩⟩
def bStr_vc (x : (Option MathBigInt)) (Q : ByteArray → Prop) : Prop :=
  ((∃ v, x = numR v ∧ 0 < v ∧ v < 4611686018427387904) ∧ (10 : Int) = 10) ∧
  Q (bytesOf (decL (numS x)))
theorem bStr_walk (x : (Option MathBigInt)) (Q : ByteArray → Prop) (h : bStr_vc x Q) : CtG GL 12 [.sv (.one (.rd (optPe MathBigInt.ty x)))] [] Q (fun (r : ByteArray) => .sv (.one (.v (.string r)))) := by
  have ht := tab_ok
  refine CtG.body Tryz.func12 rfl rfl rfl rfl (fun c hn hG => ?_)
  unfold bStr_vc at h
  refine En.seq ?_
  refine En.region ?_
  refine WL.run ht hn 1 ⟨[(0, .sv (.one (.rd (optPe MathBigInt.ty x))))], []⟩ (by kernel_rfl) ?_
  refine WL.nil ?_
  refine En.seq ?_
  refine En.region ?_
  refine WL.run ht hn 1 ⟨[(3, .sv (.one (.rd (optPe MathBigInt.ty x))))], []⟩ (by kernel_rfl) ?_
  have hp := h.1
  replace h := h.2
  refine WL.mt0 (K := []) (p := none) hn (by rfl) (mt_callG (bTex_ct x 10 hp) hG GL_mono en23 (caps := []) [] rfl (by rfl) (by kernel_rfl) (by kernel_rfl) (by rfl) (by rfl) (by rfl)) (by rfl) (by rfl) (by rfl) ?_
  refine WL.run ht hn 1 ⟨[(2, .sv (.one (.v (.string (bytesOf (decL (numS x)))))))], []⟩ (by kernel_rfl) ?_
  refine WL.nil ?_
  refine En.ret ?_
  exact En.back ht (bytesOf (decL (numS x))) h (by kernel_rfl) rfl
theorem en12 : ∀ args w, (callFunc 12 args).run Tryz.prog w = .ok (.enter 12 args) w := enters_of Tryz.func12 (by kernel_rfl) rfl
theorem bStr_ct (x : (Option MathBigInt)) (hp : ∃ v, x = numR v ∧ 0 < v ∧ v < 4611686018427387904)  : CtG GL 12 [.sv (.one (.rd (optPe MathBigInt.ty x)))] [] (fun (_ : Unit) => True) (fun _ => .sv (.one (.v (.string (bytesOf (decL (numS x))))))) := by
  refine (bStr_walk x (fun res_ => res_ = (bytesOf (decL (numS x)))) ?_).fun
  unfold bStr_vc
  exact ⟨⟨hp, rfl⟩, rfl⟩
end Go.Proofs.YtijgcihlodofdaaGreatDoor
