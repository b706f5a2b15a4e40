/- Lemmas towards the statement: mirrors of functions, and plain laws. No condition. -/
import Derived.Test.YtiinkohfldopbaaPackTransRow4

/- Contracts of package trans: what is said as early as can be. No condition. -/
namespace Go.Proofs.Ytiinkohfldopbaa
open Go.RowKit Go.MapKept
set_option linter.unusedSimpArgs false
set_option linter.unusedVariables false
set_option maxRecDepth 100000

def PushPre (t : ApiTrans) : Prop := TrOk t ∧ ShortT t 200
noncomputable def aheadL (t : ApiTrans) : List (List Int) := (List.range t.fNext.length).map fun q => lcpF t.fIn.toNat (outT t q)
noncomputable def pushSay (t : ApiTrans) (q a : Nat) : List Int := (syT t q a ++ (aheadL t).getD (nxT t q a) []).drop ((aheadL t).getD q []).length
noncomputable def pushLast (t : ApiTrans) (q : Nat) : List Int := (laT t q).drop ((aheadL t).getD q []).length
noncomputable def pushedR (t : ApiTrans) : ApiTrans :=
  ⟨t.fIn, t.fOut, t.fStart, t.fFirst ++ (aheadL t).getD t.fStart.toNat [], t.fNext, (List.range t.fNext.length).map (fun q => (List.range t.fIn.toNat).map (pushSay t q)), (List.range t.fNext.length).map (pushLast t)⟩
theorem getD_range {α : Type} {n i : Nat} {f : Nat → α} {z : α} (h : i < n) : ((List.range n).map f).getD i z = f i := getD_map (by rw [List.getElem?_range h])
theorem ext_getD {α : Type} {l m : List α} (z : α) (hl : l.length = m.length) (h : ∀ i, i < l.length → l.getD i z = m.getD i z) : l = m := by
  refine List.ext_getElem hl fun i h1 h2 => ?_
  have := h i h1
  rwa [getD_el h1, getD_el h2] at this
theorem Ahead.uniq {t : ApiTrans} (h : TrOk t) {A : List (List Int)} (hA : Ahead t A) : A = aheadL t := by
  unfold aheadL
  refine ext_getD [] (by rw [hA.len]; simp) fun i hi => ?_
  rw [hA.len] at hi
  rw [getD_range hi, hA.eq h hi]
/-- while it is reckoned -/
structure Low (t : ApiTrans) (A : List (List Int)) : Prop where
  len : A.length = t.fNext.length
  last : ∀ q, q < t.fNext.length → A.getD q [] <+: laT t q
  max : ∀ q, q < t.fNext.length → ∀ p, Com t.fIn.toNat (outT t q) p → p <+: A.getD q []
def SayP (t : ApiTrans) (A : List (List Int)) (q a : Nat) : Prop := A.getD q [] <+: syT t q a ++ A.getD (nxT t q a) []
theorem Low.start {t : ApiTrans} (h : TrOk t) : Low t t.fLast := ⟨h.last, fun _ _ => List.prefix_refl _, fun _ _ p hp => hp [] KW.nil⟩
theorem Low.ahead {t : ApiTrans} {A : List (List Int)} (h : Low t A) (hs : ∀ q a, q < t.fNext.length → a < t.fIn.toNat → SayP t A q a) : Ahead t A := ⟨h.len, h.last, hs, h.max⟩
theorem com_app {L : Nat} {s p : List Int} {G : OutF} (h : Com L (fun w => s ++ G w) p) : p <+: s ++ lcpF L G := by
  rcases List.prefix_or_prefix_of_prefix (h [] KW.nil) (show s <+: s ++ G [] from ⟨_, rfl⟩) with h1 | ⟨r, hr⟩
  · exact h1.trans ⟨_, rfl⟩
  · have : Com L G r := fun w hw => by
      have h2 := h w hw
      rw [← hr] at h2
      exact (List.prefix_append_right_inj s).1 h2
    rw [← hr]
    exact (List.prefix_append_right_inj s).2 (lcpF_max this)
theorem Low.set {t : ApiTrans} (h : TrOk t) {A : List (List Int)} (hA : Low t A) {q a : Nat} (hq : q < t.fNext.length) (ha : a < t.fIn.toNat) : Low t (A.set q (comL (A.getD q []) (syT t q a ++ A.getD (nxT t q a) []))) := by
  have hl := hA.len
  refine ⟨by simp [hl], fun p hp => ?_, fun p hp r hr => ?_⟩
  · by_cases e : q = p
    · subst e
      rw [getD_set_eq (by omega)]
      exact (comL_left _ _).trans (hA.last q hq)
    · rw [getD_set_ne e]
      exact hA.last p hp
  · by_cases e : q = p
    · subst e
      rw [getD_set_eq (by omega)]
      refine comL_max (hA.max q hq r hr) ?_
      have h1 : Com t.fIn.toNat (fun w => syT t q a ++ outT t (nxT t q a) w) r := fun w hw => hr (a :: w) (KW.cons ha hw)
      exact (com_app h1).trans ((List.prefix_append_right_inj _).2 (hA.max _ (h.nx hq ha).1 _ (lcpF_com _ _)))
    · rw [getD_set_ne e]
      exact hA.max p hp r hr
def sumLen (l : List (List Int)) : Nat := (l.map List.length).sum
theorem sumLen_set {l : List (List Int)} {q : Nat} {x : List Int} (h : q < l.length) : sumLen (l.set q x) + (l.getD q []).length = sumLen l + x.length := by
  unfold sumLen
  induction l generalizing q with
  | nil => simp at h
  | cons a l ih =>
    cases q with
    | zero => simp; omega
    | succ q =>
      have := ih (q := q) (by simpa using h)
      simp only [List.set_cons_succ, List.map_cons, List.sum_cons, List.getD_cons_succ]
      omega
theorem say_stay {t : ApiTrans} {A : List (List Int)} {q a : Nat} (h : ¬ (comL (A.getD q []) (syT t q a ++ A.getD (nxT t q a) [])).length < (A.getD q []).length) : SayP t A q a := by
  have h1 := comL_left (A.getD q []) (syT t q a ++ A.getD (nxT t q a) [])
  have h2 := h1.eq_of_length (by have := h1.length_le; omega)
  have h3 := comL_right (A.getD q []) (syT t q a ++ A.getD (nxT t q a) [])
  rw [h2] at h3
  exact h3
theorem pushedR_ok {t : ApiTrans} (h : TrOk t) : TrOk (pushedR t) := by
  refine ⟨h.in_, h.out, h.size, by simp [pushedR], by simp [pushedR], h.rows, fun r hr => ?_, h.start, h.next⟩
  have := h.in_
  obtain ⟨q, _, rfl⟩ := List.mem_map.1 hr
  show (((List.range t.fIn.toNat).map (pushSay t q)).length : Int) = t.fIn
  simp
  omega
theorem pushedR_says {t : ApiTrans} {q a : Nat} (hq : q < t.fNext.length) (ha : a < t.fIn.toNat) : syT (pushedR t) q a = pushSay t q a := by
  show (((List.range t.fNext.length).map (fun q => (List.range t.fIn.toNat).map (pushSay t q))).getD q []).getD a [] = _
  rw [getD_range hq, getD_range ha]
theorem pushedR_last {t : ApiTrans} {q : Nat} (hq : q < t.fNext.length) : laT (pushedR t) q = pushLast t q := getD_range hq
theorem pushedR_is {t : ApiTrans} (h : TrOk t) : Pushed t (pushedR t) (aheadL t) :=
  ⟨rfl, rfl, rfl, rfl, rfl, fun _ _ hq ha => pushedR_says hq ha, fun _ hq => pushedR_last hq, pushedR_ok h⟩
def trPushed_vc (t : ApiTrans) (Q : ApiTrans → Prop) : Prop :=
  t.fFirst.length ≤ 9223372036854775807 →
  t.fNext.length ≤ 9223372036854775807 →
  t.fSays.length ≤ 9223372036854775807 →
  t.fLast.length ≤ 9223372036854775807 →
  ((t.fLast.length * 24 ≤ 140737488355328) ∧
  ∃ (Inv : Bool → (List (List Int)) → Prop) (mu : Bool → (List (List Int)) → Nat), Inv true (t.fLast) ∧
  ∀ (x4 : Bool) (l2 : (List (List Int))) , Inv x4 l2 → (IfP x4 (∃ (Inv_2 : Bool → Int → (List (List Int)) → Prop) (mu_2 : Bool → Int → (List (List Int)) → Nat), Inv_2 false 0 l2 ∧
  ∀ (x4_2 : Bool) (x23 : Int) (l2_2 : (List (List Int))) , Inv_2 x4_2 x23 l2_2 → (IfP (decide (x23 < (t.fNext.length : Int))) (∃ e, idx t.fNext x23 = some e ∧
  ∃ (Inv_3 : Bool → Int → (List (List Int)) → Prop) (mu_3 : Bool → Int → (List (List Int)) → Nat), Inv_3 x4_2 0 l2_2 ∧
  ∀ (x4_3 : Bool) (x30 : Int) (l2_3 : (List (List Int))) , Inv_3 x4_3 x30 l2_3 → (IfP (decide (x30 < (e.length : Int))) (∃ J : Bool → (List (List Int)) → Prop, (∃ e_2, idx e x30 = some e_2 ∧
  ∃ e_3, idx l2_3 x23 = some e_3 ∧
  ∃ e_4, idx t.fSays x23 = some e_4 ∧
  ∃ e_5, idx e_4 x30 = some e_5 ∧
  ∃ e_6, idx l2_3 e_2 = some e_6 ∧
  (([e_5, e_6] : (List (List Int))).length ≤ 1000000 ∧ ([e_5, e_6] : (List (List Int))).flatten.length ≤ 1000000) ∧
  ∃ e_7, idx l2_3 x23 = some e_7 ∧
  IfP (decide (((comL e_3 (([e_5, e_6] : (List (List Int))).flatten)).length : Int) < (e_7.length : Int))) (∃ e_8, idx l2_3 x23 = some e_8 ∧
  J true (l2_3.set (x23).toNat (comL e_3 (([e_5, e_6] : (List (List Int))).flatten)))) (J x4_3 l2_3)) ∧
  (∀ (x4_4 : Bool) (l2_4 : (List (List Int))), J x4_4 l2_4 → (Inv_3 x4_4 (wr (x30 + 1)) l2_4 ∧ mu_3 x4_4 (wr (x30 + 1)) l2_4 < mu_3 x4_3 x30 l2_3))) ((Inv_2 x4_3 (wr (x23 + 1)) l2_3 ∧ mu_2 x4_3 (wr (x23 + 1)) l2_3 < mu_2 x4_2 x23 l2_2)))) ((Inv x4_2 l2_2 ∧ mu x4_2 l2_2 < mu x4 l2)))) (∃ e_9, idx l2 t.fStart = some e_9 ∧
  (([t.fFirst, e_9] : (List (List Int))).length ≤ 1000000 ∧ ([t.fFirst, e_9] : (List (List Int))).flatten.length ≤ 1000000) ∧
  ∃ (Inv_4 : Int → (List (List Int)) → (List (List Int)) → (List (List (List Int))) → Prop) (mu_4 : Int → (List (List Int)) → (List (List Int)) → (List (List (List Int))) → Nat), Inv_4 0 ([] : (List (List Int))) ([] : (List (List Int))) ([] : (List (List (List Int)))) ∧
  ∀ (x87 : Int) (l6 : (List (List Int))) (l7 : (List (List Int))) (l11 : (List (List (List Int)))) , Inv_4 x87 l6 l7 l11 → (IfP (decide (x87 < (t.fNext.length : Int))) (∃ e_10, idx t.fNext x87 = some e_10 ∧
  (e_10.length * 8 ≤ 140737488355328) ∧
  capOk l6.length (([(e_10)] : (List (List Int))) : (List (List Int))).length 24 ∧
  ∃ e_11, idx t.fLast x87 = some e_11 ∧
  ∃ e_12, idx l2 x87 = some e_12 ∧
  partOk (e_12.length : Int) (e_11.length : Int) e_11.length ∧
  (((e_11.take ((e_11.length : Int) : Int).toNat).drop ((e_12.length : Int) : Int).toNat).length * 8 ≤ 140737488355328) ∧
  capOk l7.length (([(((e_11.take ((e_11.length : Int) : Int).toNat).drop ((e_12.length : Int) : Int).toNat))] : (List (List Int))) : (List (List Int))).length 24 ∧
  ∃ (Inv_5 : Int → (List (List Int)) → Prop) (mu_5 : Int → (List (List Int)) → Nat), Inv_5 0 ([] : (List (List Int))) ∧
  ∀ (x118 : Int) (l15 : (List (List Int))) , Inv_5 x118 l15 → (IfP (decide (x118 < (e_10.length : Int))) (∃ e_13, idx e_10 x118 = some e_13 ∧
  ∃ e_14, idx t.fSays x87 = some e_14 ∧
  ∃ e_15, idx e_14 x118 = some e_15 ∧
  ∃ e_16, idx l2 e_13 = some e_16 ∧
  (([e_15, e_16] : (List (List Int))).length ≤ 1000000 ∧ ([e_15, e_16] : (List (List Int))).flatten.length ≤ 1000000) ∧
  ∃ e_17, idx l2 x87 = some e_17 ∧
  partOk (e_17.length : Int) ((([e_15, e_16] : (List (List Int))).flatten).length : Int) (([e_15, e_16] : (List (List Int))).flatten).length ∧
  capOk l15.length (([(((([e_15, e_16] : (List (List Int))).flatten).take (((([e_15, e_16] : (List (List Int))).flatten).length : Int) : Int).toNat).drop ((e_17.length : Int) : Int).toNat)] : (List (List Int))) : (List (List Int))).length 24 ∧
  (Inv_5 (wr (x118 + 1)) (l15 ++ ([(((([e_15, e_16] : (List (List Int))).flatten).take (((([e_15, e_16] : (List (List Int))).flatten).length : Int) : Int).toNat).drop ((e_17.length : Int) : Int).toNat)] : (List (List Int)))) ∧ mu_5 (wr (x118 + 1)) (l15 ++ ([(((([e_15, e_16] : (List (List Int))).flatten).take (((([e_15, e_16] : (List (List Int))).flatten).length : Int) : Int).toNat).drop ((e_17.length : Int) : Int).toNat)] : (List (List Int)))) < mu_5 x118 l15)) (capOk l11.length (([l15] : (List (List (List Int)))) : (List (List (List Int)))).length 24 ∧
  (Inv_4 (wr (x87 + 1)) (l6 ++ ([(e_10)] : (List (List Int)))) (l7 ++ ([(((e_11.take ((e_11.length : Int) : Int).toNat).drop ((e_12.length : Int) : Int).toNat))] : (List (List Int)))) (l11 ++ ([l15] : (List (List (List Int))))) ∧ mu_4 (wr (x87 + 1)) (l6 ++ ([(e_10)] : (List (List Int)))) (l7 ++ ([(((e_11.take ((e_11.length : Int) : Int).toNat).drop ((e_12.length : Int) : Int).toNat))] : (List (List Int)))) (l11 ++ ([l15] : (List (List (List Int))))) < mu_4 x87 l6 l7 l11)))) (Q (ApiTrans.mk t.fIn t.fOut t.fStart (([t.fFirst, e_9] : (List (List Int))).flatten) l6 l11 l7))))))
set_option maxHeartbeats 2000000 in
theorem trPushed_walk (t : ApiTrans) (Q : ApiTrans → Prop) (h : trPushed_vc t Q) : Ct 125 [.sv (.agg [I t.fIn, I t.fOut, I t.fStart, LS intT t.fFirst, LS (lsT intT) t.fNext, LS (lsT (lsT intT)) t.fSays, LS (lsT intT) t.fLast])] [] Q (fun (r : ApiTrans) => .sv (.agg [I r.fIn, I r.fOut, I r.fStart, LS intT r.fFirst, LS (lsT intT) r.fNext, LS (lsT (lsT intT)) r.fSays, LS (lsT intT) r.fLast])) := by
  have ht := tab_ok
  refine Ct.body Try.func125 rfl rfl rfl rfl (fun c hn => ?_)
  unfold trPushed_vc at h
  refine En.lenA 0 3 (by rfl) (by rfl) (fun hl => ?_)
  replace h := h hl
  clear hl
  refine En.lenA 0 4 (by rfl) (by rfl) (fun hl => ?_)
  replace h := h hl
  clear hl
  refine En.lenA 0 5 (by rfl) (by rfl) (fun hl => ?_)
  replace h := h hl
  clear hl
  refine En.lenA 0 6 (by rfl) (by rfl) (fun hl => ?_)
  replace h := h hl
  clear hl
  refine En.seq ?_
  refine En.region ?_
  refine WL.run ht hn 2 ⟨[(1, .sv (.one (.ptr 0 0))), (2, .sv (.one (.ptr 1 0)))], [.box [I t.fIn, I t.fOut, I t.fStart, LS intT t.fFirst, LS (lsT intT) t.fNext, LS (lsT (lsT intT)) t.fSays, LS (lsT intT) t.fLast] 33 false, .box [I 0, I 0, I 0, .v (.slice none 0 0), .v (.slice none 0 0), .v (.slice none 0 0), .v (.slice none 0 0)] 33 false]⟩ (by kernel_rfl) ?_
  refine WL.nil ?_
  refine En.seq ?_
  refine En.region ?_
  refine WL.run ht hn 2 ⟨[(1, .sv (.one (.ptr 0 0))), (2, .sv (.one (.ptr 1 0))), (17, .sv (.one (LS (lsT intT) t.fLast)))], [.box [I t.fIn, I t.fOut, I t.fStart, LS intT t.fFirst, LS (lsT intT) t.fNext, LS (lsT (lsT intT)) t.fSays, LS (lsT intT) t.fLast] 33 false, .box [I 0, I 0, I 0, .v (.slice none 0 0), .v (.slice none 0 0), .v (.slice none 0 0), .v (.slice none 0 0)] 33 false]⟩ (by kernel_rfl) ?_
  have hp := h.1
  replace h := h.2
  refine WL.mt0 (K := []) (p := some (2, rowI 23 (lsT intT) (t.fLast))) hn (by rfl) (mt_callI 2 (cloneLInt_ct t.fLast hp) en187 (caps := []) [] rfl rfl (by rfl) (by kernel_rfl) (by kernel_rfl) (by rfl) (by rfl)) (by rfl) (by rfl) (by rfl) ?_
  refine WL.run ht hn 1 ⟨[(1, .sv (.one (.ptr 0 0))), (2, .sv (.one (.ptr 1 0))), (3, .sv (.one (.own 2)))], [.box [I t.fIn, I t.fOut, I t.fStart, LS intT t.fFirst, LS (lsT intT) t.fNext, LS (lsT (lsT intT)) t.fSays, LS (lsT intT) t.fLast] 33 false, .box [I 0, I 0, I 0, .v (.slice none 0 0), .v (.slice none 0 0), .v (.slice none 0 0), .v (.slice none 0 0)] 33 false, rowI 23 (lsT intT) (t.fLast)]⟩ (by kernel_rfl) ?_
  refine WL.nil ?_
  refine En.seq ?_
  refine En.seq ?_
  refine En.region ?_
  refine WL.run ht hn 1 ⟨[(1, .sv (.one (.ptr 0 0))), (2, .sv (.one (.ptr 1 0))), (3, .sv (.one (.own 2))), (4, .sv (.one (B true)))], [.box [I t.fIn, I t.fOut, I t.fStart, LS intT t.fFirst, LS (lsT intT) t.fNext, LS (lsT (lsT intT)) t.fSays, LS (lsT intT) t.fLast] 33 false, .box [I 0, I 0, I 0, .v (.slice none 0 0), .v (.slice none 0 0), .v (.slice none 0 0), .v (.slice none 0 0)] 33 false, rowI 23 (lsT intT) (t.fLast)]⟩ (by kernel_rfl) ?_
  refine WL.nil ?_
  refine En.block ?_
  obtain ⟨Inv, mu, h0_5, hI_5⟩ := h
  refine En.loop (σ := Bool × (List (List Int))) (fun zz => Inv zz.1 zz.2) (fun zz => mu zz.1 zz.2) (fun zz => ⟨[(1, .sv (.one (.ptr 0 0))), (2, .sv (.one (.ptr 1 0))), (3, .sv (.one (.own 2))), (4, .sv (.one (B zz.1)))], [.box [I t.fIn, I t.fOut, I t.fStart, LS intT t.fFirst, LS (lsT intT) t.fNext, LS (lsT (lsT intT)) t.fSays, LS (lsT intT) t.fLast] 33 false, .box [I 0, I 0, I 0, .v (.slice none 0 0), .v (.slice none 0 0), .v (.slice none 0 0), .v (.slice none 0 0)] 33 false, rowI 23 (lsT intT) zz.2]⟩) (true, (t.fLast)) h0_5 (sub_ok (by kernel_rfl)) ?_
  rintro ⟨x4, l2⟩ h
  replace h := hI_5 _ _ h
  show En c ⟨[(1, .sv (.one (.ptr 0 0))), (2, .sv (.one (.ptr 1 0))), (3, .sv (.one (.own 2))), (4, .sv (.one (B x4)))], [.box [I t.fIn, I t.fOut, I t.fStart, LS intT t.fFirst, LS (lsT intT) t.fNext, LS (lsT (lsT intT)) t.fSays, LS (lsT intT) t.fLast] 33 false, .box [I 0, I 0, I 0, .v (.slice none 0 0), .v (.slice none 0 0), .v (.slice none 0 0), .v (.slice none 0 0)] 33 false, rowI 23 (lsT intT) l2]⟩ _
  refine En.seq ?_
  refine En.seq ?_
  refine En.region ?_
  refine WL.run ht hn 1 ⟨[(1, .sv (.one (.ptr 0 0))), (2, .sv (.one (.ptr 1 0))), (3, .sv (.one (.own 2))), (19, .sv (.one (B x4)))], [.box [I t.fIn, I t.fOut, I t.fStart, LS intT t.fFirst, LS (lsT intT) t.fNext, LS (lsT (lsT intT)) t.fSays, LS (lsT intT) t.fLast] 33 false, .box [I 0, I 0, I 0, .v (.slice none 0 0), .v (.slice none 0 0), .v (.slice none 0 0), .v (.slice none 0 0)] 33 false, rowI 23 (lsT intT) l2]⟩ (by kernel_rfl) ?_
  refine WL.nil ?_
  refine En.cond (b := x4) (by kernel_rfl) (fun hb => ?_) (fun hb => ?_)
  · replace h := h.1 hb
    refine En.skip ?_
    refine En.block ?_
    refine En.seq ?_
    refine En.region ?_
    refine WL.run ht hn 1 ⟨[(1, .sv (.one (.ptr 0 0))), (2, .sv (.one (.ptr 1 0))), (3, .sv (.one (.own 2))), (4, .sv (.one (B false)))], [.box [I t.fIn, I t.fOut, I t.fStart, LS intT t.fFirst, LS (lsT intT) t.fNext, LS (lsT (lsT intT)) t.fSays, LS (lsT intT) t.fLast] 33 false, .box [I 0, I 0, I 0, .v (.slice none 0 0), .v (.slice none 0 0), .v (.slice none 0 0), .v (.slice none 0 0)] 33 false, rowI 23 (lsT intT) l2]⟩ (by kernel_rfl) ?_
    refine WL.nil ?_
    refine En.seq ?_
    refine En.region ?_
    refine WL.run ht hn 4 ⟨[(1, .sv (.one (.ptr 0 0))), (2, .sv (.one (.ptr 1 0))), (3, .sv (.one (.own 2))), (4, .sv (.one (B false))), (21, .sv (.one (LS (lsT intT) t.fNext))), (22, .sv (.one (I (t.fNext.length : Int)))), (23, .sv (.one (I 0)))], [.box [I t.fIn, I t.fOut, I t.fStart, LS intT t.fFirst, LS (lsT intT) t.fNext, LS (lsT (lsT intT)) t.fSays, LS (lsT intT) t.fLast] 33 false, .box [I 0, I 0, I 0, .v (.slice none 0 0), .v (.slice none 0 0), .v (.slice none 0 0), .v (.slice none 0 0)] 33 false, rowI 23 (lsT intT) l2]⟩ (by kernel_rfl) ?_
    refine WL.nil ?_
    refine En.block ?_
    obtain ⟨Inv_2, mu_2, h0_2, hI_2⟩ := h
    refine En.loop (σ := Bool × Int × (List (List Int))) (fun zz => Inv_2 zz.1 zz.2.1 zz.2.2) (fun zz => mu_2 zz.1 zz.2.1 zz.2.2) (fun zz => ⟨[(1, .sv (.one (.ptr 0 0))), (2, .sv (.one (.ptr 1 0))), (3, .sv (.one (.own 2))), (4, .sv (.one (B zz.1))), (21, .sv (.one (LS (lsT intT) t.fNext))), (22, .sv (.one (I (t.fNext.length : Int)))), (23, .sv (.one (I zz.2.1)))], [.box [I t.fIn, I t.fOut, I t.fStart, LS intT t.fFirst, LS (lsT intT) t.fNext, LS (lsT (lsT intT)) t.fSays, LS (lsT intT) t.fLast] 33 false, .box [I 0, I 0, I 0, .v (.slice none 0 0), .v (.slice none 0 0), .v (.slice none 0 0), .v (.slice none 0 0)] 33 false, rowI 23 (lsT intT) zz.2.2]⟩) (false, 0, l2) h0_2 (sub_ok (by kernel_rfl)) ?_
    rintro ⟨x4_2, x23, l2_2⟩ h
    replace h := hI_2 _ _ _ h
    show En c ⟨[(1, .sv (.one (.ptr 0 0))), (2, .sv (.one (.ptr 1 0))), (3, .sv (.one (.own 2))), (4, .sv (.one (B x4_2))), (21, .sv (.one (LS (lsT intT) t.fNext))), (22, .sv (.one (I (t.fNext.length : Int)))), (23, .sv (.one (I x23)))], [.box [I t.fIn, I t.fOut, I t.fStart, LS intT t.fFirst, LS (lsT intT) t.fNext, LS (lsT (lsT intT)) t.fSays, LS (lsT intT) t.fLast] 33 false, .box [I 0, I 0, I 0, .v (.slice none 0 0), .v (.slice none 0 0), .v (.slice none 0 0), .v (.slice none 0 0)] 33 false, rowI 23 (lsT intT) l2_2]⟩ _
    refine En.seq ?_
    refine En.region ?_
    refine WL.run ht hn 1 ⟨[(1, .sv (.one (.ptr 0 0))), (2, .sv (.one (.ptr 1 0))), (3, .sv (.one (.own 2))), (4, .sv (.one (B x4_2))), (21, .sv (.one (LS (lsT intT) t.fNext))), (22, .sv (.one (I (t.fNext.length : Int)))), (23, .sv (.one (I x23))), (24, .sv (.one (B (decide (x23 < (t.fNext.length : Int))))))], [.box [I t.fIn, I t.fOut, I t.fStart, LS intT t.fFirst, LS (lsT intT) t.fNext, LS (lsT (lsT intT)) t.fSays, LS (lsT intT) t.fLast] 33 false, .box [I 0, I 0, I 0, .v (.slice none 0 0), .v (.slice none 0 0), .v (.slice none 0 0), .v (.slice none 0 0)] 33 false, rowI 23 (lsT intT) l2_2]⟩ (by kernel_rfl) ?_
    refine WL.nil ?_
    refine En.seq ?_
    refine En.cond (b := (decide (x23 < (t.fNext.length : Int)))) (by kernel_rfl) (fun hb => ?_) (fun hb => ?_)
    · replace h := h.1 hb
      refine En.skip ?_
      refine En.seq ?_
      refine En.block ?_
      refine En.seq ?_
      refine En.region ?_
      refine WL.run ht hn 1 ⟨[(1, .sv (.one (.ptr 0 0))), (2, .sv (.one (.ptr 1 0))), (3, .sv (.one (.own 2))), (4, .sv (.one (B x4_2))), (21, .sv (.one (LS (lsT intT) t.fNext))), (22, .sv (.one (I (t.fNext.length : Int)))), (23, .sv (.one (I x23))), (25, .sv (.one (I x23)))], [.box [I t.fIn, I t.fOut, I t.fStart, LS intT t.fFirst, LS (lsT intT) t.fNext, LS (lsT (lsT intT)) t.fSays, LS (lsT intT) t.fLast] 33 false, .box [I 0, I 0, I 0, .v (.slice none 0 0), .v (.slice none 0 0), .v (.slice none 0 0), .v (.slice none 0 0)] 33 false, rowI 23 (lsT intT) l2_2]⟩ (by kernel_rfl) ?_
      obtain ⟨e, he, h⟩ := h
      refine WL.val hn (by rfl) (val_index (T := (lsT intT)) (l := t.fNext) (i := x23) ht rfl (by rfl) (by rfl) (by rfl) (by rfl) (by rfl) (by rfl) he) (by rfl) ?_
      refine WL.val hn (by rfl) (val_load (s := .one (LS intT e)) ht rfl (by rfl) (by rfl) (by rfl) (by rfl) (by rfl)) (by rfl) ?_
      refine WL.run ht hn 2 ⟨[(1, .sv (.one (.ptr 0 0))), (2, .sv (.one (.ptr 1 0))), (3, .sv (.one (.own 2))), (4, .sv (.one (B x4_2))), (5, .sv (.one (I x23))), (6, .sv (.one (LS intT e))), (21, .sv (.one (LS (lsT intT) t.fNext))), (22, .sv (.one (I (t.fNext.length : Int)))), (23, .sv (.one (I x23)))], [.box [I t.fIn, I t.fOut, I t.fStart, LS intT t.fFirst, LS (lsT intT) t.fNext, LS (lsT (lsT intT)) t.fSays, LS (lsT intT) t.fLast] 33 false, .box [I 0, I 0, I 0, .v (.slice none 0 0), .v (.slice none 0 0), .v (.slice none 0 0), .v (.slice none 0 0)] 33 false, rowI 23 (lsT intT) l2_2]⟩ (by kernel_rfl) ?_
      refine WL.nil ?_
      refine En.seq ?_
      refine En.region ?_
      refine WL.run ht hn 3 ⟨[(1, .sv (.one (.ptr 0 0))), (2, .sv (.one (.ptr 1 0))), (3, .sv (.one (.own 2))), (4, .sv (.one (B x4_2))), (5, .sv (.one (I x23))), (21, .sv (.one (LS (lsT intT) t.fNext))), (22, .sv (.one (I (t.fNext.length : Int)))), (23, .sv (.one (I x23))), (28, .sv (.one (LS intT e))), (29, .sv (.one (I (e.length : Int)))), (30, .sv (.one (I 0)))], [.box [I t.fIn, I t.fOut, I t.fStart, LS intT t.fFirst, LS (lsT intT) t.fNext, LS (lsT (lsT intT)) t.fSays, LS (lsT intT) t.fLast] 33 false, .box [I 0, I 0, I 0, .v (.slice none 0 0), .v (.slice none 0 0), .v (.slice none 0 0), .v (.slice none 0 0)] 33 false, rowI 23 (lsT intT) l2_2]⟩ (by kernel_rfl) ?_
      refine WL.nil ?_
      refine En.block ?_
      obtain ⟨Inv_3, mu_3, h0, hI⟩ := h
      refine En.loop (σ := Bool × Int × (List (List Int))) (fun zz => Inv_3 zz.1 zz.2.1 zz.2.2) (fun zz => mu_3 zz.1 zz.2.1 zz.2.2) (fun zz => ⟨[(1, .sv (.one (.ptr 0 0))), (2, .sv (.one (.ptr 1 0))), (3, .sv (.one (.own 2))), (4, .sv (.one (B zz.1))), (5, .sv (.one (I x23))), (21, .sv (.one (LS (lsT intT) t.fNext))), (22, .sv (.one (I (t.fNext.length : Int)))), (23, .sv (.one (I x23))), (28, .sv (.one (LS intT e))), (29, .sv (.one (I (e.length : Int)))), (30, .sv (.one (I zz.2.1)))], [.box [I t.fIn, I t.fOut, I t.fStart, LS intT t.fFirst, LS (lsT intT) t.fNext, LS (lsT (lsT intT)) t.fSays, LS (lsT intT) t.fLast] 33 false, .box [I 0, I 0, I 0, .v (.slice none 0 0), .v (.slice none 0 0), .v (.slice none 0 0), .v (.slice none 0 0)] 33 false, rowI 23 (lsT intT) zz.2.2]⟩) (x4_2, 0, l2_2) h0 (sub_ok (by kernel_rfl)) ?_
      rintro ⟨x4_3, x30, l2_3⟩ h
      replace h := hI _ _ _ h
      show En c ⟨[(1, .sv (.one (.ptr 0 0))), (2, .sv (.one (.ptr 1 0))), (3, .sv (.one (.own 2))), (4, .sv (.one (B x4_3))), (5, .sv (.one (I x23))), (21, .sv (.one (LS (lsT intT) t.fNext))), (22, .sv (.one (I (t.fNext.length : Int)))), (23, .sv (.one (I x23))), (28, .sv (.one (LS intT e))), (29, .sv (.one (I (e.length : Int)))), (30, .sv (.one (I x30)))], [.box [I t.fIn, I t.fOut, I t.fStart, LS intT t.fFirst, LS (lsT intT) t.fNext, LS (lsT (lsT intT)) t.fSays, LS (lsT intT) t.fLast] 33 false, .box [I 0, I 0, I 0, .v (.slice none 0 0), .v (.slice none 0 0), .v (.slice none 0 0), .v (.slice none 0 0)] 33 false, rowI 23 (lsT intT) l2_3]⟩ _
      refine En.seq ?_
      refine En.region ?_
      refine WL.run ht hn 1 ⟨[(1, .sv (.one (.ptr 0 0))), (2, .sv (.one (.ptr 1 0))), (3, .sv (.one (.own 2))), (4, .sv (.one (B x4_3))), (5, .sv (.one (I x23))), (21, .sv (.one (LS (lsT intT) t.fNext))), (22, .sv (.one (I (t.fNext.length : Int)))), (23, .sv (.one (I x23))), (28, .sv (.one (LS intT e))), (29, .sv (.one (I (e.length : Int)))), (30, .sv (.one (I x30))), (31, .sv (.one (B (decide (x30 < (e.length : Int))))))], [.box [I t.fIn, I t.fOut, I t.fStart, LS intT t.fFirst, LS (lsT intT) t.fNext, LS (lsT (lsT intT)) t.fSays, LS (lsT intT) t.fLast] 33 false, .box [I 0, I 0, I 0, .v (.slice none 0 0), .v (.slice none 0 0), .v (.slice none 0 0), .v (.slice none 0 0)] 33 false, rowI 23 (lsT intT) l2_3]⟩ (by kernel_rfl) ?_
      refine WL.nil ?_
      refine En.seq ?_
      refine En.cond (b := (decide (x30 < (e.length : Int)))) (by kernel_rfl) (fun hb => ?_) (fun hb => ?_)
      · replace h := h.1 hb
        refine En.skip ?_
        obtain ⟨J, h, hJ⟩ := h
        refine En.seqJ (σ := Bool × (List (List Int))) (fun zz => J zz.1 zz.2) (fun zz => ⟨[(1, .sv (.one (.ptr 0 0))), (2, .sv (.one (.ptr 1 0))), (3, .sv (.one (.own 2))), (4, .sv (.one (B zz.1))), (5, .sv (.one (I x23))), (21, .sv (.one (LS (lsT intT) t.fNext))), (22, .sv (.one (I (t.fNext.length : Int)))), (23, .sv (.one (I x23))), (28, .sv (.one (LS intT e))), (29, .sv (.one (I (e.length : Int)))), (30, .sv (.one (I x30)))], [.box [I t.fIn, I t.fOut, I t.fStart, LS intT t.fFirst, LS (lsT intT) t.fNext, LS (lsT (lsT intT)) t.fSays, LS (lsT intT) t.fLast] 33 false, .box [I 0, I 0, I 0, .v (.slice none 0 0), .v (.slice none 0 0), .v (.slice none 0 0), .v (.slice none 0 0)] 33 false, rowI 23 (lsT intT) zz.2, .gone]⟩) ?_ ?_
        · refine En.block ?_
          refine En.seq ?_
          refine En.region ?_
          refine WL.run ht hn 1 ⟨[(1, .sv (.one (.ptr 0 0))), (2, .sv (.one (.ptr 1 0))), (3, .sv (.one (.own 2))), (4, .sv (.one (B x4_3))), (5, .sv (.one (I x23))), (21, .sv (.one (LS (lsT intT) t.fNext))), (22, .sv (.one (I (t.fNext.length : Int)))), (23, .sv (.one (I x23))), (28, .sv (.one (LS intT e))), (29, .sv (.one (I (e.length : Int)))), (30, .sv (.one (I x30))), (32, .sv (.one (I x30)))], [.box [I t.fIn, I t.fOut, I t.fStart, LS intT t.fFirst, LS (lsT intT) t.fNext, LS (lsT (lsT intT)) t.fSays, LS (lsT intT) t.fLast] 33 false, .box [I 0, I 0, I 0, .v (.slice none 0 0), .v (.slice none 0 0), .v (.slice none 0 0), .v (.slice none 0 0)] 33 false, rowI 23 (lsT intT) l2_3]⟩ (by kernel_rfl) ?_
          obtain ⟨e_2, he_2, h⟩ := h
          refine WL.val hn (by rfl) (val_index (T := intT) (l := e) (i := x30) ht rfl (by rfl) (by rfl) (by rfl) (by rfl) (by rfl) (by rfl) he_2) (by rfl) ?_
          refine WL.val hn (by rfl) (val_load (s := .one (I e_2)) ht rfl (by rfl) (by rfl) (by rfl) (by rfl) (by rfl)) (by rfl) ?_
          refine WL.run ht hn 2 ⟨[(1, .sv (.one (.ptr 0 0))), (2, .sv (.one (.ptr 1 0))), (3, .sv (.one (.own 2))), (4, .sv (.one (B x4_3))), (5, .sv (.one (I x23))), (7, .sv (.one (I x30))), (8, .sv (.one (I e_2))), (21, .sv (.one (LS (lsT intT) t.fNext))), (22, .sv (.one (I (t.fNext.length : Int)))), (23, .sv (.one (I x23))), (28, .sv (.one (LS intT e))), (29, .sv (.one (I (e.length : Int)))), (30, .sv (.one (I x30)))], [.box [I t.fIn, I t.fOut, I t.fStart, LS intT t.fFirst, LS (lsT intT) t.fNext, LS (lsT (lsT intT)) t.fSays, LS (lsT intT) t.fLast] 33 false, .box [I 0, I 0, I 0, .v (.slice none 0 0), .v (.slice none 0 0), .v (.slice none 0 0), .v (.slice none 0 0)] 33 false, rowI 23 (lsT intT) l2_3]⟩ (by kernel_rfl) ?_
          refine WL.nil ?_
          refine En.seq ?_
          obtain ⟨e_3, he_3, h⟩ := h
          obtain ⟨e_4, he_4, h⟩ := h
          obtain ⟨e_5, he_5, h⟩ := h
          obtain ⟨e_6, he_6, h⟩ := h
          have hp_2 := h.1
          replace h := h.2
          refine En.regionA ⟨[(1, .sv (.one (.ptr 0 0))), (2, .sv (.one (.ptr 1 0))), (3, .sv (.one (.own 2))), (4, .sv (.one (B x4_3))), (5, .sv (.one (I x23))), (7, .sv (.one (I x30))), (8, .sv (.one (I e_2))), (21, .sv (.one (LS (lsT intT) t.fNext))), (22, .sv (.one (I (t.fNext.length : Int)))), (23, .sv (.one (I x23))), (28, .sv (.one (LS intT e))), (29, .sv (.one (I (e.length : Int)))), (30, .sv (.one (I x30)))], [.sv (.one (.own 2)), .sv (.one (I x23)), .sv (.one (.oe 2 ((x23).toNat) 1)), .sv (.one (LS intT e_3)), .sv (.one (.ptr 0 5)), .sv (.one (LS (lsT (lsT intT)) t.fSays)), .sv (.one (I x23)), .sv (.one (.pe (svR (.one (LS (lsT intT) e_4))) 1)), .sv (.one (LS (lsT intT) e_4)), .sv (.one (I x30)), .sv (.one (.pe (svR (.one (LS intT e_5))) 1)), .sv (.one (LS intT e_5)), .sv (.one (.own 2)), .sv (.one (I e_2)), .sv (.one (.oe 2 ((e_2).toNat) 1)), .sv (.one (LS intT e_6)), .sv (.one (.own 3)), .sv (.one (LS intT (([e_5, e_6] : (List (List Int))).flatten))), .sv (.one (LS intT (comL e_3 (([e_5, e_6] : (List (List Int))).flatten)))), .sv (.one (LS intT (comL e_3 (([e_5, e_6] : (List (List Int))).flatten))))], [⟨.box [I t.fIn, I t.fOut, I t.fStart, LS intT t.fFirst, LS (lsT intT) t.fNext, LS (lsT (lsT intT)) t.fSays, LS (lsT intT) t.fLast] 33 false, none, none, none⟩, ⟨.box [I 0, I 0, I 0, .v (.slice none 0 0), .v (.slice none 0 0), .v (.slice none 0 0), .v (.slice none 0 0)] 33 false, none, none, none⟩, ⟨rowI 23 (lsT intT) l2_3, none, none, none⟩, ⟨rowI 23 (lsT intT) ([e_5, e_6] : (List (List Int))), some 16, none, none⟩]⟩ ⟨[(1, .sv (.one (.ptr 0 0))), (2, .sv (.one (.ptr 1 0))), (3, .sv (.one (.own 2))), (4, .sv (.one (B x4_3))), (5, .sv (.one (I x23))), (9, .sv (.one (LS intT (comL e_3 (([e_5, e_6] : (List (List Int))).flatten))))), (21, .sv (.one (LS (lsT intT) t.fNext))), (22, .sv (.one (I (t.fNext.length : Int)))), (23, .sv (.one (I x23))), (28, .sv (.one (LS intT e))), (29, .sv (.one (I (e.length : Int)))), (30, .sv (.one (I x30)))], [.box [I t.fIn, I t.fOut, I t.fStart, LS intT t.fFirst, LS (lsT intT) t.fNext, LS (lsT (lsT intT)) t.fSays, LS (lsT intT) t.fLast] 33 false, .box [I 0, I 0, I 0, .v (.slice none 0 0), .v (.slice none 0 0), .v (.slice none 0 0), .v (.slice none 0 0)] 33 false, rowI 23 (lsT intT) l2_3, .gone]⟩ (by kernel_rfl) hn (by kernel_rfl) (by rfl) (by kernel_rfl) ?_ (by kernel_rfl) ?_
          · exact ⟨.mt ⟨[(3, .sv (.one (.own 2)))], []⟩ [] none (by kernel_rfl) (by rfl) (mt_ev ht (by kernel_rfl)) rfl rfl rfl rfl,
    .mt ⟨[(5, .sv (.one (I x23)))], []⟩ [] none (by kernel_rfl) (by rfl) (mt_ev ht (by kernel_rfl)) rfl rfl rfl rfl,
    .mt ⟨[(35, .sv (.one (.own 2))), (36, .sv (.one (I x23)))], [.gone, .gone, rowI 23 (lsT intT) l2_3]⟩ [] none (by kernel_rfl) (by rfl) (mt_val (val_indexO (T := (lsT intT)) (l := l2_3) (k := x23) ht rfl (by rfl) (by rfl) (by rfl) (by rfl) (by decide) (by rfl) (by rfl) (by rfl) he_3)) rfl rfl rfl rfl,
    .mt ⟨[(37, .sv (.one (.oe 2 ((x23).toNat) 1)))], [.gone, .gone, rowI 23 (lsT intT) l2_3]⟩ [] none (by kernel_rfl) (by rfl) (mt_val (val_loadO (T := (lsT intT)) (l := l2_3) (y := e_3) ht rfl (by rfl) (by rfl) (by rfl) (by rfl) (by rfl) (idx_some he_3).2.2 (by rfl))) rfl rfl rfl rfl,
    .mt ⟨[(1, .sv (.one (.ptr 0 0)))], []⟩ [] none (by kernel_rfl) (by rfl) (mt_ev ht (by kernel_rfl)) rfl rfl rfl rfl,
    .mt ⟨[(39, .sv (.one (.ptr 0 5)))], [.box [I t.fIn, I t.fOut, I t.fStart, LS intT t.fFirst, LS (lsT intT) t.fNext, LS (lsT (lsT intT)) t.fSays, LS (lsT intT) t.fLast] 33 false]⟩ [] none (by kernel_rfl) (by rfl) (mt_ev ht (by kernel_rfl)) rfl rfl rfl rfl,
    .mt ⟨[(5, .sv (.one (I x23)))], []⟩ [] none (by kernel_rfl) (by rfl) (mt_ev ht (by kernel_rfl)) rfl rfl rfl rfl,
    .mt ⟨[(40, .sv (.one (LS (lsT (lsT intT)) t.fSays))), (41, .sv (.one (I x23)))], []⟩ [] none (by kernel_rfl) (by rfl) (mt_val (val_index (T := (lsT (lsT intT))) (l := t.fSays) (i := x23) ht rfl (by rfl) (by rfl) (by rfl) (by rfl) (by rfl) (by rfl) he_4)) rfl rfl rfl rfl,
    .mt ⟨[(42, .sv (.one (.pe (svR (.one (LS (lsT intT) e_4))) 1)))], []⟩ [] none (by kernel_rfl) (by rfl) (mt_val (val_load (s := .one (LS (lsT intT) e_4)) ht rfl (by rfl) (by rfl) (by rfl) (by rfl) (by rfl))) rfl rfl rfl rfl,
    .mt ⟨[(7, .sv (.one (I x30)))], []⟩ [] none (by kernel_rfl) (by rfl) (mt_ev ht (by kernel_rfl)) rfl rfl rfl rfl,
    .mt ⟨[(43, .sv (.one (LS (lsT intT) e_4))), (44, .sv (.one (I x30)))], []⟩ [] none (by kernel_rfl) (by rfl) (mt_val (val_index (T := (lsT intT)) (l := e_4) (i := x30) ht rfl (by rfl) (by rfl) (by rfl) (by rfl) (by rfl) (by rfl) he_5)) rfl rfl rfl rfl,
    .mt ⟨[(45, .sv (.one (.pe (svR (.one (LS intT e_5))) 1)))], []⟩ [] none (by kernel_rfl) (by rfl) (mt_val (val_load (s := .one (LS intT e_5)) ht rfl (by rfl) (by rfl) (by rfl) (by rfl) (by rfl))) rfl rfl rfl rfl,
    .mt ⟨[(3, .sv (.one (.own 2)))], []⟩ [] none (by kernel_rfl) (by rfl) (mt_ev ht (by kernel_rfl)) rfl rfl rfl rfl,
    .mt ⟨[(8, .sv (.one (I e_2)))], []⟩ [] none (by kernel_rfl) (by rfl) (mt_ev ht (by kernel_rfl)) rfl rfl rfl rfl,
    .mt ⟨[(47, .sv (.one (.own 2))), (48, .sv (.one (I e_2)))], [.gone, .gone, rowI 23 (lsT intT) l2_3]⟩ [] none (by kernel_rfl) (by rfl) (mt_val (val_indexO (T := (lsT intT)) (l := l2_3) (k := e_2) ht rfl (by rfl) (by rfl) (by rfl) (by rfl) (by decide) (by rfl) (by rfl) (by rfl) he_6)) rfl rfl rfl rfl,
    .mt ⟨[(49, .sv (.one (.oe 2 ((e_2).toNat) 1)))], [.gone, .gone, rowI 23 (lsT intT) l2_3]⟩ [] none (by kernel_rfl) (by rfl) (mt_val (val_loadO (T := (lsT intT)) (l := l2_3) (y := e_6) ht rfl (by rfl) (by rfl) (by rfl) (by rfl) (by rfl) (idx_some he_6).2.2 (by rfl))) rfl rfl rfl rfl,
    .mt ⟨[(46, .sv (.one (LS intT e_5))), (50, .sv (.one (LS intT e_6)))], []⟩ [] (some 3) (by kernel_rfl) (by rfl) (mt_lit (T := (lsT intT)) ([e_5, e_6] : (List (List Int))) (mt_bsl 3 (r := cellsOf (lsT intT) ([e_5, e_6] : (List (List Int)))) ht rfl (by rfl) (by rfl) (by rfl) (by kernel_rfl) (by rfl)) (fun _ h => by cases h) (fun _ => rfl) (fun _ => rfl) (by rfl) (Nat.le_of_ble_eq_true rfl)) rfl rfl rfl rfl,
    .mt ⟨[(51, .sv (.one (.own 3)))], [.gone, .gone, .gone, rowI 23 (lsT intT) ([e_5, e_6] : (List (List Int)))]⟩ [] none (by kernel_rfl) (by rfl) (mt_seal (q := 4) (e := 3) (mt_lendI (T := (lsT intT)) (l := ([e_5, e_6] : (List (List Int)))) 3 (by rfl) (plain_row fun _ => rfl) (mt_callI 4 (concatI_ct ([e_5, e_6] : (List (List Int))) hp_2) en59 (caps := []) [] rfl rfl (by rfl) (by kernel_rfl) (by kernel_rfl) (by rfl) (by rfl)))) rfl rfl rfl rfl,
    .mt ⟨[(38, .sv (.one (LS intT e_3))), (52, .sv (.one (LS intT (([e_5, e_6] : (List (List Int))).flatten))))], []⟩ [] none (by kernel_rfl) (by rfl) (mt_call (trCommon_ct e_3 (([e_5, e_6] : (List (List Int))).flatten)) en188 (caps := []) [] rfl (by rfl) (by kernel_rfl) (by kernel_rfl) (by rfl) (by rfl) (by rfl)) rfl rfl rfl rfl,
    .mt ⟨[(53, .sv (.one (LS intT (comL e_3 (([e_5, e_6] : (List (List Int))).flatten)))))], []⟩ [] none (by kernel_rfl) (by rfl) (mt_ev ht (by kernel_rfl)) rfl rfl rfl rfl,
    trivial⟩
          · refine En.seq ?_
            refine En.region ?_
            refine WL.run ht hn 4 ⟨[(1, .sv (.one (.ptr 0 0))), (2, .sv (.one (.ptr 1 0))), (3, .sv (.one (.own 2))), (4, .sv (.one (B x4_3))), (5, .sv (.one (I x23))), (9, .sv (.one (LS intT (comL e_3 (([e_5, e_6] : (List (List Int))).flatten))))), (21, .sv (.one (LS (lsT intT) t.fNext))), (22, .sv (.one (I (t.fNext.length : Int)))), (23, .sv (.one (I x23))), (28, .sv (.one (LS intT e))), (29, .sv (.one (I (e.length : Int)))), (30, .sv (.one (I x30))), (55, .sv (.one (I ((comL e_3 (([e_5, e_6] : (List (List Int))).flatten)).length : Int)))), (56, .sv (.one (.own 2))), (57, .sv (.one (I x23)))], [.box [I t.fIn, I t.fOut, I t.fStart, LS intT t.fFirst, LS (lsT intT) t.fNext, LS (lsT (lsT intT)) t.fSays, LS (lsT intT) t.fLast] 33 false, .box [I 0, I 0, I 0, .v (.slice none 0 0), .v (.slice none 0 0), .v (.slice none 0 0), .v (.slice none 0 0)] 33 false, rowI 23 (lsT intT) l2_3, .gone]⟩ (by kernel_rfl) ?_
            obtain ⟨e_7, he_7, h⟩ := h
            refine WL.val hn (by rfl) (val_indexO (T := (lsT intT)) (l := l2_3) (k := x23) ht rfl (by rfl) (by rfl) (by rfl) (by rfl) (by decide) (by rfl) (by rfl) (by rfl) he_7) (by rfl) ?_
            refine WL.val hn (by rfl) (val_loadO (T := (lsT intT)) (l := l2_3) (y := e_7) ht rfl (by rfl) (by rfl) (by rfl) (by rfl) (by rfl) (idx_some he_7).2.2 (by rfl)) (by rfl) ?_
            refine WL.run ht hn 2 ⟨[(1, .sv (.one (.ptr 0 0))), (2, .sv (.one (.ptr 1 0))), (3, .sv (.one (.own 2))), (4, .sv (.one (B x4_3))), (5, .sv (.one (I x23))), (9, .sv (.one (LS intT (comL e_3 (([e_5, e_6] : (List (List Int))).flatten))))), (21, .sv (.one (LS (lsT intT) t.fNext))), (22, .sv (.one (I (t.fNext.length : Int)))), (23, .sv (.one (I x23))), (28, .sv (.one (LS intT e))), (29, .sv (.one (I (e.length : Int)))), (30, .sv (.one (I x30))), (61, .sv (.one (B (decide (((comL e_3 (([e_5, e_6] : (List (List Int))).flatten)).length : Int) < (e_7.length : Int))))))], [.box [I t.fIn, I t.fOut, I t.fStart, LS intT t.fFirst, LS (lsT intT) t.fNext, LS (lsT (lsT intT)) t.fSays, LS (lsT intT) t.fLast] 33 false, .box [I 0, I 0, I 0, .v (.slice none 0 0), .v (.slice none 0 0), .v (.slice none 0 0), .v (.slice none 0 0)] 33 false, rowI 23 (lsT intT) l2_3, .gone]⟩ (by kernel_rfl) ?_
            refine WL.nil ?_
            refine En.cond (b := (decide (((comL e_3 (([e_5, e_6] : (List (List Int))).flatten)).length : Int) < (e_7.length : Int)))) (by kernel_rfl) (fun hb => ?_) (fun hb => ?_)
            · replace h := h.1 hb
              refine En.region ?_
              refine WL.run ht hn 3 ⟨[(1, .sv (.one (.ptr 0 0))), (2, .sv (.one (.ptr 1 0))), (3, .sv (.one (.own 2))), (5, .sv (.one (I x23))), (21, .sv (.one (LS (lsT intT) t.fNext))), (22, .sv (.one (I (t.fNext.length : Int)))), (23, .sv (.one (I x23))), (28, .sv (.one (LS intT e))), (29, .sv (.one (I (e.length : Int)))), (30, .sv (.one (I x30))), (62, .sv (.one (.own 2))), (63, .sv (.one (I x23))), (64, .sv (.one (LS intT (comL e_3 (([e_5, e_6] : (List (List Int))).flatten)))))], [.box [I t.fIn, I t.fOut, I t.fStart, LS intT t.fFirst, LS (lsT intT) t.fNext, LS (lsT (lsT intT)) t.fSays, LS (lsT intT) t.fLast] 33 false, .box [I 0, I 0, I 0, .v (.slice none 0 0), .v (.slice none 0 0), .v (.slice none 0 0), .v (.slice none 0 0)] 33 false, rowI 23 (lsT intT) l2_3, .gone]⟩ (by kernel_rfl) ?_
              obtain ⟨e_8, he_8, h⟩ := h
              refine WL.val hn (by rfl) (val_indexO (T := (lsT intT)) (l := l2_3) (k := x23) ht rfl (by rfl) (by rfl) (by rfl) (by rfl) (by decide) (by rfl) (by rfl) (by rfl) he_8) (by rfl) ?_
              refine WL.storeO (T := (lsT intT)) (l := l2_3) (y := (comL e_3 (([e_5, e_6] : (List (List Int))).flatten))) ht hn (by rfl) rfl (by rfl) (by rfl) (fun _ h => by cases h) (by rfl) (by rfl) (idx_lt he_8) (by rfl) (by rfl) (by rfl) (by rfl) ?_
              refine WL.run ht hn 1 ⟨[(1, .sv (.one (.ptr 0 0))), (2, .sv (.one (.ptr 1 0))), (3, .sv (.one (.own 2))), (4, .sv (.one (B true))), (5, .sv (.one (I x23))), (21, .sv (.one (LS (lsT intT) t.fNext))), (22, .sv (.one (I (t.fNext.length : Int)))), (23, .sv (.one (I x23))), (28, .sv (.one (LS intT e))), (29, .sv (.one (I (e.length : Int)))), (30, .sv (.one (I x30)))], [.box [I t.fIn, I t.fOut, I t.fStart, LS intT t.fFirst, LS (lsT intT) t.fNext, LS (lsT (lsT intT)) t.fSays, LS (lsT intT) t.fLast] 33 false, .box [I 0, I 0, I 0, .v (.slice none 0 0), .v (.slice none 0 0), .v (.slice none 0 0), .v (.slice none 0 0)] 33 false, rowI 23 (lsT intT) (l2_3.set (x23).toNat (comL e_3 (([e_5, e_6] : (List (List Int))).flatten))), .gone]⟩ (by kernel_rfl) ?_
              refine WL.nil ?_
              exact En.at (I := fun zz => J zz.1 zz.2) (T := fun zz => ⟨[(1, .sv (.one (.ptr 0 0))), (2, .sv (.one (.ptr 1 0))), (3, .sv (.one (.own 2))), (4, .sv (.one (B zz.1))), (5, .sv (.one (I x23))), (21, .sv (.one (LS (lsT intT) t.fNext))), (22, .sv (.one (I (t.fNext.length : Int)))), (23, .sv (.one (I x23))), (28, .sv (.one (LS intT e))), (29, .sv (.one (I (e.length : Int)))), (30, .sv (.one (I x30)))], [.box [I t.fIn, I t.fOut, I t.fStart, LS intT t.fFirst, LS (lsT intT) t.fNext, LS (lsT (lsT intT)) t.fSays, LS (lsT intT) t.fLast] 33 false, .box [I 0, I 0, I 0, .v (.slice none 0 0), .v (.slice none 0 0), .v (.slice none 0 0), .v (.slice none 0 0)] 33 false, rowI 23 (lsT intT) zz.2, .gone]⟩) (true, (l2_3.set (x23).toNat (comL e_3 (([e_5, e_6] : (List (List Int))).flatten)))) h (by kernel_rfl)
            · replace h := h.2 hb
              refine En.skip ?_
              exact En.at (I := fun zz => J zz.1 zz.2) (T := fun zz => ⟨[(1, .sv (.one (.ptr 0 0))), (2, .sv (.one (.ptr 1 0))), (3, .sv (.one (.own 2))), (4, .sv (.one (B zz.1))), (5, .sv (.one (I x23))), (21, .sv (.one (LS (lsT intT) t.fNext))), (22, .sv (.one (I (t.fNext.length : Int)))), (23, .sv (.one (I x23))), (28, .sv (.one (LS intT e))), (29, .sv (.one (I (e.length : Int)))), (30, .sv (.one (I x30)))], [.box [I t.fIn, I t.fOut, I t.fStart, LS intT t.fFirst, LS (lsT intT) t.fNext, LS (lsT (lsT intT)) t.fSays, LS (lsT intT) t.fLast] 33 false, .box [I 0, I 0, I 0, .v (.slice none 0 0), .v (.slice none 0 0), .v (.slice none 0 0), .v (.slice none 0 0)] 33 false, rowI 23 (lsT intT) zz.2, .gone]⟩) (x4_3, l2_3) h (by kernel_rfl)
        · rintro ⟨x4_4, l2_4⟩ h
          replace h := hJ _ _ h
          show En c ⟨[(1, .sv (.one (.ptr 0 0))), (2, .sv (.one (.ptr 1 0))), (3, .sv (.one (.own 2))), (4, .sv (.one (B x4_4))), (5, .sv (.one (I x23))), (21, .sv (.one (LS (lsT intT) t.fNext))), (22, .sv (.one (I (t.fNext.length : Int)))), (23, .sv (.one (I x23))), (28, .sv (.one (LS intT e))), (29, .sv (.one (I (e.length : Int)))), (30, .sv (.one (I x30)))], [.box [I t.fIn, I t.fOut, I t.fStart, LS intT t.fFirst, LS (lsT intT) t.fNext, LS (lsT (lsT intT)) t.fSays, LS (lsT intT) t.fLast] 33 false, .box [I 0, I 0, I 0, .v (.slice none 0 0), .v (.slice none 0 0), .v (.slice none 0 0), .v (.slice none 0 0)] 33 false, rowI 23 (lsT intT) l2_4, .gone]⟩ _
          refine En.region ?_
          refine WL.run ht hn 2 ⟨[(1, .sv (.one (.ptr 0 0))), (2, .sv (.one (.ptr 1 0))), (3, .sv (.one (.own 2))), (4, .sv (.one (B x4_4))), (5, .sv (.one (I x23))), (21, .sv (.one (LS (lsT intT) t.fNext))), (22, .sv (.one (I (t.fNext.length : Int)))), (23, .sv (.one (I x23))), (28, .sv (.one (LS intT e))), (29, .sv (.one (I (e.length : Int)))), (30, .sv (.one (I (wr (x30 + 1)))))], [.box [I t.fIn, I t.fOut, I t.fStart, LS intT t.fFirst, LS (lsT intT) t.fNext, LS (lsT (lsT intT)) t.fSays, LS (lsT intT) t.fLast] 33 false, .box [I 0, I 0, I 0, .v (.slice none 0 0), .v (.slice none 0 0), .v (.slice none 0 0), .v (.slice none 0 0)] 33 false, rowI 23 (lsT intT) l2_4, .gone]⟩ (by kernel_rfl) ?_
          refine WL.nil ?_
          exact En.at (I := fun zz => Inv_3 zz.1 zz.2.1 zz.2.2 ∧ mu_3 zz.1 zz.2.1 zz.2.2 < mu_3 x4_3 x30 l2_3) (T := fun zz => ⟨[(1, .sv (.one (.ptr 0 0))), (2, .sv (.one (.ptr 1 0))), (3, .sv (.one (.own 2))), (4, .sv (.one (B zz.1))), (5, .sv (.one (I x23))), (21, .sv (.one (LS (lsT intT) t.fNext))), (22, .sv (.one (I (t.fNext.length : Int)))), (23, .sv (.one (I x23))), (28, .sv (.one (LS intT e))), (29, .sv (.one (I (e.length : Int)))), (30, .sv (.one (I zz.2.1)))], [.box [I t.fIn, I t.fOut, I t.fStart, LS intT t.fFirst, LS (lsT intT) t.fNext, LS (lsT (lsT intT)) t.fSays, LS (lsT intT) t.fLast] 33 false, .box [I 0, I 0, I 0, .v (.slice none 0 0), .v (.slice none 0 0), .v (.slice none 0 0), .v (.slice none 0 0)] 33 false, rowI 23 (lsT intT) zz.2.2]⟩) (x4_4, (wr (x30 + 1)), l2_4) h (by kernel_rfl)
      · replace h := h.2 hb
        refine En.exit rfl ?_
        refine En.region ?_
        refine WL.run ht hn 2 ⟨[(1, .sv (.one (.ptr 0 0))), (2, .sv (.one (.ptr 1 0))), (3, .sv (.one (.own 2))), (4, .sv (.one (B x4_3))), (21, .sv (.one (LS (lsT intT) t.fNext))), (22, .sv (.one (I (t.fNext.length : Int)))), (23, .sv (.one (I (wr (x23 + 1)))))], [.box [I t.fIn, I t.fOut, I t.fStart, LS intT t.fFirst, LS (lsT intT) t.fNext, LS (lsT (lsT intT)) t.fSays, LS (lsT intT) t.fLast] 33 false, .box [I 0, I 0, I 0, .v (.slice none 0 0), .v (.slice none 0 0), .v (.slice none 0 0), .v (.slice none 0 0)] 33 false, rowI 23 (lsT intT) l2_3]⟩ (by kernel_rfl) ?_
        refine WL.nil ?_
        exact En.at (I := fun zz => Inv_2 zz.1 zz.2.1 zz.2.2 ∧ mu_2 zz.1 zz.2.1 zz.2.2 < mu_2 x4_2 x23 l2_2) (T := fun zz => ⟨[(1, .sv (.one (.ptr 0 0))), (2, .sv (.one (.ptr 1 0))), (3, .sv (.one (.own 2))), (4, .sv (.one (B zz.1))), (21, .sv (.one (LS (lsT intT) t.fNext))), (22, .sv (.one (I (t.fNext.length : Int)))), (23, .sv (.one (I zz.2.1)))], [.box [I t.fIn, I t.fOut, I t.fStart, LS intT t.fFirst, LS (lsT intT) t.fNext, LS (lsT (lsT intT)) t.fSays, LS (lsT intT) t.fLast] 33 false, .box [I 0, I 0, I 0, .v (.slice none 0 0), .v (.slice none 0 0), .v (.slice none 0 0), .v (.slice none 0 0)] 33 false, rowI 23 (lsT intT) zz.2.2]⟩) (x4_3, (wr (x23 + 1)), l2_3) h (by kernel_rfl)
    · replace h := h.2 hb
      refine En.exit rfl ?_
      exact En.at (I := fun zz => Inv zz.1 zz.2 ∧ mu zz.1 zz.2 < mu x4 l2) (T := fun zz => ⟨[(1, .sv (.one (.ptr 0 0))), (2, .sv (.one (.ptr 1 0))), (3, .sv (.one (.own 2))), (4, .sv (.one (B zz.1)))], [.box [I t.fIn, I t.fOut, I t.fStart, LS intT t.fFirst, LS (lsT intT) t.fNext, LS (lsT (lsT intT)) t.fSays, LS (lsT intT) t.fLast] 33 false, .box [I 0, I 0, I 0, .v (.slice none 0 0), .v (.slice none 0 0), .v (.slice none 0 0), .v (.slice none 0 0)] 33 false, rowI 23 (lsT intT) zz.2]⟩) (x4_2, l2_2) h (by kernel_rfl)
  · replace h := h.2 hb
    refine En.exit rfl ?_
    refine En.seq ?_
    obtain ⟨e_9, he_9, h⟩ := h
    have hp_4 := h.1
    replace h := h.2
    refine En.regionA ⟨[(1, .sv (.one (.ptr 0 0))), (2, .sv (.one (.ptr 1 0))), (3, .sv (.one (.own 2)))], [.sv (.one (.ptr 0 0)), .sv (.one (I t.fIn)), .sv (.one (.ptr 0 1)), .sv (.one (I t.fOut)), .sv (.one (.ptr 0 2)), .sv (.one (I t.fStart)), .sv (.one (.ptr 0 3)), .sv (.one (LS intT t.fFirst)), .sv (.one (.own 2)), .sv (.one (.ptr 0 2)), .sv (.one (I t.fStart)), .sv (.one (.oe 2 ((t.fStart).toNat) 1)), .sv (.one (LS intT e_9)), .sv (.one (.own 3)), .sv (.one (.own 4)), .sv (.agg [I t.fIn, I t.fOut, I t.fStart, .own 4, .v (.slice none 0 0), .v (.slice none 0 0), .v (.slice none 0 0)]), .sv (.one (.ptr 5 0)), .tup []], [⟨.box [I t.fIn, I t.fOut, I t.fStart, LS intT t.fFirst, LS (lsT intT) t.fNext, LS (lsT (lsT intT)) t.fSays, LS (lsT intT) t.fLast] 33 false, none, none, none⟩, ⟨.box [I 0, I 0, I 0, .v (.slice none 0 0), .v (.slice none 0 0), .v (.slice none 0 0), .v (.slice none 0 0)] 33 false, none, none, none⟩, ⟨rowI 23 (lsT intT) l2, none, none, none⟩, ⟨rowI 23 (lsT intT) ([t.fFirst, e_9] : (List (List Int))), some 13, none, none⟩, ⟨rowI 3 intT (([t.fFirst, e_9] : (List (List Int))).flatten), some 14, none, none⟩, ⟨.box [I 0, I 0, I 0, .v (.slice none 0 0), .v (.slice none 0 0), .v (.slice none 0 0), .v (.slice none 0 0)] 33 false, some 16, none, some (17, .box [I t.fIn, I t.fOut, I t.fStart, .own 4, .v (.slice none 0 0), .v (.slice none 0 0), .v (.slice none 0 0)] 33 false)⟩]⟩ ⟨[(1, .sv (.one (.ptr 0 0))), (2, .sv (.one (.ptr 1 0))), (3, .sv (.one (.own 2))), (10, .sv (.one (.ptr 5 0)))], [.box [I t.fIn, I t.fOut, I t.fStart, LS intT t.fFirst, LS (lsT intT) t.fNext, LS (lsT (lsT intT)) t.fSays, LS (lsT intT) t.fLast] 33 false, .box [I 0, I 0, I 0, .v (.slice none 0 0), .v (.slice none 0 0), .v (.slice none 0 0), .v (.slice none 0 0)] 33 false, rowI 23 (lsT intT) l2, .gone, rowI 3 intT (([t.fFirst, e_9] : (List (List Int))).flatten), .box [I t.fIn, I t.fOut, I t.fStart, .own 4, .v (.slice none 0 0), .v (.slice none 0 0), .v (.slice none 0 0)] 33 false]⟩ (by kernel_rfl) hn (by kernel_rfl) (by rfl) (by kernel_rfl) ?_ (by kernel_rfl) ?_
    · exact ⟨.mt ⟨[(1, .sv (.one (.ptr 0 0)))], []⟩ [] none (by kernel_rfl) (by rfl) (mt_ev ht (by kernel_rfl)) rfl rfl rfl rfl,
    .mt ⟨[(68, .sv (.one (.ptr 0 0)))], [.box [I t.fIn, I t.fOut, I t.fStart, LS intT t.fFirst, LS (lsT intT) t.fNext, LS (lsT (lsT intT)) t.fSays, LS (lsT intT) t.fLast] 33 false]⟩ [] none (by kernel_rfl) (by rfl) (mt_ev ht (by kernel_rfl)) rfl rfl rfl rfl,
    .mt ⟨[(1, .sv (.one (.ptr 0 0)))], []⟩ [] none (by kernel_rfl) (by rfl) (mt_ev ht (by kernel_rfl)) rfl rfl rfl rfl,
    .mt ⟨[(70, .sv (.one (.ptr 0 1)))], [.box [I t.fIn, I t.fOut, I t.fStart, LS intT t.fFirst, LS (lsT intT) t.fNext, LS (lsT (lsT intT)) t.fSays, LS (lsT intT) t.fLast] 33 false]⟩ [] none (by kernel_rfl) (by rfl) (mt_ev ht (by kernel_rfl)) rfl rfl rfl rfl,
    .mt ⟨[(1, .sv (.one (.ptr 0 0)))], []⟩ [] none (by kernel_rfl) (by rfl) (mt_ev ht (by kernel_rfl)) rfl rfl rfl rfl,
    .mt ⟨[(72, .sv (.one (.ptr 0 2)))], [.box [I t.fIn, I t.fOut, I t.fStart, LS intT t.fFirst, LS (lsT intT) t.fNext, LS (lsT (lsT intT)) t.fSays, LS (lsT intT) t.fLast] 33 false]⟩ [] none (by kernel_rfl) (by rfl) (mt_ev ht (by kernel_rfl)) rfl rfl rfl rfl,
    .mt ⟨[(1, .sv (.one (.ptr 0 0)))], []⟩ [] none (by kernel_rfl) (by rfl) (mt_ev ht (by kernel_rfl)) rfl rfl rfl rfl,
    .mt ⟨[(74, .sv (.one (.ptr 0 3)))], [.box [I t.fIn, I t.fOut, I t.fStart, LS intT t.fFirst, LS (lsT intT) t.fNext, LS (lsT (lsT intT)) t.fSays, LS (lsT intT) t.fLast] 33 false]⟩ [] none (by kernel_rfl) (by rfl) (mt_ev ht (by kernel_rfl)) rfl rfl rfl rfl,
    .mt ⟨[(3, .sv (.one (.own 2)))], []⟩ [] none (by kernel_rfl) (by rfl) (mt_ev ht (by kernel_rfl)) rfl rfl rfl rfl,
    .mt ⟨[(1, .sv (.one (.ptr 0 0)))], []⟩ [] none (by kernel_rfl) (by rfl) (mt_ev ht (by kernel_rfl)) rfl rfl rfl rfl,
    .mt ⟨[(77, .sv (.one (.ptr 0 2)))], [.box [I t.fIn, I t.fOut, I t.fStart, LS intT t.fFirst, LS (lsT intT) t.fNext, LS (lsT (lsT intT)) t.fSays, LS (lsT intT) t.fLast] 33 false]⟩ [] none (by kernel_rfl) (by rfl) (mt_ev ht (by kernel_rfl)) rfl rfl rfl rfl,
    .mt ⟨[(76, .sv (.one (.own 2))), (78, .sv (.one (I t.fStart)))], [.gone, .gone, rowI 23 (lsT intT) l2]⟩ [] none (by kernel_rfl) (by rfl) (mt_val (val_indexO (T := (lsT intT)) (l := l2) (k := t.fStart) ht rfl (by rfl) (by rfl) (by rfl) (by rfl) (by decide) (by rfl) (by rfl) (by rfl) he_9)) rfl rfl rfl rfl,
    .mt ⟨[(79, .sv (.one (.oe 2 ((t.fStart).toNat) 1)))], [.gone, .gone, rowI 23 (lsT intT) l2]⟩ [] none (by kernel_rfl) (by rfl) (mt_val (val_loadO (T := (lsT intT)) (l := l2) (y := e_9) ht rfl (by rfl) (by rfl) (by rfl) (by rfl) (by rfl) (idx_some he_9).2.2 (by rfl))) rfl rfl rfl rfl,
    .mt ⟨[(75, .sv (.one (LS intT t.fFirst))), (80, .sv (.one (LS intT e_9)))], []⟩ [] (some 3) (by kernel_rfl) (by rfl) (mt_lit (T := (lsT intT)) ([t.fFirst, e_9] : (List (List Int))) (mt_bsl 3 (r := cellsOf (lsT intT) ([t.fFirst, e_9] : (List (List Int)))) ht rfl (by rfl) (by rfl) (by rfl) (by kernel_rfl) (by rfl)) (fun _ h => by cases h) (fun _ => rfl) (fun _ => rfl) (by rfl) (Nat.le_of_ble_eq_true rfl)) rfl rfl rfl rfl,
    .mt ⟨[(81, .sv (.one (.own 3)))], [.gone, .gone, .gone, rowI 23 (lsT intT) ([t.fFirst, e_9] : (List (List Int)))]⟩ [] (some 4) (by kernel_rfl) (by rfl) (mt_lendI (T := (lsT intT)) (l := ([t.fFirst, e_9] : (List (List Int)))) 3 (by rfl) (plain_row fun _ => rfl) (mt_callI 4 (concatI_ct ([t.fFirst, e_9] : (List (List Int))) hp_4) en59 (caps := []) [] rfl rfl (by rfl) (by kernel_rfl) (by kernel_rfl) (by rfl) (by rfl))) rfl rfl rfl rfl,
    .mt ⟨[(69, .sv (.one (I t.fIn))), (71, .sv (.one (I t.fOut))), (73, .sv (.one (I t.fStart))), (82, .sv (.one (.own 4)))], []⟩ [] none (by kernel_rfl) (by rfl) (mt_ev ht (by kernel_rfl)) rfl rfl rfl rfl,
    .mt ⟨[], []⟩ [] (some 5) (by kernel_rfl) (by rfl) (mt_alloc2 5 33 ht rfl (by rfl) (by rfl)) rfl rfl rfl rfl,
    .mu ⟨[(10, .sv (.one (.ptr 5 0))), (83, .sv (.agg [I t.fIn, I t.fOut, I t.fStart, .own 4, .v (.slice none 0 0), .v (.slice none 0 0), .v (.slice none 0 0)]))], [.gone, .gone, .gone, .gone, .gone, .box [I 0, I 0, I 0, .v (.slice none 0 0), .v (.slice none 0 0), .v (.slice none 0 0), .v (.slice none 0 0)] 33 false]⟩ 5 _ _ rfl rfl (by kernel_rfl) (by rfl) (mu_store2 ht rfl (by rfl) (by rfl) (by rfl) (by rfl) (fun h => by cases h) (by rfl) (by rfl)) rfl rfl rfl rfl rfl rfl rfl,
    trivial⟩
    · refine En.seq ?_
      refine En.seq ?_
      refine En.region ?_
      refine WL.run ht hn 4 ⟨[(1, .sv (.one (.ptr 0 0))), (2, .sv (.one (.ptr 1 0))), (3, .sv (.one (.own 2))), (10, .sv (.one (.ptr 5 0))), (85, .sv (.one (LS (lsT intT) t.fNext))), (86, .sv (.one (I (t.fNext.length : Int)))), (87, .sv (.one (I 0)))], [.box [I t.fIn, I t.fOut, I t.fStart, LS intT t.fFirst, LS (lsT intT) t.fNext, LS (lsT (lsT intT)) t.fSays, LS (lsT intT) t.fLast] 33 false, .box [I 0, I 0, I 0, .v (.slice none 0 0), .v (.slice none 0 0), .v (.slice none 0 0), .v (.slice none 0 0)] 33 false, rowI 23 (lsT intT) l2, .gone, rowI 3 intT (([t.fFirst, e_9] : (List (List Int))).flatten), .box [I t.fIn, I t.fOut, I t.fStart, .own 4, .v (.slice none 0 0), .v (.slice none 0 0), .v (.slice none 0 0)] 33 false]⟩ (by kernel_rfl) ?_
      refine WL.nil ?_
      refine En.block ?_
      refine En.nilBoxO (T := (lsT intT)) 5 4 6 23 (by rfl) (by rfl) (by rfl) (by rfl) ?_
      refine En.nilBoxO (T := (lsT (lsT intT))) 5 5 11 22 (by rfl) (by rfl) (by rfl) (by rfl) ?_
      refine En.nilBoxO (T := (lsT intT)) 5 6 7 23 (by rfl) (by rfl) (by rfl) (by rfl) ?_
      obtain ⟨Inv_4, mu_4, h0_4, hI_4⟩ := h
      refine En.loop (σ := Int × (List (List Int)) × (List (List Int)) × (List (List (List Int)))) (fun zz => Inv_4 zz.1 zz.2.1 zz.2.2.1 zz.2.2.2) (fun zz => mu_4 zz.1 zz.2.1 zz.2.2.1 zz.2.2.2) (fun zz => ⟨[(1, .sv (.one (.ptr 0 0))), (2, .sv (.one (.ptr 1 0))), (3, .sv (.one (.own 2))), (10, .sv (.one (.ptr 5 0))), (85, .sv (.one (LS (lsT intT) t.fNext))), (86, .sv (.one (I (t.fNext.length : Int)))), (87, .sv (.one (I zz.1)))], [.box [I t.fIn, I t.fOut, I t.fStart, LS intT t.fFirst, LS (lsT intT) t.fNext, LS (lsT (lsT intT)) t.fSays, LS (lsT intT) t.fLast] 33 false, .box [I 0, I 0, I 0, .v (.slice none 0 0), .v (.slice none 0 0), .v (.slice none 0 0), .v (.slice none 0 0)] 33 false, rowI 23 (lsT intT) l2, .gone, rowI 3 intT (([t.fFirst, e_9] : (List (List Int))).flatten), .box [I t.fIn, I t.fOut, I t.fStart, .own 4, .own 6, .own 11, .own 7] 33 false, rowI 23 (lsT intT) zz.2.1, rowI 23 (lsT intT) zz.2.2.1, .gone, .gone, .gone, rowI 22 (lsT (lsT intT)) zz.2.2.2]⟩) (0, ([] : (List (List Int))), ([] : (List (List Int))), ([] : (List (List (List Int))))) h0_4 (sub_ok (by kernel_rfl)) ?_
      rintro ⟨x87, l6, l7, l11⟩ h
      replace h := hI_4 _ _ _ _ h
      show En c ⟨[(1, .sv (.one (.ptr 0 0))), (2, .sv (.one (.ptr 1 0))), (3, .sv (.one (.own 2))), (10, .sv (.one (.ptr 5 0))), (85, .sv (.one (LS (lsT intT) t.fNext))), (86, .sv (.one (I (t.fNext.length : Int)))), (87, .sv (.one (I x87)))], [.box [I t.fIn, I t.fOut, I t.fStart, LS intT t.fFirst, LS (lsT intT) t.fNext, LS (lsT (lsT intT)) t.fSays, LS (lsT intT) t.fLast] 33 false, .box [I 0, I 0, I 0, .v (.slice none 0 0), .v (.slice none 0 0), .v (.slice none 0 0), .v (.slice none 0 0)] 33 false, rowI 23 (lsT intT) l2, .gone, rowI 3 intT (([t.fFirst, e_9] : (List (List Int))).flatten), .box [I t.fIn, I t.fOut, I t.fStart, .own 4, .own 6, .own 11, .own 7] 33 false, rowI 23 (lsT intT) l6, rowI 23 (lsT intT) l7, .gone, .gone, .gone, rowI 22 (lsT (lsT intT)) l11]⟩ _
      refine En.seq ?_
      refine En.region ?_
      refine WL.run ht hn 1 ⟨[(1, .sv (.one (.ptr 0 0))), (2, .sv (.one (.ptr 1 0))), (3, .sv (.one (.own 2))), (10, .sv (.one (.ptr 5 0))), (85, .sv (.one (LS (lsT intT) t.fNext))), (86, .sv (.one (I (t.fNext.length : Int)))), (87, .sv (.one (I x87))), (88, .sv (.one (B (decide (x87 < (t.fNext.length : Int))))))], [.box [I t.fIn, I t.fOut, I t.fStart, LS intT t.fFirst, LS (lsT intT) t.fNext, LS (lsT (lsT intT)) t.fSays, LS (lsT intT) t.fLast] 33 false, .box [I 0, I 0, I 0, .v (.slice none 0 0), .v (.slice none 0 0), .v (.slice none 0 0), .v (.slice none 0 0)] 33 false, rowI 23 (lsT intT) l2, .gone, rowI 3 intT (([t.fFirst, e_9] : (List (List Int))).flatten), .box [I t.fIn, I t.fOut, I t.fStart, .own 4, .own 6, .own 11, .own 7] 33 false, rowI 23 (lsT intT) l6, rowI 23 (lsT intT) l7, .gone, .gone, .gone, rowI 22 (lsT (lsT intT)) l11]⟩ (by kernel_rfl) ?_
      refine WL.nil ?_
      refine En.seq ?_
      refine En.cond (b := (decide (x87 < (t.fNext.length : Int)))) (by kernel_rfl) (fun hb => ?_) (fun hb => ?_)
      · replace h := h.1 hb
        refine En.skip ?_
        refine En.seq ?_
        refine En.block ?_
        refine En.seq ?_
        refine En.region ?_
        refine WL.run ht hn 1 ⟨[(1, .sv (.one (.ptr 0 0))), (2, .sv (.one (.ptr 1 0))), (3, .sv (.one (.own 2))), (10, .sv (.one (.ptr 5 0))), (85, .sv (.one (LS (lsT intT) t.fNext))), (86, .sv (.one (I (t.fNext.length : Int)))), (87, .sv (.one (I x87))), (89, .sv (.one (I x87)))], [.box [I t.fIn, I t.fOut, I t.fStart, LS intT t.fFirst, LS (lsT intT) t.fNext, LS (lsT (lsT intT)) t.fSays, LS (lsT intT) t.fLast] 33 false, .box [I 0, I 0, I 0, .v (.slice none 0 0), .v (.slice none 0 0), .v (.slice none 0 0), .v (.slice none 0 0)] 33 false, rowI 23 (lsT intT) l2, .gone, rowI 3 intT (([t.fFirst, e_9] : (List (List Int))).flatten), .box [I t.fIn, I t.fOut, I t.fStart, .own 4, .own 6, .own 11, .own 7] 33 false, rowI 23 (lsT intT) l6, rowI 23 (lsT intT) l7, .gone, .gone, .gone, rowI 22 (lsT (lsT intT)) l11]⟩ (by kernel_rfl) ?_
        obtain ⟨e_10, he_10, h⟩ := h
        refine WL.val hn (by rfl) (val_index (T := (lsT intT)) (l := t.fNext) (i := x87) ht rfl (by rfl) (by rfl) (by rfl) (by rfl) (by rfl) (by rfl) he_10) (by rfl) ?_
        refine WL.val hn (by rfl) (val_load (s := .one (LS intT e_10)) ht rfl (by rfl) (by rfl) (by rfl) (by rfl) (by rfl)) (by rfl) ?_
        refine WL.run ht hn 2 ⟨[(1, .sv (.one (.ptr 0 0))), (2, .sv (.one (.ptr 1 0))), (3, .sv (.one (.own 2))), (10, .sv (.one (.ptr 5 0))), (11, .sv (.one (I x87))), (12, .sv (.one (LS intT e_10))), (85, .sv (.one (LS (lsT intT) t.fNext))), (86, .sv (.one (I (t.fNext.length : Int)))), (87, .sv (.one (I x87)))], [.box [I t.fIn, I t.fOut, I t.fStart, LS intT t.fFirst, LS (lsT intT) t.fNext, LS (lsT (lsT intT)) t.fSays, LS (lsT intT) t.fLast] 33 false, .box [I 0, I 0, I 0, .v (.slice none 0 0), .v (.slice none 0 0), .v (.slice none 0 0), .v (.slice none 0 0)] 33 false, rowI 23 (lsT intT) l2, .gone, rowI 3 intT (([t.fFirst, e_9] : (List (List Int))).flatten), .box [I t.fIn, I t.fOut, I t.fStart, .own 4, .own 6, .own 11, .own 7] 33 false, rowI 23 (lsT intT) l6, rowI 23 (lsT intT) l7, .gone, .gone, .gone, rowI 22 (lsT (lsT intT)) l11]⟩ (by kernel_rfl) ?_
        refine WL.nil ?_
        refine En.seq ?_
        have hp_5 := h.1
        replace h := h.2
        have hp_6 := h.1
        replace h := h.2
        refine En.regionA ⟨[(1, .sv (.one (.ptr 0 0))), (2, .sv (.one (.ptr 1 0))), (3, .sv (.one (.own 2))), (10, .sv (.one (.ptr 5 0))), (11, .sv (.one (I x87))), (12, .sv (.one (LS intT e_10))), (85, .sv (.one (LS (lsT intT) t.fNext))), (86, .sv (.one (I (t.fNext.length : Int)))), (87, .sv (.one (I x87)))], [.sv (.one (.ptr 5 4)), .sv (.one (.own 6)), .sv (.one (LS intT e_10)), .sv (.one (LS intT (e_10))), .sv (.one (LS (lsT intT) ([(e_10)] : (List (List Int))))), .sv (.one (.own 12)), .sv (.one (.ptr 5 4)), .tup []], [⟨.box [I t.fIn, I t.fOut, I t.fStart, LS intT t.fFirst, LS (lsT intT) t.fNext, LS (lsT (lsT intT)) t.fSays, LS (lsT intT) t.fLast] 33 false, none, none, none⟩, ⟨.box [I 0, I 0, I 0, .v (.slice none 0 0), .v (.slice none 0 0), .v (.slice none 0 0), .v (.slice none 0 0)] 33 false, none, none, none⟩, ⟨rowI 23 (lsT intT) l2, none, none, none⟩, ⟨.gone, none, none, none⟩, ⟨rowI 3 intT (([t.fFirst, e_9] : (List (List Int))).flatten), none, none, none⟩, ⟨.box [I t.fIn, I t.fOut, I t.fStart, .own 4, .own 6, .own 11, .own 7] 33 false, none, none, some (7, .box [I t.fIn, I t.fOut, I t.fStart, .own 4, .own 12, .own 11, .own 7] 33 false)⟩, ⟨rowI 23 (lsT intT) l6, none, some 5, none⟩, ⟨rowI 23 (lsT intT) l7, none, none, none⟩, ⟨.gone, none, none, none⟩, ⟨.gone, none, none, none⟩, ⟨.gone, none, none, none⟩, ⟨rowI 22 (lsT (lsT intT)) l11, none, none, none⟩, ⟨rowI 23 (lsT intT) (l6 ++ ([(e_10)] : (List (List Int)))), some 5, none, none⟩]⟩ ⟨[(1, .sv (.one (.ptr 0 0))), (2, .sv (.one (.ptr 1 0))), (3, .sv (.one (.own 2))), (10, .sv (.one (.ptr 5 0))), (11, .sv (.one (I x87))), (12, .sv (.one (LS intT e_10))), (85, .sv (.one (LS (lsT intT) t.fNext))), (86, .sv (.one (I (t.fNext.length : Int)))), (87, .sv (.one (I x87)))], [.box [I t.fIn, I t.fOut, I t.fStart, LS intT t.fFirst, LS (lsT intT) t.fNext, LS (lsT (lsT intT)) t.fSays, LS (lsT intT) t.fLast] 33 false, .box [I 0, I 0, I 0, .v (.slice none 0 0), .v (.slice none 0 0), .v (.slice none 0 0), .v (.slice none 0 0)] 33 false, rowI 23 (lsT intT) l2, .gone, rowI 3 intT (([t.fFirst, e_9] : (List (List Int))).flatten), .box [I t.fIn, I t.fOut, I t.fStart, .own 4, .own 12, .own 11, .own 7] 33 false, .gone, rowI 23 (lsT intT) l7, .gone, .gone, .gone, rowI 22 (lsT (lsT intT)) l11, rowI 23 (lsT intT) (l6 ++ ([(e_10)] : (List (List Int))))]⟩ (by kernel_rfl) hn (by kernel_rfl) (by rfl) (by kernel_rfl) ?_ (by kernel_rfl) ?_
        · exact ⟨.mt ⟨[(10, .sv (.one (.ptr 5 0)))], []⟩ [] none (by kernel_rfl) (by rfl) (mt_ev ht (by kernel_rfl)) rfl rfl rfl rfl,
    .mt ⟨[(92, .sv (.one (.ptr 5 4)))], [.gone, .gone, .gone, .gone, .gone, .box [I t.fIn, I t.fOut, I t.fStart, .own 4, .own 6, .own 11, .own 7] 33 false]⟩ [] none (by kernel_rfl) (by rfl) (mt_ev ht (by kernel_rfl)) rfl rfl rfl rfl,
    .mt ⟨[(12, .sv (.one (LS intT e_10)))], []⟩ [] none (by kernel_rfl) (by rfl) (mt_ev ht (by kernel_rfl)) rfl rfl rfl rfl,
    .mt ⟨[(94, .sv (.one (LS intT e_10)))], []⟩ [] none (by kernel_rfl) (by rfl) (mt_seal (q := 12) (e := 3) (mt_callI 12 (cloneInt_ct e_10 hp_5) en62 (caps := []) [] rfl rfl (by rfl) (by kernel_rfl) (by kernel_rfl) (by rfl) (by rfl))) rfl rfl rfl rfl,
    .mt ⟨[(95, .sv (.one (LS intT (e_10))))], []⟩ [] none (by kernel_rfl) (by rfl) (mt_seal (q := 12) (e := 23) (mt_lit (T := (lsT intT)) ([(e_10)] : (List (List Int))) (mt_bsl 12 (r := cellsOf (lsT intT) ([(e_10)] : (List (List Int)))) ht rfl (by rfl) (by rfl) (by rfl) (by kernel_rfl) (by rfl)) (fun _ h => by cases h) (fun _ => rfl) (fun _ => rfl) (by rfl) (Nat.le_of_ble_eq_true rfl))) rfl rfl rfl rfl,
    .mt ⟨[(93, .sv (.one (.own 6))), (96, .sv (.one (LS (lsT intT) ([(e_10)] : (List (List Int))))))], [.gone, .gone, .gone, .gone, .gone, .gone, rowI 23 (lsT intT) l6]⟩ [6] (some 12) (by kernel_rfl) (by rfl) (mt_append (T := (lsT intT)) (l := l6) (es := ([(e_10)] : (List (List Int)))) (p := 12) ht rfl (by rfl) (by rfl) (by rfl) (by rfl) (by decide) (by rfl) (by rfl) (srcLS (T := (lsT intT)) (es := ([(e_10)] : (List (List Int)))) (fun _ h => by cases h) (by decide) (by rfl)) (by exact hp_6) (by exact hp_6.le (by decide))) rfl rfl rfl rfl,
    .mt ⟨[(10, .sv (.one (.ptr 5 0)))], []⟩ [] none (by kernel_rfl) (by rfl) (mt_ev ht (by kernel_rfl)) rfl rfl rfl rfl,
    .mu ⟨[(97, .sv (.one (.own 12))), (98, .sv (.one (.ptr 5 4)))], [.gone, .gone, .gone, .gone, .gone, .box [I t.fIn, I t.fOut, I t.fStart, .own 4, .own 6, .own 11, .own 7] 33 false]⟩ 5 _ _ rfl rfl (by kernel_rfl) (by rfl) (mu_store2 ht rfl (by rfl) (by rfl) (by rfl) (by rfl) (fun h => by cases h) (by rfl) (by rfl)) rfl rfl rfl rfl rfl rfl rfl,
    trivial⟩
        · refine En.seq ?_
          obtain ⟨e_11, he_11, h⟩ := h
          obtain ⟨e_12, he_12, h⟩ := h
          have hp_7 := h.1
          replace h := h.2
          have hp_8 := h.1
          replace h := h.2
          have hp_9 := h.1
          replace h := h.2
          refine En.regionA ⟨[(1, .sv (.one (.ptr 0 0))), (2, .sv (.one (.ptr 1 0))), (3, .sv (.one (.own 2))), (10, .sv (.one (.ptr 5 0))), (11, .sv (.one (I x87))), (12, .sv (.one (LS intT e_10))), (85, .sv (.one (LS (lsT intT) t.fNext))), (86, .sv (.one (I (t.fNext.length : Int)))), (87, .sv (.one (I x87)))], [.sv (.one (.ptr 5 6)), .sv (.one (.own 7)), .sv (.one (.ptr 0 6)), .sv (.one (LS (lsT intT) t.fLast)), .sv (.one (I x87)), .sv (.one (.pe (svR (.one (LS intT e_11))) 1)), .sv (.one (LS intT e_11)), .sv (.one (.own 2)), .sv (.one (I x87)), .sv (.one (.oe 2 ((x87).toNat) 1)), .sv (.one (LS intT e_12)), .sv (.one (I (e_12.length : Int))), .sv (.one (LS intT ((e_11.take ((e_11.length : Int) : Int).toNat).drop ((e_12.length : Int) : Int).toNat))), .sv (.one (LS intT (((e_11.take ((e_11.length : Int) : Int).toNat).drop ((e_12.length : Int) : Int).toNat)))), .sv (.one (LS (lsT intT) ([(((e_11.take ((e_11.length : Int) : Int).toNat).drop ((e_12.length : Int) : Int).toNat))] : (List (List Int))))), .sv (.one (.own 13)), .sv (.one (.ptr 5 6)), .tup []], [⟨.box [I t.fIn, I t.fOut, I t.fStart, LS intT t.fFirst, LS (lsT intT) t.fNext, LS (lsT (lsT intT)) t.fSays, LS (lsT intT) t.fLast] 33 false, none, none, none⟩, ⟨.box [I 0, I 0, I 0, .v (.slice none 0 0), .v (.slice none 0 0), .v (.slice none 0 0), .v (.slice none 0 0)] 33 false, none, none, none⟩, ⟨rowI 23 (lsT intT) l2, none, none, none⟩, ⟨.gone, none, none, none⟩, ⟨rowI 3 intT (([t.fFirst, e_9] : (List (List Int))).flatten), none, none, none⟩, ⟨.box [I t.fIn, I t.fOut, I t.fStart, .own 4, .own 12, .own 11, .own 7] 33 false, none, none, some (17, .box [I t.fIn, I t.fOut, I t.fStart, .own 4, .own 12, .own 11, .own 13] 33 false)⟩, ⟨.gone, none, none, none⟩, ⟨rowI 23 (lsT intT) l7, none, some 15, none⟩, ⟨.gone, none, none, none⟩, ⟨.gone, none, none, none⟩, ⟨.gone, none, none, none⟩, ⟨rowI 22 (lsT (lsT intT)) l11, none, none, none⟩, ⟨rowI 23 (lsT intT) (l6 ++ ([(e_10)] : (List (List Int)))), none, none, none⟩, ⟨rowI 23 (lsT intT) (l7 ++ ([(((e_11.take ((e_11.length : Int) : Int).toNat).drop ((e_12.length : Int) : Int).toNat))] : (List (List Int)))), some 15, none, none⟩]⟩ ⟨[(1, .sv (.one (.ptr 0 0))), (2, .sv (.one (.ptr 1 0))), (3, .sv (.one (.own 2))), (10, .sv (.one (.ptr 5 0))), (11, .sv (.one (I x87))), (12, .sv (.one (LS intT e_10))), (85, .sv (.one (LS (lsT intT) t.fNext))), (86, .sv (.one (I (t.fNext.length : Int)))), (87, .sv (.one (I x87)))], [.box [I t.fIn, I t.fOut, I t.fStart, LS intT t.fFirst, LS (lsT intT) t.fNext, LS (lsT (lsT intT)) t.fSays, LS (lsT intT) t.fLast] 33 false, .box [I 0, I 0, I 0, .v (.slice none 0 0), .v (.slice none 0 0), .v (.slice none 0 0), .v (.slice none 0 0)] 33 false, rowI 23 (lsT intT) l2, .gone, rowI 3 intT (([t.fFirst, e_9] : (List (List Int))).flatten), .box [I t.fIn, I t.fOut, I t.fStart, .own 4, .own 12, .own 11, .own 13] 33 false, .gone, .gone, .gone, .gone, .gone, rowI 22 (lsT (lsT intT)) l11, rowI 23 (lsT intT) (l6 ++ ([(e_10)] : (List (List Int)))), rowI 23 (lsT intT) (l7 ++ ([(((e_11.take ((e_11.length : Int) : Int).toNat).drop ((e_12.length : Int) : Int).toNat))] : (List (List Int))))]⟩ (by kernel_rfl) hn (by kernel_rfl) (by rfl) (by kernel_rfl) ?_ (by kernel_rfl) ?_
          · exact ⟨.mt ⟨[(10, .sv (.one (.ptr 5 0)))], []⟩ [] none (by kernel_rfl) (by rfl) (mt_ev ht (by kernel_rfl)) rfl rfl rfl rfl,
    .mt ⟨[(99, .sv (.one (.ptr 5 6)))], [.gone, .gone, .gone, .gone, .gone, .box [I t.fIn, I t.fOut, I t.fStart, .own 4, .own 12, .own 11, .own 7] 33 false]⟩ [] none (by kernel_rfl) (by rfl) (mt_ev ht (by kernel_rfl)) rfl rfl rfl rfl,
    .mt ⟨[(1, .sv (.one (.ptr 0 0)))], []⟩ [] none (by kernel_rfl) (by rfl) (mt_ev ht (by kernel_rfl)) rfl rfl rfl rfl,
    .mt ⟨[(101, .sv (.one (.ptr 0 6)))], [.box [I t.fIn, I t.fOut, I t.fStart, LS intT t.fFirst, LS (lsT intT) t.fNext, LS (lsT (lsT intT)) t.fSays, LS (lsT intT) t.fLast] 33 false]⟩ [] none (by kernel_rfl) (by rfl) (mt_ev ht (by kernel_rfl)) rfl rfl rfl rfl,
    .mt ⟨[(11, .sv (.one (I x87)))], []⟩ [] none (by kernel_rfl) (by rfl) (mt_ev ht (by kernel_rfl)) rfl rfl rfl rfl,
    .mt ⟨[(102, .sv (.one (LS (lsT intT) t.fLast))), (103, .sv (.one (I x87)))], []⟩ [] none (by kernel_rfl) (by rfl) (mt_val (val_index (T := (lsT intT)) (l := t.fLast) (i := x87) ht rfl (by rfl) (by rfl) (by rfl) (by rfl) (by rfl) (by rfl) he_11)) rfl rfl rfl rfl,
    .mt ⟨[(104, .sv (.one (.pe (svR (.one (LS intT e_11))) 1)))], []⟩ [] none (by kernel_rfl) (by rfl) (mt_val (val_load (s := .one (LS intT e_11)) ht rfl (by rfl) (by rfl) (by rfl) (by rfl) (by rfl))) rfl rfl rfl rfl,
    .mt ⟨[(3, .sv (.one (.own 2)))], []⟩ [] none (by kernel_rfl) (by rfl) (mt_ev ht (by kernel_rfl)) rfl rfl rfl rfl,
    .mt ⟨[(11, .sv (.one (I x87)))], []⟩ [] none (by kernel_rfl) (by rfl) (mt_ev ht (by kernel_rfl)) rfl rfl rfl rfl,
    .mt ⟨[(106, .sv (.one (.own 2))), (107, .sv (.one (I x87)))], [.gone, .gone, rowI 23 (lsT intT) l2]⟩ [] none (by kernel_rfl) (by rfl) (mt_val (val_indexO (T := (lsT intT)) (l := l2) (k := x87) ht rfl (by rfl) (by rfl) (by rfl) (by rfl) (by decide) (by rfl) (by rfl) (by rfl) he_12)) rfl rfl rfl rfl,
    .mt ⟨[(108, .sv (.one (.oe 2 ((x87).toNat) 1)))], [.gone, .gone, rowI 23 (lsT intT) l2]⟩ [] none (by kernel_rfl) (by rfl) (mt_val (val_loadO (T := (lsT intT)) (l := l2) (y := e_12) ht rfl (by rfl) (by rfl) (by rfl) (by rfl) (by rfl) (idx_some he_12).2.2 (by rfl))) rfl rfl rfl rfl,
    .mt ⟨[(109, .sv (.one (LS intT e_12)))], []⟩ [] none (by kernel_rfl) (by rfl) (mt_ev ht (by kernel_rfl)) rfl rfl rfl rfl,
    .mt ⟨[(105, .sv (.one (LS intT e_11))), (110, .sv (.one (I (e_12.length : Int))))], []⟩ [] none (by kernel_rfl) (by rfl) (mt_val (val_slice (T := intT) (l := e_11) (lv := (e_12.length : Int)) (hv := (e_11.length : Int)) ht rfl (by rfl) (by rfl) (by rfl) (by rfl) (by rfl) (by rfl) (by rfl) hp_7)) rfl rfl rfl rfl,
    .mt ⟨[(111, .sv (.one (LS intT ((e_11.take ((e_11.length : Int) : Int).toNat).drop ((e_12.length : Int) : Int).toNat))))], []⟩ [] none (by kernel_rfl) (by rfl) (mt_seal (q := 13) (e := 3) (mt_callI 13 (cloneInt_ct ((e_11.take ((e_11.length : Int) : Int).toNat).drop ((e_12.length : Int) : Int).toNat) hp_8) en62 (caps := []) [] rfl rfl (by rfl) (by kernel_rfl) (by kernel_rfl) (by rfl) (by rfl))) rfl rfl rfl rfl,
    .mt ⟨[(112, .sv (.one (LS intT (((e_11.take ((e_11.length : Int) : Int).toNat).drop ((e_12.length : Int) : Int).toNat)))))], []⟩ [] none (by kernel_rfl) (by rfl) (mt_seal (q := 13) (e := 23) (mt_lit (T := (lsT intT)) ([(((e_11.take ((e_11.length : Int) : Int).toNat).drop ((e_12.length : Int) : Int).toNat))] : (List (List Int))) (mt_bsl 13 (r := cellsOf (lsT intT) ([(((e_11.take ((e_11.length : Int) : Int).toNat).drop ((e_12.length : Int) : Int).toNat))] : (List (List Int)))) ht rfl (by rfl) (by rfl) (by rfl) (by kernel_rfl) (by rfl)) (fun _ h => by cases h) (fun _ => rfl) (fun _ => rfl) (by rfl) (Nat.le_of_ble_eq_true rfl))) rfl rfl rfl rfl,
    .mt ⟨[(100, .sv (.one (.own 7))), (113, .sv (.one (LS (lsT intT) ([(((e_11.take ((e_11.length : Int) : Int).toNat).drop ((e_12.length : Int) : Int).toNat))] : (List (List Int))))))], [.gone, .gone, .gone, .gone, .gone, .gone, .gone, rowI 23 (lsT intT) l7]⟩ [7] (some 13) (by kernel_rfl) (by rfl) (mt_append (T := (lsT intT)) (l := l7) (es := ([(((e_11.take ((e_11.length : Int) : Int).toNat).drop ((e_12.length : Int) : Int).toNat))] : (List (List Int)))) (p := 13) ht rfl (by rfl) (by rfl) (by rfl) (by rfl) (by decide) (by rfl) (by rfl) (srcLS (T := (lsT intT)) (es := ([(((e_11.take ((e_11.length : Int) : Int).toNat).drop ((e_12.length : Int) : Int).toNat))] : (List (List Int)))) (fun _ h => by cases h) (by decide) (by rfl)) (by exact hp_9) (by exact hp_9.le (by decide))) rfl rfl rfl rfl,
    .mt ⟨[(10, .sv (.one (.ptr 5 0)))], []⟩ [] none (by kernel_rfl) (by rfl) (mt_ev ht (by kernel_rfl)) rfl rfl rfl rfl,
    .mu ⟨[(114, .sv (.one (.own 13))), (115, .sv (.one (.ptr 5 6)))], [.gone, .gone, .gone, .gone, .gone, .box [I t.fIn, I t.fOut, I t.fStart, .own 4, .own 12, .own 11, .own 7] 33 false]⟩ 5 _ _ rfl rfl (by kernel_rfl) (by rfl) (mu_store2 ht rfl (by rfl) (by rfl) (by rfl) (by rfl) (fun h => by cases h) (by rfl) (by rfl)) rfl rfl rfl rfl rfl rfl rfl,
    trivial⟩
          · refine En.seq ?_
            refine En.region ?_
            refine WL.run ht hn 1 ⟨[(1, .sv (.one (.ptr 0 0))), (2, .sv (.one (.ptr 1 0))), (3, .sv (.one (.own 2))), (10, .sv (.one (.ptr 5 0))), (11, .sv (.one (I x87))), (12, .sv (.one (LS intT e_10))), (13, .sv (.one (.v (.slice none 0 0)))), (85, .sv (.one (LS (lsT intT) t.fNext))), (86, .sv (.one (I (t.fNext.length : Int)))), (87, .sv (.one (I x87)))], [.box [I t.fIn, I t.fOut, I t.fStart, LS intT t.fFirst, LS (lsT intT) t.fNext, LS (lsT (lsT intT)) t.fSays, LS (lsT intT) t.fLast] 33 false, .box [I 0, I 0, I 0, .v (.slice none 0 0), .v (.slice none 0 0), .v (.slice none 0 0), .v (.slice none 0 0)] 33 false, rowI 23 (lsT intT) l2, .gone, rowI 3 intT (([t.fFirst, e_9] : (List (List Int))).flatten), .box [I t.fIn, I t.fOut, I t.fStart, .own 4, .own 12, .own 11, .own 13] 33 false, .gone, .gone, .gone, .gone, .gone, rowI 22 (lsT (lsT intT)) l11, rowI 23 (lsT intT) (l6 ++ ([(e_10)] : (List (List Int)))), rowI 23 (lsT intT) (l7 ++ ([(((e_11.take ((e_11.length : Int) : Int).toNat).drop ((e_12.length : Int) : Int).toNat))] : (List (List Int))))]⟩ (by kernel_rfl) ?_
            refine WL.nil ?_
            refine En.seq ?_
            refine En.seq ?_
            refine En.region ?_
            refine WL.run ht hn 3 ⟨[(1, .sv (.one (.ptr 0 0))), (2, .sv (.one (.ptr 1 0))), (3, .sv (.one (.own 2))), (10, .sv (.one (.ptr 5 0))), (11, .sv (.one (I x87))), (13, .sv (.one (.v (.slice none 0 0)))), (85, .sv (.one (LS (lsT intT) t.fNext))), (86, .sv (.one (I (t.fNext.length : Int)))), (87, .sv (.one (I x87))), (116, .sv (.one (LS intT e_10))), (117, .sv (.one (I (e_10.length : Int)))), (118, .sv (.one (I 0)))], [.box [I t.fIn, I t.fOut, I t.fStart, LS intT t.fFirst, LS (lsT intT) t.fNext, LS (lsT (lsT intT)) t.fSays, LS (lsT intT) t.fLast] 33 false, .box [I 0, I 0, I 0, .v (.slice none 0 0), .v (.slice none 0 0), .v (.slice none 0 0), .v (.slice none 0 0)] 33 false, rowI 23 (lsT intT) l2, .gone, rowI 3 intT (([t.fFirst, e_9] : (List (List Int))).flatten), .box [I t.fIn, I t.fOut, I t.fStart, .own 4, .own 12, .own 11, .own 13] 33 false, .gone, .gone, .gone, .gone, .gone, rowI 22 (lsT (lsT intT)) l11, rowI 23 (lsT intT) (l6 ++ ([(e_10)] : (List (List Int)))), rowI 23 (lsT intT) (l7 ++ ([(((e_11.take ((e_11.length : Int) : Int).toNat).drop ((e_12.length : Int) : Int).toNat))] : (List (List Int))))]⟩ (by kernel_rfl) ?_
            refine WL.nil ?_
            refine En.block ?_
            refine En.rowNil 13 15 23 (lsT intT) (by rfl) (by rfl) ?_
            obtain ⟨Inv_5, mu_5, h0_3, hI_3⟩ := h
            refine En.loop (σ := Int × (List (List Int))) (fun zz => Inv_5 zz.1 zz.2) (fun zz => mu_5 zz.1 zz.2) (fun zz => ⟨[(1, .sv (.one (.ptr 0 0))), (2, .sv (.one (.ptr 1 0))), (3, .sv (.one (.own 2))), (10, .sv (.one (.ptr 5 0))), (11, .sv (.one (I x87))), (13, .sv (.one (.own 15))), (85, .sv (.one (LS (lsT intT) t.fNext))), (86, .sv (.one (I (t.fNext.length : Int)))), (87, .sv (.one (I x87))), (116, .sv (.one (LS intT e_10))), (117, .sv (.one (I (e_10.length : Int)))), (118, .sv (.one (I zz.1)))], [.box [I t.fIn, I t.fOut, I t.fStart, LS intT t.fFirst, LS (lsT intT) t.fNext, LS (lsT (lsT intT)) t.fSays, LS (lsT intT) t.fLast] 33 false, .box [I 0, I 0, I 0, .v (.slice none 0 0), .v (.slice none 0 0), .v (.slice none 0 0), .v (.slice none 0 0)] 33 false, rowI 23 (lsT intT) l2, .gone, rowI 3 intT (([t.fFirst, e_9] : (List (List Int))).flatten), .box [I t.fIn, I t.fOut, I t.fStart, .own 4, .own 12, .own 11, .own 13] 33 false, .gone, .gone, .gone, .gone, .gone, rowI 22 (lsT (lsT intT)) l11, rowI 23 (lsT intT) (l6 ++ ([(e_10)] : (List (List Int)))), rowI 23 (lsT intT) (l7 ++ ([(((e_11.take ((e_11.length : Int) : Int).toNat).drop ((e_12.length : Int) : Int).toNat))] : (List (List Int)))), .gone, rowI 23 (lsT intT) zz.2]⟩) (0, ([] : (List (List Int)))) h0_3 (sub_ok (by kernel_rfl)) ?_
            rintro ⟨x118, l15⟩ h
            replace h := hI_3 _ _ h
            show En c ⟨[(1, .sv (.one (.ptr 0 0))), (2, .sv (.one (.ptr 1 0))), (3, .sv (.one (.own 2))), (10, .sv (.one (.ptr 5 0))), (11, .sv (.one (I x87))), (13, .sv (.one (.own 15))), (85, .sv (.one (LS (lsT intT) t.fNext))), (86, .sv (.one (I (t.fNext.length : Int)))), (87, .sv (.one (I x87))), (116, .sv (.one (LS intT e_10))), (117, .sv (.one (I (e_10.length : Int)))), (118, .sv (.one (I x118)))], [.box [I t.fIn, I t.fOut, I t.fStart, LS intT t.fFirst, LS (lsT intT) t.fNext, LS (lsT (lsT intT)) t.fSays, LS (lsT intT) t.fLast] 33 false, .box [I 0, I 0, I 0, .v (.slice none 0 0), .v (.slice none 0 0), .v (.slice none 0 0), .v (.slice none 0 0)] 33 false, rowI 23 (lsT intT) l2, .gone, rowI 3 intT (([t.fFirst, e_9] : (List (List Int))).flatten), .box [I t.fIn, I t.fOut, I t.fStart, .own 4, .own 12, .own 11, .own 13] 33 false, .gone, .gone, .gone, .gone, .gone, rowI 22 (lsT (lsT intT)) l11, rowI 23 (lsT intT) (l6 ++ ([(e_10)] : (List (List Int)))), rowI 23 (lsT intT) (l7 ++ ([(((e_11.take ((e_11.length : Int) : Int).toNat).drop ((e_12.length : Int) : Int).toNat))] : (List (List Int)))), .gone, rowI 23 (lsT intT) l15]⟩ _
            refine En.seq ?_
            refine En.region ?_
            refine WL.run ht hn 1 ⟨[(1, .sv (.one (.ptr 0 0))), (2, .sv (.one (.ptr 1 0))), (3, .sv (.one (.own 2))), (10, .sv (.one (.ptr 5 0))), (11, .sv (.one (I x87))), (13, .sv (.one (.own 15))), (85, .sv (.one (LS (lsT intT) t.fNext))), (86, .sv (.one (I (t.fNext.length : Int)))), (87, .sv (.one (I x87))), (116, .sv (.one (LS intT e_10))), (117, .sv (.one (I (e_10.length : Int)))), (118, .sv (.one (I x118))), (119, .sv (.one (B (decide (x118 < (e_10.length : Int))))))], [.box [I t.fIn, I t.fOut, I t.fStart, LS intT t.fFirst, LS (lsT intT) t.fNext, LS (lsT (lsT intT)) t.fSays, LS (lsT intT) t.fLast] 33 false, .box [I 0, I 0, I 0, .v (.slice none 0 0), .v (.slice none 0 0), .v (.slice none 0 0), .v (.slice none 0 0)] 33 false, rowI 23 (lsT intT) l2, .gone, rowI 3 intT (([t.fFirst, e_9] : (List (List Int))).flatten), .box [I t.fIn, I t.fOut, I t.fStart, .own 4, .own 12, .own 11, .own 13] 33 false, .gone, .gone, .gone, .gone, .gone, rowI 22 (lsT (lsT intT)) l11, rowI 23 (lsT intT) (l6 ++ ([(e_10)] : (List (List Int)))), rowI 23 (lsT intT) (l7 ++ ([(((e_11.take ((e_11.length : Int) : Int).toNat).drop ((e_12.length : Int) : Int).toNat))] : (List (List Int)))), .gone, rowI 23 (lsT intT) l15]⟩ (by kernel_rfl) ?_
            refine WL.nil ?_
            refine En.seq ?_
            refine En.cond (b := (decide (x118 < (e_10.length : Int)))) (by kernel_rfl) (fun hb => ?_) (fun hb => ?_)
            · replace h := h.1 hb
              refine En.skip ?_
              refine En.seq ?_
              refine En.block ?_
              refine En.seq ?_
              refine En.region ?_
              refine WL.run ht hn 1 ⟨[(1, .sv (.one (.ptr 0 0))), (2, .sv (.one (.ptr 1 0))), (3, .sv (.one (.own 2))), (10, .sv (.one (.ptr 5 0))), (11, .sv (.one (I x87))), (13, .sv (.one (.own 15))), (85, .sv (.one (LS (lsT intT) t.fNext))), (86, .sv (.one (I (t.fNext.length : Int)))), (87, .sv (.one (I x87))), (116, .sv (.one (LS intT e_10))), (117, .sv (.one (I (e_10.length : Int)))), (118, .sv (.one (I x118))), (120, .sv (.one (I x118)))], [.box [I t.fIn, I t.fOut, I t.fStart, LS intT t.fFirst, LS (lsT intT) t.fNext, LS (lsT (lsT intT)) t.fSays, LS (lsT intT) t.fLast] 33 false, .box [I 0, I 0, I 0, .v (.slice none 0 0), .v (.slice none 0 0), .v (.slice none 0 0), .v (.slice none 0 0)] 33 false, rowI 23 (lsT intT) l2, .gone, rowI 3 intT (([t.fFirst, e_9] : (List (List Int))).flatten), .box [I t.fIn, I t.fOut, I t.fStart, .own 4, .own 12, .own 11, .own 13] 33 false, .gone, .gone, .gone, .gone, .gone, rowI 22 (lsT (lsT intT)) l11, rowI 23 (lsT intT) (l6 ++ ([(e_10)] : (List (List Int)))), rowI 23 (lsT intT) (l7 ++ ([(((e_11.take ((e_11.length : Int) : Int).toNat).drop ((e_12.length : Int) : Int).toNat))] : (List (List Int)))), .gone, rowI 23 (lsT intT) l15]⟩ (by kernel_rfl) ?_
              obtain ⟨e_13, he_13, h⟩ := h
              refine WL.val hn (by rfl) (val_index (T := intT) (l := e_10) (i := x118) ht rfl (by rfl) (by rfl) (by rfl) (by rfl) (by rfl) (by rfl) he_13) (by rfl) ?_
              refine WL.val hn (by rfl) (val_load (s := .one (I e_13)) ht rfl (by rfl) (by rfl) (by rfl) (by rfl) (by rfl)) (by rfl) ?_
              refine WL.run ht hn 2 ⟨[(1, .sv (.one (.ptr 0 0))), (2, .sv (.one (.ptr 1 0))), (3, .sv (.one (.own 2))), (10, .sv (.one (.ptr 5 0))), (11, .sv (.one (I x87))), (13, .sv (.one (.own 15))), (14, .sv (.one (I x118))), (15, .sv (.one (I e_13))), (85, .sv (.one (LS (lsT intT) t.fNext))), (86, .sv (.one (I (t.fNext.length : Int)))), (87, .sv (.one (I x87))), (116, .sv (.one (LS intT e_10))), (117, .sv (.one (I (e_10.length : Int)))), (118, .sv (.one (I x118)))], [.box [I t.fIn, I t.fOut, I t.fStart, LS intT t.fFirst, LS (lsT intT) t.fNext, LS (lsT (lsT intT)) t.fSays, LS (lsT intT) t.fLast] 33 false, .box [I 0, I 0, I 0, .v (.slice none 0 0), .v (.slice none 0 0), .v (.slice none 0 0), .v (.slice none 0 0)] 33 false, rowI 23 (lsT intT) l2, .gone, rowI 3 intT (([t.fFirst, e_9] : (List (List Int))).flatten), .box [I t.fIn, I t.fOut, I t.fStart, .own 4, .own 12, .own 11, .own 13] 33 false, .gone, .gone, .gone, .gone, .gone, rowI 22 (lsT (lsT intT)) l11, rowI 23 (lsT intT) (l6 ++ ([(e_10)] : (List (List Int)))), rowI 23 (lsT intT) (l7 ++ ([(((e_11.take ((e_11.length : Int) : Int).toNat).drop ((e_12.length : Int) : Int).toNat))] : (List (List Int)))), .gone, rowI 23 (lsT intT) l15]⟩ (by kernel_rfl) ?_
              refine WL.nil ?_
              obtain ⟨e_14, he_14, h⟩ := h
              obtain ⟨e_15, he_15, h⟩ := h
              obtain ⟨e_16, he_16, h⟩ := h
              have hp_10 := h.1
              replace h := h.2
              obtain ⟨e_17, he_17, h⟩ := h
              have hp_11 := h.1
              replace h := h.2
              have hp_12 := h.1
              replace h := h.2
              refine En.regionA ⟨[(1, .sv (.one (.ptr 0 0))), (2, .sv (.one (.ptr 1 0))), (3, .sv (.one (.own 2))), (10, .sv (.one (.ptr 5 0))), (11, .sv (.one (I x87))), (13, .sv (.one (.own 15))), (14, .sv (.one (I x118))), (15, .sv (.one (I e_13))), (85, .sv (.one (LS (lsT intT) t.fNext))), (86, .sv (.one (I (t.fNext.length : Int)))), (87, .sv (.one (I x87))), (116, .sv (.one (LS intT e_10))), (117, .sv (.one (I (e_10.length : Int)))), (118, .sv (.one (I x118)))], [.sv (.one (.own 15)), .sv (.one (.ptr 0 5)), .sv (.one (LS (lsT (lsT intT)) t.fSays)), .sv (.one (I x87)), .sv (.one (.pe (svR (.one (LS (lsT intT) e_14))) 1)), .sv (.one (LS (lsT intT) e_14)), .sv (.one (I x118)), .sv (.one (.pe (svR (.one (LS intT e_15))) 1)), .sv (.one (LS intT e_15)), .sv (.one (.own 2)), .sv (.one (I e_13)), .sv (.one (.oe 2 ((e_13).toNat) 1)), .sv (.one (LS intT e_16)), .sv (.one (.own 16)), .sv (.one (LS intT (([e_15, e_16] : (List (List Int))).flatten))), .sv (.one (.own 2)), .sv (.one (I x87)), .sv (.one (.oe 2 ((x87).toNat) 1)), .sv (.one (LS intT e_17)), .sv (.one (I (e_17.length : Int))), .sv (.one (LS intT (((([e_15, e_16] : (List (List Int))).flatten).take (((([e_15, e_16] : (List (List Int))).flatten).length : Int) : Int).toNat).drop ((e_17.length : Int) : Int).toNat))), .sv (.one (LS (lsT intT) ([(((([e_15, e_16] : (List (List Int))).flatten).take (((([e_15, e_16] : (List (List Int))).flatten).length : Int) : Int).toNat).drop ((e_17.length : Int) : Int).toNat)] : (List (List Int))))), .sv (.one (.own 17)), .sv (.one (.own 17))], [⟨.box [I t.fIn, I t.fOut, I t.fStart, LS intT t.fFirst, LS (lsT intT) t.fNext, LS (lsT (lsT intT)) t.fSays, LS (lsT intT) t.fLast] 33 false, none, none, none⟩, ⟨.box [I 0, I 0, I 0, .v (.slice none 0 0), .v (.slice none 0 0), .v (.slice none 0 0), .v (.slice none 0 0)] 33 false, none, none, none⟩, ⟨rowI 23 (lsT intT) l2, none, none, none⟩, ⟨.gone, none, none, none⟩, ⟨rowI 3 intT (([t.fFirst, e_9] : (List (List Int))).flatten), none, none, none⟩, ⟨.box [I t.fIn, I t.fOut, I t.fStart, .own 4, .own 12, .own 11, .own 13] 33 false, none, none, none⟩, ⟨.gone, none, none, none⟩, ⟨.gone, none, none, none⟩, ⟨.gone, none, none, none⟩, ⟨.gone, none, none, none⟩, ⟨.gone, none, none, none⟩, ⟨rowI 22 (lsT (lsT intT)) l11, none, none, none⟩, ⟨rowI 23 (lsT intT) (l6 ++ ([(e_10)] : (List (List Int)))), none, none, none⟩, ⟨rowI 23 (lsT intT) (l7 ++ ([(((e_11.take ((e_11.length : Int) : Int).toNat).drop ((e_12.length : Int) : Int).toNat))] : (List (List Int)))), none, none, none⟩, ⟨.gone, none, none, none⟩, ⟨rowI 23 (lsT intT) l15, none, some 22, none⟩, ⟨rowI 23 (lsT intT) ([e_15, e_16] : (List (List Int))), some 13, none, none⟩, ⟨rowI 23 (lsT intT) (l15 ++ ([(((([e_15, e_16] : (List (List Int))).flatten).take (((([e_15, e_16] : (List (List Int))).flatten).length : Int) : Int).toNat).drop ((e_17.length : Int) : Int).toNat)] : (List (List Int)))), some 22, none, none⟩]⟩ ⟨[(1, .sv (.one (.ptr 0 0))), (2, .sv (.one (.ptr 1 0))), (3, .sv (.one (.own 2))), (10, .sv (.one (.ptr 5 0))), (11, .sv (.one (I x87))), (13, .sv (.one (.own 17))), (85, .sv (.one (LS (lsT intT) t.fNext))), (86, .sv (.one (I (t.fNext.length : Int)))), (87, .sv (.one (I x87))), (116, .sv (.one (LS intT e_10))), (117, .sv (.one (I (e_10.length : Int)))), (118, .sv (.one (I x118)))], [.box [I t.fIn, I t.fOut, I t.fStart, LS intT t.fFirst, LS (lsT intT) t.fNext, LS (lsT (lsT intT)) t.fSays, LS (lsT intT) t.fLast] 33 false, .box [I 0, I 0, I 0, .v (.slice none 0 0), .v (.slice none 0 0), .v (.slice none 0 0), .v (.slice none 0 0)] 33 false, rowI 23 (lsT intT) l2, .gone, rowI 3 intT (([t.fFirst, e_9] : (List (List Int))).flatten), .box [I t.fIn, I t.fOut, I t.fStart, .own 4, .own 12, .own 11, .own 13] 33 false, .gone, .gone, .gone, .gone, .gone, rowI 22 (lsT (lsT intT)) l11, rowI 23 (lsT intT) (l6 ++ ([(e_10)] : (List (List Int)))), rowI 23 (lsT intT) (l7 ++ ([(((e_11.take ((e_11.length : Int) : Int).toNat).drop ((e_12.length : Int) : Int).toNat))] : (List (List Int)))), .gone, .gone, .gone, rowI 23 (lsT intT) (l15 ++ ([(((([e_15, e_16] : (List (List Int))).flatten).take (((([e_15, e_16] : (List (List Int))).flatten).length : Int) : Int).toNat).drop ((e_17.length : Int) : Int).toNat)] : (List (List Int))))]⟩ (by kernel_rfl) hn (by kernel_rfl) (by rfl) (by kernel_rfl) ?_ (by kernel_rfl) ?_
              · exact ⟨.mt ⟨[(13, .sv (.one (.own 15)))], []⟩ [] none (by kernel_rfl) (by rfl) (mt_ev ht (by kernel_rfl)) rfl rfl rfl rfl,
    .mt ⟨[(1, .sv (.one (.ptr 0 0)))], []⟩ [] none (by kernel_rfl) (by rfl) (mt_ev ht (by kernel_rfl)) rfl rfl rfl rfl,
    .mt ⟨[(124, .sv (.one (.ptr 0 5)))], [.box [I t.fIn, I t.fOut, I t.fStart, LS intT t.fFirst, LS (lsT intT) t.fNext, LS (lsT (lsT intT)) t.fSays, LS (lsT intT) t.fLast] 33 false]⟩ [] none (by kernel_rfl) (by rfl) (mt_ev ht (by kernel_rfl)) rfl rfl rfl rfl,
    .mt ⟨[(11, .sv (.one (I x87)))], []⟩ [] none (by kernel_rfl) (by rfl) (mt_ev ht (by kernel_rfl)) rfl rfl rfl rfl,
    .mt ⟨[(125, .sv (.one (LS (lsT (lsT intT)) t.fSays))), (126, .sv (.one (I x87)))], []⟩ [] none (by kernel_rfl) (by rfl) (mt_val (val_index (T := (lsT (lsT intT))) (l := t.fSays) (i := x87) ht rfl (by rfl) (by rfl) (by rfl) (by rfl) (by rfl) (by rfl) he_14)) rfl rfl rfl rfl,
    .mt ⟨[(127, .sv (.one (.pe (svR (.one (LS (lsT intT) e_14))) 1)))], []⟩ [] none (by kernel_rfl) (by rfl) (mt_val (val_load (s := .one (LS (lsT intT) e_14)) ht rfl (by rfl) (by rfl) (by rfl) (by rfl) (by rfl))) rfl rfl rfl rfl,
    .mt ⟨[(14, .sv (.one (I x118)))], []⟩ [] none (by kernel_rfl) (by rfl) (mt_ev ht (by kernel_rfl)) rfl rfl rfl rfl,
    .mt ⟨[(128, .sv (.one (LS (lsT intT) e_14))), (129, .sv (.one (I x118)))], []⟩ [] none (by kernel_rfl) (by rfl) (mt_val (val_index (T := (lsT intT)) (l := e_14) (i := x118) ht rfl (by rfl) (by rfl) (by rfl) (by rfl) (by rfl) (by rfl) he_15)) rfl rfl rfl rfl,
    .mt ⟨[(130, .sv (.one (.pe (svR (.one (LS intT e_15))) 1)))], []⟩ [] none (by kernel_rfl) (by rfl) (mt_val (val_load (s := .one (LS intT e_15)) ht rfl (by rfl) (by rfl) (by rfl) (by rfl) (by rfl))) rfl rfl rfl rfl,
    .mt ⟨[(3, .sv (.one (.own 2)))], []⟩ [] none (by kernel_rfl) (by rfl) (mt_ev ht (by kernel_rfl)) rfl rfl rfl rfl,
    .mt ⟨[(15, .sv (.one (I e_13)))], []⟩ [] none (by kernel_rfl) (by rfl) (mt_ev ht (by kernel_rfl)) rfl rfl rfl rfl,
    .mt ⟨[(132, .sv (.one (.own 2))), (133, .sv (.one (I e_13)))], [.gone, .gone, rowI 23 (lsT intT) l2]⟩ [] none (by kernel_rfl) (by rfl) (mt_val (val_indexO (T := (lsT intT)) (l := l2) (k := e_13) ht rfl (by rfl) (by rfl) (by rfl) (by rfl) (by decide) (by rfl) (by rfl) (by rfl) he_16)) rfl rfl rfl rfl,
    .mt ⟨[(134, .sv (.one (.oe 2 ((e_13).toNat) 1)))], [.gone, .gone, rowI 23 (lsT intT) l2]⟩ [] none (by kernel_rfl) (by rfl) (mt_val (val_loadO (T := (lsT intT)) (l := l2) (y := e_16) ht rfl (by rfl) (by rfl) (by rfl) (by rfl) (by rfl) (idx_some he_16).2.2 (by rfl))) rfl rfl rfl rfl,
    .mt ⟨[(131, .sv (.one (LS intT e_15))), (135, .sv (.one (LS intT e_16)))], []⟩ [] (some 16) (by kernel_rfl) (by rfl) (mt_lit (T := (lsT intT)) ([e_15, e_16] : (List (List Int))) (mt_bsl 16 (r := cellsOf (lsT intT) ([e_15, e_16] : (List (List Int)))) ht rfl (by rfl) (by rfl) (by rfl) (by kernel_rfl) (by rfl)) (fun _ h => by cases h) (fun _ => rfl) (fun _ => rfl) (by rfl) (Nat.le_of_ble_eq_true rfl)) rfl rfl rfl rfl,
    .mt ⟨[(136, .sv (.one (.own 16)))], [.gone, .gone, .gone, .gone, .gone, .gone, .gone, .gone, .gone, .gone, .gone, .gone, .gone, .gone, .gone, .gone, rowI 23 (lsT intT) ([e_15, e_16] : (List (List Int)))]⟩ [] none (by kernel_rfl) (by rfl) (mt_seal (q := 17) (e := 3) (mt_lendI (T := (lsT intT)) (l := ([e_15, e_16] : (List (List Int)))) 16 (by rfl) (plain_row fun _ => rfl) (mt_callI 17 (concatI_ct ([e_15, e_16] : (List (List Int))) hp_10) en59 (caps := []) [] rfl rfl (by rfl) (by kernel_rfl) (by kernel_rfl) (by rfl) (by rfl)))) rfl rfl rfl rfl,
    .mt ⟨[(3, .sv (.one (.own 2)))], []⟩ [] none (by kernel_rfl) (by rfl) (mt_ev ht (by kernel_rfl)) rfl rfl rfl rfl,
    .mt ⟨[(11, .sv (.one (I x87)))], []⟩ [] none (by kernel_rfl) (by rfl) (mt_ev ht (by kernel_rfl)) rfl rfl rfl rfl,
    .mt ⟨[(138, .sv (.one (.own 2))), (139, .sv (.one (I x87)))], [.gone, .gone, rowI 23 (lsT intT) l2]⟩ [] none (by kernel_rfl) (by rfl) (mt_val (val_indexO (T := (lsT intT)) (l := l2) (k := x87) ht rfl (by rfl) (by rfl) (by rfl) (by rfl) (by decide) (by rfl) (by rfl) (by rfl) he_17)) rfl rfl rfl rfl,
    .mt ⟨[(140, .sv (.one (.oe 2 ((x87).toNat) 1)))], [.gone, .gone, rowI 23 (lsT intT) l2]⟩ [] none (by kernel_rfl) (by rfl) (mt_val (val_loadO (T := (lsT intT)) (l := l2) (y := e_17) ht rfl (by rfl) (by rfl) (by rfl) (by rfl) (by rfl) (idx_some he_17).2.2 (by rfl))) rfl rfl rfl rfl,
    .mt ⟨[(141, .sv (.one (LS intT e_17)))], []⟩ [] none (by kernel_rfl) (by rfl) (mt_ev ht (by kernel_rfl)) rfl rfl rfl rfl,
    .mt ⟨[(137, .sv (.one (LS intT (([e_15, e_16] : (List (List Int))).flatten)))), (142, .sv (.one (I (e_17.length : Int))))], []⟩ [] none (by kernel_rfl) (by rfl) (mt_val (val_slice (T := intT) (l := (([e_15, e_16] : (List (List Int))).flatten)) (lv := (e_17.length : Int)) (hv := ((([e_15, e_16] : (List (List Int))).flatten).length : Int)) ht rfl (by rfl) (by rfl) (by rfl) (by rfl) (by rfl) (by rfl) (by rfl) hp_11)) rfl rfl rfl rfl,
    .mt ⟨[(143, .sv (.one (LS intT (((([e_15, e_16] : (List (List Int))).flatten).take (((([e_15, e_16] : (List (List Int))).flatten).length : Int) : Int).toNat).drop ((e_17.length : Int) : Int).toNat))))], []⟩ [] none (by kernel_rfl) (by rfl) (mt_seal (q := 17) (e := 23) (mt_lit (T := (lsT intT)) ([(((([e_15, e_16] : (List (List Int))).flatten).take (((([e_15, e_16] : (List (List Int))).flatten).length : Int) : Int).toNat).drop ((e_17.length : Int) : Int).toNat)] : (List (List Int))) (mt_bsl 17 (r := cellsOf (lsT intT) ([(((([e_15, e_16] : (List (List Int))).flatten).take (((([e_15, e_16] : (List (List Int))).flatten).length : Int) : Int).toNat).drop ((e_17.length : Int) : Int).toNat)] : (List (List Int)))) ht rfl (by rfl) (by rfl) (by rfl) (by kernel_rfl) (by rfl)) (fun _ h => by cases h) (fun _ => rfl) (fun _ => rfl) (by rfl) (Nat.le_of_ble_eq_true rfl))) rfl rfl rfl rfl,
    .mt ⟨[(123, .sv (.one (.own 15))), (144, .sv (.one (LS (lsT intT) ([(((([e_15, e_16] : (List (List Int))).flatten).take (((([e_15, e_16] : (List (List Int))).flatten).length : Int) : Int).toNat).drop ((e_17.length : Int) : Int).toNat)] : (List (List Int))))))], [.gone, .gone, .gone, .gone, .gone, .gone, .gone, .gone, .gone, .gone, .gone, .gone, .gone, .gone, .gone, rowI 23 (lsT intT) l15]⟩ [15] (some 17) (by kernel_rfl) (by rfl) (mt_append (T := (lsT intT)) (l := l15) (es := ([(((([e_15, e_16] : (List (List Int))).flatten).take (((([e_15, e_16] : (List (List Int))).flatten).length : Int) : Int).toNat).drop ((e_17.length : Int) : Int).toNat)] : (List (List Int)))) (p := 17) ht rfl (by rfl) (by rfl) (by rfl) (by rfl) (by decide) (by rfl) (by rfl) (srcLS (T := (lsT intT)) (es := ([(((([e_15, e_16] : (List (List Int))).flatten).take (((([e_15, e_16] : (List (List Int))).flatten).length : Int) : Int).toNat).drop ((e_17.length : Int) : Int).toNat)] : (List (List Int)))) (fun _ h => by cases h) (by decide) (by rfl)) (by exact hp_12) (by exact hp_12.le (by decide))) rfl rfl rfl rfl,
    .mt ⟨[(145, .sv (.one (.own 17)))], []⟩ [] none (by kernel_rfl) (by rfl) (mt_ev ht (by kernel_rfl)) rfl rfl rfl rfl,
    trivial⟩
              · refine En.region ?_
                refine WL.run ht hn 2 ⟨[(1, .sv (.one (.ptr 0 0))), (2, .sv (.one (.ptr 1 0))), (3, .sv (.one (.own 2))), (10, .sv (.one (.ptr 5 0))), (11, .sv (.one (I x87))), (13, .sv (.one (.own 17))), (85, .sv (.one (LS (lsT intT) t.fNext))), (86, .sv (.one (I (t.fNext.length : Int)))), (87, .sv (.one (I x87))), (116, .sv (.one (LS intT e_10))), (117, .sv (.one (I (e_10.length : Int)))), (118, .sv (.one (I (wr (x118 + 1)))))], [.box [I t.fIn, I t.fOut, I t.fStart, LS intT t.fFirst, LS (lsT intT) t.fNext, LS (lsT (lsT intT)) t.fSays, LS (lsT intT) t.fLast] 33 false, .box [I 0, I 0, I 0, .v (.slice none 0 0), .v (.slice none 0 0), .v (.slice none 0 0), .v (.slice none 0 0)] 33 false, rowI 23 (lsT intT) l2, .gone, rowI 3 intT (([t.fFirst, e_9] : (List (List Int))).flatten), .box [I t.fIn, I t.fOut, I t.fStart, .own 4, .own 12, .own 11, .own 13] 33 false, .gone, .gone, .gone, .gone, .gone, rowI 22 (lsT (lsT intT)) l11, rowI 23 (lsT intT) (l6 ++ ([(e_10)] : (List (List Int)))), rowI 23 (lsT intT) (l7 ++ ([(((e_11.take ((e_11.length : Int) : Int).toNat).drop ((e_12.length : Int) : Int).toNat))] : (List (List Int)))), .gone, .gone, .gone, rowI 23 (lsT intT) (l15 ++ ([(((([e_15, e_16] : (List (List Int))).flatten).take (((([e_15, e_16] : (List (List Int))).flatten).length : Int) : Int).toNat).drop ((e_17.length : Int) : Int).toNat)] : (List (List Int))))]⟩ (by kernel_rfl) ?_
                refine WL.nil ?_
                refine En.move 17 15 (by rfl) (by rfl) ?_
                exact En.at (I := fun zz => Inv_5 zz.1 zz.2 ∧ mu_5 zz.1 zz.2 < mu_5 x118 l15) (T := fun zz => ⟨[(1, .sv (.one (.ptr 0 0))), (2, .sv (.one (.ptr 1 0))), (3, .sv (.one (.own 2))), (10, .sv (.one (.ptr 5 0))), (11, .sv (.one (I x87))), (13, .sv (.one (.own 15))), (85, .sv (.one (LS (lsT intT) t.fNext))), (86, .sv (.one (I (t.fNext.length : Int)))), (87, .sv (.one (I x87))), (116, .sv (.one (LS intT e_10))), (117, .sv (.one (I (e_10.length : Int)))), (118, .sv (.one (I zz.1)))], [.box [I t.fIn, I t.fOut, I t.fStart, LS intT t.fFirst, LS (lsT intT) t.fNext, LS (lsT (lsT intT)) t.fSays, LS (lsT intT) t.fLast] 33 false, .box [I 0, I 0, I 0, .v (.slice none 0 0), .v (.slice none 0 0), .v (.slice none 0 0), .v (.slice none 0 0)] 33 false, rowI 23 (lsT intT) l2, .gone, rowI 3 intT (([t.fFirst, e_9] : (List (List Int))).flatten), .box [I t.fIn, I t.fOut, I t.fStart, .own 4, .own 12, .own 11, .own 13] 33 false, .gone, .gone, .gone, .gone, .gone, rowI 22 (lsT (lsT intT)) l11, rowI 23 (lsT intT) (l6 ++ ([(e_10)] : (List (List Int)))), rowI 23 (lsT intT) (l7 ++ ([(((e_11.take ((e_11.length : Int) : Int).toNat).drop ((e_12.length : Int) : Int).toNat))] : (List (List Int)))), .gone, rowI 23 (lsT intT) zz.2]⟩) ((wr (x118 + 1)), (l15 ++ ([(((([e_15, e_16] : (List (List Int))).flatten).take (((([e_15, e_16] : (List (List Int))).flatten).length : Int) : Int).toNat).drop ((e_17.length : Int) : Int).toNat)] : (List (List Int))))) h (by kernel_rfl)
            · replace h := h.2 hb
              refine En.exit rfl ?_
              refine En.region ?_
              refine WL.run ht hn 3 ⟨[(1, .sv (.one (.ptr 0 0))), (2, .sv (.one (.ptr 1 0))), (3, .sv (.one (.own 2))), (10, .sv (.one (.ptr 5 0))), (85, .sv (.one (LS (lsT intT) t.fNext))), (86, .sv (.one (I (t.fNext.length : Int)))), (87, .sv (.one (I x87))), (148, .sv (.one (.own 11))), (149, .sv (.one (.own 15)))], [.box [I t.fIn, I t.fOut, I t.fStart, LS intT t.fFirst, LS (lsT intT) t.fNext, LS (lsT (lsT intT)) t.fSays, LS (lsT intT) t.fLast] 33 false, .box [I 0, I 0, I 0, .v (.slice none 0 0), .v (.slice none 0 0), .v (.slice none 0 0), .v (.slice none 0 0)] 33 false, rowI 23 (lsT intT) l2, .gone, rowI 3 intT (([t.fFirst, e_9] : (List (List Int))).flatten), .box [I t.fIn, I t.fOut, I t.fStart, .own 4, .own 12, .own 11, .own 13] 33 false, .gone, .gone, .gone, .gone, .gone, rowI 22 (lsT (lsT intT)) l11, rowI 23 (lsT intT) (l6 ++ ([(e_10)] : (List (List Int)))), rowI 23 (lsT intT) (l7 ++ ([(((e_11.take ((e_11.length : Int) : Int).toNat).drop ((e_12.length : Int) : Int).toNat))] : (List (List Int)))), .gone, rowI 23 (lsT intT) l15]⟩ (by kernel_rfl) ?_
              refine WL.seal (T := (lsT intT)) (l := l15) (e := 23) 15 rfl ?_
              refine WL.run ht hn 0 ⟨[(1, .sv (.one (.ptr 0 0))), (2, .sv (.one (.ptr 1 0))), (3, .sv (.one (.own 2))), (10, .sv (.one (.ptr 5 0))), (85, .sv (.one (LS (lsT intT) t.fNext))), (86, .sv (.one (I (t.fNext.length : Int)))), (87, .sv (.one (I x87))), (148, .sv (.one (.own 11))), (149, .sv (.one (LS (lsT intT) l15)))], [.box [I t.fIn, I t.fOut, I t.fStart, LS intT t.fFirst, LS (lsT intT) t.fNext, LS (lsT (lsT intT)) t.fSays, LS (lsT intT) t.fLast] 33 false, .box [I 0, I 0, I 0, .v (.slice none 0 0), .v (.slice none 0 0), .v (.slice none 0 0), .v (.slice none 0 0)] 33 false, rowI 23 (lsT intT) l2, .gone, rowI 3 intT (([t.fFirst, e_9] : (List (List Int))).flatten), .box [I t.fIn, I t.fOut, I t.fStart, .own 4, .own 12, .own 11, .own 13] 33 false, .gone, .gone, .gone, .gone, .gone, rowI 22 (lsT (lsT intT)) l11, rowI 23 (lsT intT) (l6 ++ ([(e_10)] : (List (List Int)))), rowI 23 (lsT intT) (l7 ++ ([(((e_11.take ((e_11.length : Int) : Int).toNat).drop ((e_12.length : Int) : Int).toNat))] : (List (List Int)))), .gone, .gone]⟩ (by kernel_rfl) ?_
              refine WL.mt0 (K := []) (p := some (16, rowI 22 (lsT (lsT intT)) ([l15] : (List (List (List Int)))))) hn (by rfl) (mt_lit (T := (lsT (lsT intT))) ([l15] : (List (List (List Int)))) (mt_bsl 16 (r := cellsOf (lsT (lsT intT)) ([l15] : (List (List (List Int))))) ht rfl (by rfl) (by rfl) (by rfl) (by kernel_rfl) (by rfl)) (fun _ h => by cases h) (fun _ => rfl) (fun _ => rfl) (by rfl) (Nat.le_of_ble_eq_true rfl)) (by rfl) (by rfl) (by rfl) ?_
              refine WL.seal (T := (lsT (lsT intT))) (l := ([l15] : (List (List (List Int))))) (e := 22) 16 rfl ?_
              refine WL.run ht hn 0 ⟨[(1, .sv (.one (.ptr 0 0))), (2, .sv (.one (.ptr 1 0))), (3, .sv (.one (.own 2))), (10, .sv (.one (.ptr 5 0))), (85, .sv (.one (LS (lsT intT) t.fNext))), (86, .sv (.one (I (t.fNext.length : Int)))), (87, .sv (.one (I x87))), (148, .sv (.one (.own 11))), (149, .sv (.one (LS (lsT intT) l15))), (150, .sv (.one (LS (lsT (lsT intT)) ([l15] : (List (List (List Int)))))))], [.box [I t.fIn, I t.fOut, I t.fStart, LS intT t.fFirst, LS (lsT intT) t.fNext, LS (lsT (lsT intT)) t.fSays, LS (lsT intT) t.fLast] 33 false, .box [I 0, I 0, I 0, .v (.slice none 0 0), .v (.slice none 0 0), .v (.slice none 0 0), .v (.slice none 0 0)] 33 false, rowI 23 (lsT intT) l2, .gone, rowI 3 intT (([t.fFirst, e_9] : (List (List Int))).flatten), .box [I t.fIn, I t.fOut, I t.fStart, .own 4, .own 12, .own 11, .own 13] 33 false, .gone, .gone, .gone, .gone, .gone, rowI 22 (lsT (lsT intT)) l11, rowI 23 (lsT intT) (l6 ++ ([(e_10)] : (List (List Int)))), rowI 23 (lsT intT) (l7 ++ ([(((e_11.take ((e_11.length : Int) : Int).toNat).drop ((e_12.length : Int) : Int).toNat))] : (List (List Int)))), .gone, .gone, .gone]⟩ (by kernel_rfl) ?_
              refine WL.junk 5 5 (by rfl) ?_
              have hp := h.1
              replace h := h.2
              refine WL.mt (S2 := ⟨[(1, .sv (.one (.ptr 0 0))), (2, .sv (.one (.ptr 1 0))), (3, .sv (.one (.own 2))), (10, .sv (.one (.ptr 5 0))), (85, .sv (.one (LS (lsT intT) t.fNext))), (86, .sv (.one (I (t.fNext.length : Int)))), (87, .sv (.one (I x87))), (149, .sv (.one (LS (lsT intT) l15))), (150, .sv (.one (LS (lsT (lsT intT)) ([l15] : (List (List (List Int)))))))], [.box [I t.fIn, I t.fOut, I t.fStart, LS intT t.fFirst, LS (lsT intT) t.fNext, LS (lsT (lsT intT)) t.fSays, LS (lsT intT) t.fLast] 33 false, .box [I 0, I 0, I 0, .v (.slice none 0 0), .v (.slice none 0 0), .v (.slice none 0 0), .v (.slice none 0 0)] 33 false, rowI 23 (lsT intT) l2, .gone, rowI 3 intT (([t.fFirst, e_9] : (List (List Int))).flatten), .box [I t.fIn, I t.fOut, I t.fStart, .own 4, .own 12, .junk, .own 13] 33 false, .gone, .gone, .gone, .gone, .gone, rowI 22 (lsT (lsT intT)) l11, rowI 23 (lsT intT) (l6 ++ ([(e_10)] : (List (List Int)))), rowI 23 (lsT intT) (l7 ++ ([(((e_11.take ((e_11.length : Int) : Int).toNat).drop ((e_12.length : Int) : Int).toNat))] : (List (List Int)))), .gone, .gone, .gone]⟩) (K := [11]) (p := some (11, rowI 22 (lsT (lsT intT)) (l11 ++ ([l15] : (List (List (List Int))))))) hn (by rfl) (mt_append (T := (lsT (lsT intT))) (l := l11) (es := ([l15] : (List (List (List Int))))) ht rfl (by rfl) (by rfl) (by rfl) (by rfl) (by decide) (by rfl) (by rfl) (srcLS (T := (lsT (lsT intT))) (es := ([l15] : (List (List (List Int))))) (fun _ h => by cases h) (by decide) (by rfl)) (by exact hp) (by exact hp.le (by decide))) (by kernel_rfl) (by rfl) (by rfl) (by rfl) ?_
              refine WL.run ht hn 2 ⟨[(1, .sv (.one (.ptr 0 0))), (2, .sv (.one (.ptr 1 0))), (3, .sv (.one (.own 2))), (10, .sv (.one (.ptr 5 0))), (85, .sv (.one (LS (lsT intT) t.fNext))), (86, .sv (.one (I (t.fNext.length : Int)))), (87, .sv (.one (I x87)))], [.box [I t.fIn, I t.fOut, I t.fStart, LS intT t.fFirst, LS (lsT intT) t.fNext, LS (lsT (lsT intT)) t.fSays, LS (lsT intT) t.fLast] 33 false, .box [I 0, I 0, I 0, .v (.slice none 0 0), .v (.slice none 0 0), .v (.slice none 0 0), .v (.slice none 0 0)] 33 false, rowI 23 (lsT intT) l2, .gone, rowI 3 intT (([t.fFirst, e_9] : (List (List Int))).flatten), .box [I t.fIn, I t.fOut, I t.fStart, .own 4, .own 12, .own 11, .own 13] 33 false, .gone, .gone, .gone, .gone, .gone, rowI 22 (lsT (lsT intT)) (l11 ++ ([l15] : (List (List (List Int))))), rowI 23 (lsT intT) (l6 ++ ([(e_10)] : (List (List Int)))), rowI 23 (lsT intT) (l7 ++ ([(((e_11.take ((e_11.length : Int) : Int).toNat).drop ((e_12.length : Int) : Int).toNat))] : (List (List Int)))), .gone, .gone, .gone]⟩ (by kernel_rfl) ?_
              refine WL.nil ?_
              refine En.region ?_
              refine WL.run ht hn 2 ⟨[(1, .sv (.one (.ptr 0 0))), (2, .sv (.one (.ptr 1 0))), (3, .sv (.one (.own 2))), (10, .sv (.one (.ptr 5 0))), (85, .sv (.one (LS (lsT intT) t.fNext))), (86, .sv (.one (I (t.fNext.length : Int)))), (87, .sv (.one (I (wr (x87 + 1)))))], [.box [I t.fIn, I t.fOut, I t.fStart, LS intT t.fFirst, LS (lsT intT) t.fNext, LS (lsT (lsT intT)) t.fSays, LS (lsT intT) t.fLast] 33 false, .box [I 0, I 0, I 0, .v (.slice none 0 0), .v (.slice none 0 0), .v (.slice none 0 0), .v (.slice none 0 0)] 33 false, rowI 23 (lsT intT) l2, .gone, rowI 3 intT (([t.fFirst, e_9] : (List (List Int))).flatten), .box [I t.fIn, I t.fOut, I t.fStart, .own 4, .own 12, .own 11, .own 13] 33 false, .gone, .gone, .gone, .gone, .gone, rowI 22 (lsT (lsT intT)) (l11 ++ ([l15] : (List (List (List Int))))), rowI 23 (lsT intT) (l6 ++ ([(e_10)] : (List (List Int)))), rowI 23 (lsT intT) (l7 ++ ([(((e_11.take ((e_11.length : Int) : Int).toNat).drop ((e_12.length : Int) : Int).toNat))] : (List (List Int)))), .gone, .gone, .gone]⟩ (by kernel_rfl) ?_
              refine WL.nil ?_
              refine En.move 12 6 (by rfl) (by rfl) ?_
              refine En.move 13 7 (by rfl) (by rfl) ?_
              exact En.at (I := fun zz => Inv_4 zz.1 zz.2.1 zz.2.2.1 zz.2.2.2 ∧ mu_4 zz.1 zz.2.1 zz.2.2.1 zz.2.2.2 < mu_4 x87 l6 l7 l11) (T := fun zz => ⟨[(1, .sv (.one (.ptr 0 0))), (2, .sv (.one (.ptr 1 0))), (3, .sv (.one (.own 2))), (10, .sv (.one (.ptr 5 0))), (85, .sv (.one (LS (lsT intT) t.fNext))), (86, .sv (.one (I (t.fNext.length : Int)))), (87, .sv (.one (I zz.1)))], [.box [I t.fIn, I t.fOut, I t.fStart, LS intT t.fFirst, LS (lsT intT) t.fNext, LS (lsT (lsT intT)) t.fSays, LS (lsT intT) t.fLast] 33 false, .box [I 0, I 0, I 0, .v (.slice none 0 0), .v (.slice none 0 0), .v (.slice none 0 0), .v (.slice none 0 0)] 33 false, rowI 23 (lsT intT) l2, .gone, rowI 3 intT (([t.fFirst, e_9] : (List (List Int))).flatten), .box [I t.fIn, I t.fOut, I t.fStart, .own 4, .own 6, .own 11, .own 7] 33 false, rowI 23 (lsT intT) zz.2.1, rowI 23 (lsT intT) zz.2.2.1, .gone, .gone, .gone, rowI 22 (lsT (lsT intT)) zz.2.2.2]⟩) ((wr (x87 + 1)), (l6 ++ ([(e_10)] : (List (List Int)))), (l7 ++ ([(((e_11.take ((e_11.length : Int) : Int).toNat).drop ((e_12.length : Int) : Int).toNat))] : (List (List Int)))), (l11 ++ ([l15] : (List (List (List Int)))))) h (by kernel_rfl)
      · replace h := h.2 hb
        refine En.exit rfl ?_
        refine En.seq ?_
        refine En.region ?_
        refine WL.run ht hn 2 ⟨[(2, .sv (.one (.ptr 1 0)))], [.gone, .box [I t.fIn, I t.fOut, I t.fStart, .own 4, .own 6, .own 11, .own 7] 33 false, .gone, .gone, rowI 3 intT (([t.fFirst, e_9] : (List (List Int))).flatten), .gone, rowI 23 (lsT intT) l6, rowI 23 (lsT intT) l7, .gone, .gone, .gone, rowI 22 (lsT (lsT intT)) l11]⟩ (by kernel_rfl) ?_
        refine WL.nil ?_
        refine En.ret ?_
        refine En.seal (T := intT) (l := (([t.fFirst, e_9] : (List (List Int))).flatten)) (e := 3) 4 rfl ?_
        refine En.seal (T := (lsT intT)) (l := l6) (e := 23) 6 rfl ?_
        refine En.seal (T := (lsT (lsT intT))) (l := l11) (e := 22) 11 rfl ?_
        refine En.seal (T := (lsT intT)) (l := l7) (e := 23) 7 rfl ?_
        exact En.back ht (ApiTrans.mk t.fIn t.fOut t.fStart (([t.fFirst, e_9] : (List (List Int))).flatten) l6 l11 l7) h (by kernel_rfl) rfl
theorem en125 : ∀ args w, (callFunc 125 args).run Try.prog w = .ok (.enter 125 args) w := enters_of Try.func125 (by kernel_rfl) rfl
theorem trPushed_ct (t : ApiTrans) (hp : PushPre t)  : Ct 125 [.sv (.agg [I t.fIn, I t.fOut, I t.fStart, LS intT t.fFirst, LS (lsT intT) t.fNext, LS (lsT (lsT intT)) t.fSays, LS (lsT intT) t.fLast])] [] (fun (_ : Unit) => True) (fun _ => .sv (.agg [I (pushedR t).fIn, I (pushedR t).fOut, I (pushedR t).fStart, LS intT (pushedR t).fFirst, LS (lsT intT) (pushedR t).fNext, LS (lsT (lsT intT)) (pushedR t).fSays, LS (lsT intT) (pushedR t).fLast])) := by
  refine (trPushed_walk t (fun res_ => res_ = (pushedR t)) ?_).fun
  obtain ⟨hok, hsh⟩ := hp
  intro _ _ _ _
  have hsz := hok.size
  have hll := hok.last
  have hsl := hok.says
  have hin := hok.in_
  have hst := hok.start
  have hsmall : ∀ {A : List (List Int)}, Low t A → ∀ q, q < t.fNext.length → (A.getD q []).length ≤ 200 := fun hA q hq => by
    have h1 := (hA.last q hq).length_le
    have h2 := hsh.last q hq
    omega
  refine ⟨by omega, fun b l => Low t l ∧ (b = false → ∀ q a, q < t.fNext.length → a < t.fIn.toNat → SayP t l q a), fun b l => 2 * sumLen l + (if b then 1 else 0), ⟨Low.start hok, fun h => by cases h⟩, ?_⟩
  rintro b0 l0 ⟨hl0, hs0⟩
  refine ⟨fun hb => ?_, fun hb => ?_⟩
  · subst hb
    refine ⟨fun b i l => ∃ k : Nat, i = k ∧ k ≤ t.fNext.length ∧ Low t l ∧ (b = true → sumLen l < sumLen l0) ∧ (b = false → l = l0 ∧ ∀ q a, q < k → a < t.fIn.toNat → SayP t l q a), fun _ i _ => t.fNext.length - i.toNat, ⟨0, rfl, Nat.zero_le _, hl0, (fun h => by cases h), fun _ => ⟨rfl, fun q a hq => absurd hq (Nat.not_lt_zero _)⟩⟩, ?_⟩
    rintro b i l ⟨k, rfl, hk, hl, hb1, hb2⟩
    refine ⟨fun hb => ?_, fun hb => ?_⟩
    · have hlt := dlt hb
      have hrow := hok.row hlt
      have hsrow := hok.srow hlt
      refine ⟨_, idx_nat [] hlt, fun b i l => ∃ c : Nat, i = c ∧ c ≤ t.fIn.toNat ∧ Low t l ∧ (b = true → sumLen l < sumLen l0) ∧ (b = false → l = l0 ∧ (∀ q a, q < k → a < t.fIn.toNat → SayP t l q a) ∧ ∀ a, a < c → SayP t l k a), fun _ i _ => t.fIn.toNat - i.toNat, ⟨0, rfl, Nat.zero_le _, hl, hb1, fun h => ⟨(hb2 h).1, (hb2 h).2, fun a ha => absurd ha (Nat.not_lt_zero _)⟩⟩, ?_⟩
      rintro b i l ⟨c, rfl, hc, hl, hb1, hb2⟩
      refine ⟨fun hb => ?_, fun hb => ?_⟩
      · have hca : c < t.fIn.toNat := by have := dlt hb; omega
        have hn := hok.nx hlt hca
        have h1 := hsmall hl k hlt
        have h2 := hsmall hl _ hn.1
        have h3 := hsh.says k c hlt hca
        have hlen := hl.len
        refine ⟨fun b' l' => Low t l' ∧ (b' = true → sumLen l' < sumLen l0) ∧ (b' = false → l' = l0 ∧ (∀ q a, q < k → a < t.fIn.toNat → SayP t l' q a) ∧ ∀ a, a < c + 1 → SayP t l' k a), ⟨(nxT t k c : Int), ?_, _, idx_nat [] (by omega), _, idx_nat [] (by omega), syT t k c, idx_nat [] (by omega), _, idx_nat [] (by omega), ⟨by simp, ?_⟩, _, idx_nat [] (by omega), fun h => ⟨_, idx_nat [] (by omega), ?_⟩, fun h => ?_⟩, ?_⟩
        · rw [← hn.2]
          exact idx_nat 0 (by omega)
        · simp only [List.flatten_cons, List.flatten_nil, List.append_nil, List.length_append]
          omega
        · have h := of_decide_eq_true h
          have e : [syT t k c, l.getD (nxT t k c) []].flatten = syT t k c ++ l.getD (nxT t k c) [] := by simp
          rw [e] at h ⊢
          rw [Int.toNat_natCast]
          refine ⟨hl.set hok hlt hca, fun _ => ?_, fun h => by cases h⟩
          have h4 := sumLen_set (l := l) (q := k) (x := comL (l.getD k []) (syT t k c ++ l.getD (nxT t k c) [])) (by omega)
          by_cases hbb : b = true
          · have := hb1 hbb; omega
          · have := (hb2 (by simpa using hbb)).1
            subst this
            omega
        · have h := of_decide_eq_false h
          have e : [syT t k c, l.getD (nxT t k c) []].flatten = syT t k c ++ l.getD (nxT t k c) [] := by simp
          rw [e] at h
          refine ⟨hl, hb1, fun hb => ⟨(hb2 hb).1, (hb2 hb).2.1, fun a ha => ?_⟩⟩
          by_cases e : a = c
          · rw [e]
            exact say_stay (by omega)
          · exact (hb2 hb).2.2 a (by omega)
        · rintro b' l' ⟨k1, k2, k3⟩
          exact ⟨⟨c + 1, wsucc (by omega), hca, k1, k2, k3⟩, mu_up hca (by omega)⟩
      · have hge := dge hb
        refine ⟨⟨k + 1, wsucc (by omega), hlt, hl, hb1, fun hb => ⟨(hb2 hb).1, fun q a hq ha => ?_⟩⟩, mu_up hlt (by omega)⟩
        by_cases e : q = k
        · rw [e]
          exact (hb2 hb).2.2 a (by omega)
        · exact (hb2 hb).2.1 q a (by omega) ha
    · have hge := dge hb
      refine ⟨⟨hl, fun hb q a hq ha => (hb2 hb).2 q a (by omega) ha⟩, ?_⟩
      show 2 * sumLen l + (if b = true then 1 else 0) < 2 * sumLen l0 + (if true = true then 1 else 0)
      cases b with
      | true => have := hb1 rfl; simp; omega
      | false => rw [(hb2 rfl).1]; simp
  · subst hb
    have hA : Ahead t l0 := hl0.ahead (hs0 rfl)
    obtain rfl := hA.uniq hok
    have hlen := hA.len
    obtain ⟨s, hs⟩ := Int.eq_ofNat_of_zero_le hst.1
    have hss : s < t.fNext.length := by omega
    have hfs := hsh.first
    have h1 := hsmall hl0 s hss
    have hP : pushedR t = ⟨t.fIn, t.fOut, t.fStart, [t.fFirst, (aheadL t).getD s []].flatten, t.fNext, (List.range t.fNext.length).map (fun q => (List.range t.fIn.toNat).map (pushSay t q)), (List.range t.fNext.length).map (pushLast t)⟩ := by
      unfold pushedR
      rw [hs, Int.toNat_natCast]
      simp
    rw [hP, hs]
    refine ⟨_, idx_nat [] (by omega), ⟨by simp, ?_⟩, fun i l6 l7 l11 => ∃ k : Nat, i = k ∧ k ≤ t.fNext.length ∧ l6 = t.fNext.take k ∧ l7 = (List.range k).map (pushLast t) ∧ l11 = (List.range k).map (fun q => (List.range t.fIn.toNat).map (pushSay t q)), fun i _ _ _ => t.fNext.length - i.toNat, ⟨0, rfl, Nat.zero_le _, rfl, rfl, rfl⟩, ?_⟩
    · simp only [List.flatten_cons, List.flatten_nil, List.append_nil, List.length_append]
      omega
    rintro i l6 l7 l11 ⟨k, rfl, hk, rfl, rfl, rfl⟩
    refine ⟨fun hb => ?_, fun hb => ?_⟩
    · have hlt := dlt hb
      have hrow := hok.row hlt
      have hsrow := hok.srow hlt
      have hla := hsh.last k hlt
      have hpl := (hA.last k hlt).length_le
      have hdl := List.length_drop (i := ((aheadL t).getD k []).length) (l := laT t k)
      refine ⟨_, idx_nat [] hlt, by omega, capOk_of ?_, laT t k, idx_nat [] (by omega), _, idx_nat [] (by omega), ⟨by omega, by omega, by omega⟩, ?_, capOk_of ?_, ?_⟩
      · rw [List.length_take]; simp only [List.length_cons, List.length_nil]; omega
      · rw [Int.toNat_natCast, Int.toNat_natCast, List.take_length, hdl]; omega
      · simp only [List.length_map, List.length_range, List.length_cons, List.length_nil]; omega
      refine ⟨fun i l => ∃ c : Nat, i = c ∧ c ≤ t.fIn.toNat ∧ l = (List.range c).map (pushSay t k), fun i _ => t.fIn.toNat - i.toNat, ⟨0, rfl, Nat.zero_le _, rfl⟩, ?_⟩
      rintro i l ⟨c, rfl, hc, rfl⟩
      refine ⟨fun hb => ?_, fun hb => ?_⟩
      · have hca : c < t.fIn.toNat := by have := dlt hb; omega
        have hn := hok.nx hlt hca
        have h1 := hsmall hl0 k hlt
        have h2 := hsmall hl0 _ hn.1
        have h3 := hsh.says k c hlt hca
        have e : [syT t k c, (aheadL t).getD (nxT t k c) []].flatten = syT t k c ++ (aheadL t).getD (nxT t k c) [] := by simp
        have h4 := (hA.says k c hlt hca).length_le
        refine ⟨(nxT t k c : Int), ?_, _, idx_nat [] (by omega), syT t k c, idx_nat [] (by omega), _, idx_nat [] (by omega), ⟨by simp, ?_⟩, _, idx_nat [] (by omega), ?_⟩
        · rw [← hn.2]
          exact idx_nat 0 (by omega)
        · rw [e, List.length_append]
          omega
        · rw [e, Int.toNat_natCast, Int.toNat_natCast, List.take_length]
          refine ⟨⟨by omega, by omega, by omega⟩, capOk_of (by simp only [List.length_map, List.length_range, List.length_cons, List.length_nil]; omega), ⟨c + 1, wsucc (by omega), hca, ?_⟩, mu_up hca (by omega)⟩
          rw [List.range_succ, List.map_append]
          rfl
      · have hge := dge hb
        have hce : c = t.fIn.toNat := by omega
        subst hce
        refine ⟨capOk_of (by simp only [List.length_map, List.length_range, List.length_cons, List.length_nil]; omega), ⟨k + 1, wsucc (by omega), hlt, ?_, ?_, ?_⟩, mu_up hlt (by omega)⟩
        · rw [List.take_add_one, List.getElem?_eq_getElem hlt, getD_el hlt]
          rfl
        · rw [List.range_succ, List.map_append, Int.toNat_natCast, Int.toNat_natCast, List.take_length]
          rfl
        · rw [List.range_succ, List.map_append]
          rfl
    · have hge := dge hb
      have hke : k = t.fNext.length := by omega
      subst hke
      rw [List.take_length]
end Go.Proofs.Ytiinkohfldopbaa

/- Contracts of package trans: classes of states. No condition. -/
namespace Go.Proofs.Ytiinkohfldopbaa
open Go.RowKit Go.MapKept
set_option linter.unusedSimpArgs false
set_option linter.unusedVariables false
set_option maxRecDepth 100000

def trSame_vc (p : Int) (q : Int) (cls : (List Int)) (t : ApiTrans) (Q : Bool → Prop) : Prop :=
  ∃ J : Bool → Prop, (∃ e, idx cls p = some e ∧
  ∃ e_2, idx cls q = some e_2 ∧
  IfP (e != e_2) (J true) (∃ e_3, idx t.fLast p = some e_3 ∧
  ∃ e_4, idx t.fLast q = some e_4 ∧
  J (!(decide (e_3 = e_4))))) ∧
  (∀ (x30 : Bool), J x30 → IfP x30 (Q false) (∃ (Inv : Int → Prop) (mu : Int → Nat), Inv 0 ∧
  ∀ (x33 : Int) , Inv x33 → (IfP (decide (x33 < t.fIn)) (∃ J_2 : Bool → Prop, (∃ e_5, idx t.fNext p = some e_5 ∧
  ∃ e_6, idx e_5 x33 = some e_6 ∧
  ∃ e_7, idx cls e_6 = some e_7 ∧
  ∃ e_8, idx t.fNext q = some e_8 ∧
  ∃ e_9, idx e_8 x33 = some e_9 ∧
  ∃ e_10, idx cls e_9 = some e_10 ∧
  IfP (e_7 != e_10) (J_2 true) (∃ e_11, idx t.fSays p = some e_11 ∧
  ∃ e_12, idx e_11 x33 = some e_12 ∧
  ∃ e_13, idx t.fSays q = some e_13 ∧
  ∃ e_14, idx e_13 x33 = some e_14 ∧
  J_2 (!(decide (e_12 = e_14))))) ∧
  (∀ (x78 : Bool), J_2 x78 → IfP x78 (Q false) ((Inv (wr (x33 + 1)) ∧ mu (wr (x33 + 1)) < mu x33)))) (Q true))))
theorem trSame_walk (p : Int) (q : Int) (cls : (List Int)) (t : ApiTrans) (Q : Bool → Prop) (h : trSame_vc p q cls t Q) : Ct 189 [.sv (.one (I p)), .sv (.one (I q)), .sv (.one (.ptr 0 0)), .sv (.one (.ptr 1 0))] [.box [LS intT cls] 23 true, .box [I t.fIn, I t.fOut, I t.fStart, LS intT t.fFirst, LS (lsT intT) t.fNext, LS (lsT (lsT intT)) t.fSays, LS (lsT intT) t.fLast] 33 true] Q (fun (r : Bool) => .sv (.one (B r))) := by
  have ht := tab_ok
  refine Ct.body Try.func189 rfl rfl rfl rfl (fun c hn => ?_)
  unfold trSame_vc at h
  refine En.seq ?_
  refine En.region ?_
  refine WL.run ht hn 1 ⟨[(0, .sv (.one (I p))), (1, .sv (.one (I q))), (2, .sv (.one (.ptr 0 0))), (3, .sv (.one (.ptr 1 0)))], [.box [LS intT cls] 23 true, .box [I t.fIn, I t.fOut, I t.fStart, LS intT t.fFirst, LS (lsT intT) t.fNext, LS (lsT (lsT intT)) t.fSays, LS (lsT intT) t.fLast] 33 true]⟩ (by kernel_rfl) ?_
  refine WL.nil ?_
  refine En.seq ?_
  obtain ⟨J, h, hJ⟩ := h
  refine En.seqJ (σ := Bool) (fun zz => J zz) (fun zz => ⟨[(0, .sv (.one (I p))), (1, .sv (.one (I q))), (2, .sv (.one (.ptr 0 0))), (3, .sv (.one (.ptr 1 0))), (30, .sv (.one (B zz)))], [.box [LS intT cls] 23 true, .box [I t.fIn, I t.fOut, I t.fStart, LS intT t.fFirst, LS (lsT intT) t.fNext, LS (lsT (lsT intT)) t.fSays, LS (lsT intT) t.fLast] 33 true]⟩) ?_ ?_
  · obtain ⟨e, he, h⟩ := h
    obtain ⟨e_2, he_2, h⟩ := h
    refine splitB (e != e_2) (fun hb_2 => ?_) (fun hb_2 => ?_)
    · replace h := h.1 hb_2
      refine En.regionA ⟨[(0, .sv (.one (I p))), (1, .sv (.one (I q))), (2, .sv (.one (.ptr 0 0))), (3, .sv (.one (.ptr 1 0)))], [.sv (.one (LS intT cls)), .sv (.one (I p)), .sv (.one (.pe (svR (.one (I e))) 1)), .sv (.one (I e)), .sv (.one (LS intT cls)), .sv (.one (I q)), .sv (.one (.pe (svR (.one (I e_2))) 1)), .sv (.one (I e_2)), .sv (.one (B true)), .sv (.one (B true)), .tup [], .tup [], .tup [], .tup [], .tup [], .tup [], .tup [], .tup [], .tup [], .tup [], .tup [], .tup [], .sv (.one (B true))], [⟨.box [LS intT cls] 23 true, none, none, none⟩, ⟨.box [I t.fIn, I t.fOut, I t.fStart, LS intT t.fFirst, LS (lsT intT) t.fNext, LS (lsT (lsT intT)) t.fSays, LS (lsT intT) t.fLast] 33 true, none, none, none⟩]⟩ ⟨[(0, .sv (.one (I p))), (1, .sv (.one (I q))), (2, .sv (.one (.ptr 0 0))), (3, .sv (.one (.ptr 1 0))), (30, .sv (.one (B true)))], [.box [LS intT cls] 23 true, .box [I t.fIn, I t.fOut, I t.fStart, LS intT t.fFirst, LS (lsT intT) t.fNext, LS (lsT (lsT intT)) t.fSays, LS (lsT intT) t.fLast] 33 true]⟩ (by kernel_rfl) hn (by kernel_rfl) (by rfl) (by kernel_rfl) ?_ (by kernel_rfl) ?_
      · exact ⟨.mt ⟨[(2, .sv (.one (.ptr 0 0)))], [.box [LS intT cls] 23 true]⟩ [] none (by kernel_rfl) (by rfl) (mt_ev ht (by kernel_rfl)) rfl rfl rfl rfl,
    .mt ⟨[(0, .sv (.one (I p)))], []⟩ [] none (by kernel_rfl) (by rfl) (mt_ev ht (by kernel_rfl)) rfl rfl rfl rfl,
    .mt ⟨[(8, .sv (.one (LS intT cls))), (9, .sv (.one (I p)))], []⟩ [] none (by kernel_rfl) (by rfl) (mt_val (val_index (T := intT) (l := cls) (i := p) ht rfl (by rfl) (by rfl) (by rfl) (by rfl) (by rfl) (by rfl) he)) rfl rfl rfl rfl,
    .mt ⟨[(10, .sv (.one (.pe (svR (.one (I e))) 1)))], []⟩ [] none (by kernel_rfl) (by rfl) (mt_val (val_load (s := .one (I e)) ht rfl (by rfl) (by rfl) (by rfl) (by rfl) (by rfl))) rfl rfl rfl rfl,
    .mt ⟨[(2, .sv (.one (.ptr 0 0)))], [.box [LS intT cls] 23 true]⟩ [] none (by kernel_rfl) (by rfl) (mt_ev ht (by kernel_rfl)) rfl rfl rfl rfl,
    .mt ⟨[(1, .sv (.one (I q)))], []⟩ [] none (by kernel_rfl) (by rfl) (mt_ev ht (by kernel_rfl)) rfl rfl rfl rfl,
    .mt ⟨[(12, .sv (.one (LS intT cls))), (13, .sv (.one (I q)))], []⟩ [] none (by kernel_rfl) (by rfl) (mt_val (val_index (T := intT) (l := cls) (i := q) ht rfl (by rfl) (by rfl) (by rfl) (by rfl) (by rfl) (by rfl) he_2)) rfl rfl rfl rfl,
    .mt ⟨[(14, .sv (.one (.pe (svR (.one (I e_2))) 1)))], []⟩ [] none (by kernel_rfl) (by rfl) (mt_val (val_load (s := .one (I e_2)) ht rfl (by rfl) (by rfl) (by rfl) (by rfl) (by rfl))) rfl rfl rfl rfl,
    .mt ⟨[(11, .sv (.one (I e))), (15, .sv (.one (I e_2)))], []⟩ [] none (by kernel_rfl) (by rfl) (mt_castB hb_2 (mt_ev ht (by kernel_rfl))) rfl rfl rfl rfl,
    .mt ⟨[(16, .sv (.one (B true)))], []⟩ [] none (by kernel_rfl) (by rfl) (mt_ev ht (by kernel_rfl)) rfl rfl rfl rfl,
    .skip ⟨[(17, .sv (.one (B true)))], []⟩ (by kernel_rfl) (by rfl) rfl rfl rfl rfl,
    .skip ⟨[(17, .sv (.one (B true)))], []⟩ (by kernel_rfl) (by rfl) rfl rfl rfl rfl,
    .skip ⟨[(17, .sv (.one (B true)))], []⟩ (by kernel_rfl) (by rfl) rfl rfl rfl rfl,
    .skip ⟨[(17, .sv (.one (B true)))], []⟩ (by kernel_rfl) (by rfl) rfl rfl rfl rfl,
    .skip ⟨[(17, .sv (.one (B true)))], []⟩ (by kernel_rfl) (by rfl) rfl rfl rfl rfl,
    .skip ⟨[(17, .sv (.one (B true)))], []⟩ (by kernel_rfl) (by rfl) rfl rfl rfl rfl,
    .skip ⟨[(17, .sv (.one (B true)))], []⟩ (by kernel_rfl) (by rfl) rfl rfl rfl rfl,
    .skip ⟨[(17, .sv (.one (B true)))], []⟩ (by kernel_rfl) (by rfl) rfl rfl rfl rfl,
    .skip ⟨[(17, .sv (.one (B true)))], []⟩ (by kernel_rfl) (by rfl) rfl rfl rfl rfl,
    .skip ⟨[(17, .sv (.one (B true)))], []⟩ (by kernel_rfl) (by rfl) rfl rfl rfl rfl,
    .skip ⟨[(17, .sv (.one (B true)))], []⟩ (by kernel_rfl) (by rfl) rfl rfl rfl rfl,
    .skip ⟨[(17, .sv (.one (B true)))], []⟩ (by kernel_rfl) (by rfl) rfl rfl rfl rfl,
    .mt ⟨[(17, .sv (.one (B true))), (29, .tup [])], []⟩ [] none (by kernel_rfl) (by rfl) (mt_ev ht (by kernel_rfl)) rfl rfl rfl rfl,
    trivial⟩
      · exact En.at (I := fun zz => J zz) (T := fun zz => ⟨[(0, .sv (.one (I p))), (1, .sv (.one (I q))), (2, .sv (.one (.ptr 0 0))), (3, .sv (.one (.ptr 1 0))), (30, .sv (.one (B zz)))], [.box [LS intT cls] 23 true, .box [I t.fIn, I t.fOut, I t.fStart, LS intT t.fFirst, LS (lsT intT) t.fNext, LS (lsT (lsT intT)) t.fSays, LS (lsT intT) t.fLast] 33 true]⟩) true h (by kernel_rfl)
    · replace h := h.2 hb_2
      obtain ⟨e_3, he_3, h⟩ := h
      obtain ⟨e_4, he_4, h⟩ := h
      refine En.regionA ⟨[(0, .sv (.one (I p))), (1, .sv (.one (I q))), (2, .sv (.one (.ptr 0 0))), (3, .sv (.one (.ptr 1 0)))], [.sv (.one (LS intT cls)), .sv (.one (I p)), .sv (.one (.pe (svR (.one (I e))) 1)), .sv (.one (I e)), .sv (.one (LS intT cls)), .sv (.one (I q)), .sv (.one (.pe (svR (.one (I e_2))) 1)), .sv (.one (I e_2)), .sv (.one (B false)), .sv (.one (B false)), .sv (.one (.ptr 1 6)), .sv (.one (LS (lsT intT) t.fLast)), .sv (.one (I p)), .sv (.one (.pe (svR (.one (LS intT e_3))) 1)), .sv (.one (LS intT e_3)), .sv (.one (.ptr 1 6)), .sv (.one (LS (lsT intT) t.fLast)), .sv (.one (I q)), .sv (.one (.pe (svR (.one (LS intT e_4))) 1)), .sv (.one (LS intT e_4)), .sv (.one (B (decide (e_3 = e_4)))), .sv (.one (B (!(decide (e_3 = e_4))))), .sv (.one (B (!(decide (e_3 = e_4)))))], [⟨.box [LS intT cls] 23 true, none, none, none⟩, ⟨.box [I t.fIn, I t.fOut, I t.fStart, LS intT t.fFirst, LS (lsT intT) t.fNext, LS (lsT (lsT intT)) t.fSays, LS (lsT intT) t.fLast] 33 true, none, none, none⟩]⟩ ⟨[(0, .sv (.one (I p))), (1, .sv (.one (I q))), (2, .sv (.one (.ptr 0 0))), (3, .sv (.one (.ptr 1 0))), (30, .sv (.one (B (!(decide (e_3 = e_4))))))], [.box [LS intT cls] 23 true, .box [I t.fIn, I t.fOut, I t.fStart, LS intT t.fFirst, LS (lsT intT) t.fNext, LS (lsT (lsT intT)) t.fSays, LS (lsT intT) t.fLast] 33 true]⟩ (by kernel_rfl) hn (by kernel_rfl) (by rfl) (by kernel_rfl) ?_ (by kernel_rfl) ?_
      · exact ⟨.mt ⟨[(2, .sv (.one (.ptr 0 0)))], [.box [LS intT cls] 23 true]⟩ [] none (by kernel_rfl) (by rfl) (mt_ev ht (by kernel_rfl)) rfl rfl rfl rfl,
    .mt ⟨[(0, .sv (.one (I p)))], []⟩ [] none (by kernel_rfl) (by rfl) (mt_ev ht (by kernel_rfl)) rfl rfl rfl rfl,
    .mt ⟨[(8, .sv (.one (LS intT cls))), (9, .sv (.one (I p)))], []⟩ [] none (by kernel_rfl) (by rfl) (mt_val (val_index (T := intT) (l := cls) (i := p) ht rfl (by rfl) (by rfl) (by rfl) (by rfl) (by rfl) (by rfl) he)) rfl rfl rfl rfl,
    .mt ⟨[(10, .sv (.one (.pe (svR (.one (I e))) 1)))], []⟩ [] none (by kernel_rfl) (by rfl) (mt_val (val_load (s := .one (I e)) ht rfl (by rfl) (by rfl) (by rfl) (by rfl) (by rfl))) rfl rfl rfl rfl,
    .mt ⟨[(2, .sv (.one (.ptr 0 0)))], [.box [LS intT cls] 23 true]⟩ [] none (by kernel_rfl) (by rfl) (mt_ev ht (by kernel_rfl)) rfl rfl rfl rfl,
    .mt ⟨[(1, .sv (.one (I q)))], []⟩ [] none (by kernel_rfl) (by rfl) (mt_ev ht (by kernel_rfl)) rfl rfl rfl rfl,
    .mt ⟨[(12, .sv (.one (LS intT cls))), (13, .sv (.one (I q)))], []⟩ [] none (by kernel_rfl) (by rfl) (mt_val (val_index (T := intT) (l := cls) (i := q) ht rfl (by rfl) (by rfl) (by rfl) (by rfl) (by rfl) (by rfl) he_2)) rfl rfl rfl rfl,
    .mt ⟨[(14, .sv (.one (.pe (svR (.one (I e_2))) 1)))], []⟩ [] none (by kernel_rfl) (by rfl) (mt_val (val_load (s := .one (I e_2)) ht rfl (by rfl) (by rfl) (by rfl) (by rfl) (by rfl))) rfl rfl rfl rfl,
    .mt ⟨[(11, .sv (.one (I e))), (15, .sv (.one (I e_2)))], []⟩ [] none (by kernel_rfl) (by rfl) (mt_castB hb_2 (mt_ev ht (by kernel_rfl))) rfl rfl rfl rfl,
    .mt ⟨[(16, .sv (.one (B false)))], []⟩ [] none (by kernel_rfl) (by rfl) (mt_ev ht (by kernel_rfl)) rfl rfl rfl rfl,
    .mt ⟨[(3, .sv (.one (.ptr 1 0))), (17, .sv (.one (B false)))], []⟩ [] none (by kernel_rfl) (by rfl) (mt_ev ht (by kernel_rfl)) rfl rfl rfl rfl,
    .mt ⟨[(17, .sv (.one (B false))), (18, .sv (.one (.ptr 1 6)))], [.gone, .box [I t.fIn, I t.fOut, I t.fStart, LS intT t.fFirst, LS (lsT intT) t.fNext, LS (lsT (lsT intT)) t.fSays, LS (lsT intT) t.fLast] 33 true]⟩ [] none (by kernel_rfl) (by rfl) (mt_ev ht (by kernel_rfl)) rfl rfl rfl rfl,
    .mt ⟨[(0, .sv (.one (I p))), (17, .sv (.one (B false)))], []⟩ [] none (by kernel_rfl) (by rfl) (mt_ev ht (by kernel_rfl)) rfl rfl rfl rfl,
    .mt ⟨[(17, .sv (.one (B false))), (19, .sv (.one (LS (lsT intT) t.fLast))), (20, .sv (.one (I p)))], []⟩ [] none (by kernel_rfl) (by rfl) (mt_val (val_index (T := (lsT intT)) (l := t.fLast) (i := p) ht rfl (by rfl) (by rfl) (by rfl) (by rfl) (by rfl) (by rfl) he_3)) rfl rfl rfl rfl,
    .mt ⟨[(17, .sv (.one (B false))), (21, .sv (.one (.pe (svR (.one (LS intT e_3))) 1)))], []⟩ [] none (by kernel_rfl) (by rfl) (mt_val (val_load (s := .one (LS intT e_3)) ht rfl (by rfl) (by rfl) (by rfl) (by rfl) (by rfl))) rfl rfl rfl rfl,
    .mt ⟨[(3, .sv (.one (.ptr 1 0))), (17, .sv (.one (B false)))], []⟩ [] none (by kernel_rfl) (by rfl) (mt_ev ht (by kernel_rfl)) rfl rfl rfl rfl,
    .mt ⟨[(17, .sv (.one (B false))), (23, .sv (.one (.ptr 1 6)))], [.gone, .box [I t.fIn, I t.fOut, I t.fStart, LS intT t.fFirst, LS (lsT intT) t.fNext, LS (lsT (lsT intT)) t.fSays, LS (lsT intT) t.fLast] 33 true]⟩ [] none (by kernel_rfl) (by rfl) (mt_ev ht (by kernel_rfl)) rfl rfl rfl rfl,
    .mt ⟨[(1, .sv (.one (I q))), (17, .sv (.one (B false)))], []⟩ [] none (by kernel_rfl) (by rfl) (mt_ev ht (by kernel_rfl)) rfl rfl rfl rfl,
    .mt ⟨[(17, .sv (.one (B false))), (24, .sv (.one (LS (lsT intT) t.fLast))), (25, .sv (.one (I q)))], []⟩ [] none (by kernel_rfl) (by rfl) (mt_val (val_index (T := (lsT intT)) (l := t.fLast) (i := q) ht rfl (by rfl) (by rfl) (by rfl) (by rfl) (by rfl) (by rfl) he_4)) rfl rfl rfl rfl,
    .mt ⟨[(17, .sv (.one (B false))), (26, .sv (.one (.pe (svR (.one (LS intT e_4))) 1)))], []⟩ [] none (by kernel_rfl) (by rfl) (mt_val (val_load (s := .one (LS intT e_4)) ht rfl (by rfl) (by rfl) (by rfl) (by rfl) (by rfl))) rfl rfl rfl rfl,
    .mt ⟨[(17, .sv (.one (B false))), (22, .sv (.one (LS intT e_3))), (27, .sv (.one (LS intT e_4)))], []⟩ [] none (by kernel_rfl) (by rfl) (mt_call (equalI_ct e_3 e_4) en60 (caps := []) [] rfl (by rfl) (by kernel_rfl) (by kernel_rfl) (by rfl) (by rfl) (by rfl)) rfl rfl rfl rfl,
    .mt ⟨[(17, .sv (.one (B false))), (28, .sv (.one (B (decide (e_3 = e_4)))))], []⟩ [] none (by kernel_rfl) (by rfl) (mt_ev ht (by kernel_rfl)) rfl rfl rfl rfl,
    .mt ⟨[(17, .sv (.one (B false))), (29, .sv (.one (B (!(decide (e_3 = e_4))))))], []⟩ [] none (by kernel_rfl) (by rfl) (mt_ev ht (by kernel_rfl)) rfl rfl rfl rfl,
    trivial⟩
      · exact En.at (I := fun zz => J zz) (T := fun zz => ⟨[(0, .sv (.one (I p))), (1, .sv (.one (I q))), (2, .sv (.one (.ptr 0 0))), (3, .sv (.one (.ptr 1 0))), (30, .sv (.one (B zz)))], [.box [LS intT cls] 23 true, .box [I t.fIn, I t.fOut, I t.fStart, LS intT t.fFirst, LS (lsT intT) t.fNext, LS (lsT (lsT intT)) t.fSays, LS (lsT intT) t.fLast] 33 true]⟩) (!(decide (e_3 = e_4))) h (by kernel_rfl)
  · intro x30 h
    replace h := hJ _ h
    show En c ⟨[(0, .sv (.one (I p))), (1, .sv (.one (I q))), (2, .sv (.one (.ptr 0 0))), (3, .sv (.one (.ptr 1 0))), (30, .sv (.one (B x30)))], [.box [LS intT cls] 23 true, .box [I t.fIn, I t.fOut, I t.fStart, LS intT t.fFirst, LS (lsT intT) t.fNext, LS (lsT (lsT intT)) t.fSays, LS (lsT intT) t.fLast] 33 true]⟩ _
    refine En.cond (b := x30) (by kernel_rfl) (fun hb => ?_) (fun hb => ?_)
    · replace h := h.1 hb
      refine En.seq ?_
      refine En.region ?_
      refine WL.run ht hn 1 ⟨[(6, .sv (.one (B false)))], [.gone, .gone]⟩ (by kernel_rfl) ?_
      refine WL.nil ?_
      refine En.ret ?_
      exact En.back ht false h (by kernel_rfl) rfl
    · replace h := h.2 hb
      refine En.skip ?_
      refine En.seq ?_
      refine En.seq ?_
      refine En.region ?_
      refine WL.run ht hn 3 ⟨[(0, .sv (.one (I p))), (1, .sv (.one (I q))), (2, .sv (.one (.ptr 0 0))), (3, .sv (.one (.ptr 1 0))), (32, .sv (.one (I t.fIn))), (33, .sv (.one (I 0)))], [.box [LS intT cls] 23 true, .box [I t.fIn, I t.fOut, I t.fStart, LS intT t.fFirst, LS (lsT intT) t.fNext, LS (lsT (lsT intT)) t.fSays, LS (lsT intT) t.fLast] 33 true]⟩ (by kernel_rfl) ?_
      refine WL.nil ?_
      refine En.block ?_
      obtain ⟨Inv, mu, h0, hI⟩ := h
      refine En.loop (σ := Int) (fun zz => Inv zz) (fun zz => mu zz) (fun zz => ⟨[(0, .sv (.one (I p))), (1, .sv (.one (I q))), (2, .sv (.one (.ptr 0 0))), (3, .sv (.one (.ptr 1 0))), (32, .sv (.one (I t.fIn))), (33, .sv (.one (I zz)))], [.box [LS intT cls] 23 true, .box [I t.fIn, I t.fOut, I t.fStart, LS intT t.fFirst, LS (lsT intT) t.fNext, LS (lsT (lsT intT)) t.fSays, LS (lsT intT) t.fLast] 33 true]⟩) 0 h0 (sub_ok (by kernel_rfl)) ?_
      intro x33 h
      replace h := hI _ h
      show En c ⟨[(0, .sv (.one (I p))), (1, .sv (.one (I q))), (2, .sv (.one (.ptr 0 0))), (3, .sv (.one (.ptr 1 0))), (32, .sv (.one (I t.fIn))), (33, .sv (.one (I x33)))], [.box [LS intT cls] 23 true, .box [I t.fIn, I t.fOut, I t.fStart, LS intT t.fFirst, LS (lsT intT) t.fNext, LS (lsT (lsT intT)) t.fSays, LS (lsT intT) t.fLast] 33 true]⟩ _
      refine En.seq ?_
      refine En.region ?_
      refine WL.run ht hn 1 ⟨[(0, .sv (.one (I p))), (1, .sv (.one (I q))), (2, .sv (.one (.ptr 0 0))), (3, .sv (.one (.ptr 1 0))), (32, .sv (.one (I t.fIn))), (33, .sv (.one (I x33))), (34, .sv (.one (B (decide (x33 < t.fIn)))))], [.box [LS intT cls] 23 true, .box [I t.fIn, I t.fOut, I t.fStart, LS intT t.fFirst, LS (lsT intT) t.fNext, LS (lsT (lsT intT)) t.fSays, LS (lsT intT) t.fLast] 33 true]⟩ (by kernel_rfl) ?_
      refine WL.nil ?_
      refine En.seq ?_
      refine En.cond (b := (decide (x33 < t.fIn))) (by kernel_rfl) (fun hb => ?_) (fun hb => ?_)
      · replace h := h.1 hb
        refine En.skip ?_
        refine En.seq ?_
        refine En.block ?_
        refine En.seq ?_
        refine En.region ?_
        refine WL.run ht hn 2 ⟨[(0, .sv (.one (I p))), (1, .sv (.one (I q))), (2, .sv (.one (.ptr 0 0))), (3, .sv (.one (.ptr 1 0))), (7, .sv (.one (I x33))), (32, .sv (.one (I t.fIn))), (33, .sv (.one (I x33)))], [.box [LS intT cls] 23 true, .box [I t.fIn, I t.fOut, I t.fStart, LS intT t.fFirst, LS (lsT intT) t.fNext, LS (lsT (lsT intT)) t.fSays, LS (lsT intT) t.fLast] 33 true]⟩ (by kernel_rfl) ?_
        refine WL.nil ?_
        obtain ⟨J_2, h, hJ_2⟩ := h
        refine En.seqJ (σ := Bool) (fun zz => J_2 zz) (fun zz => ⟨[(0, .sv (.one (I p))), (1, .sv (.one (I q))), (2, .sv (.one (.ptr 0 0))), (3, .sv (.one (.ptr 1 0))), (32, .sv (.one (I t.fIn))), (33, .sv (.one (I x33))), (78, .sv (.one (B zz)))], [.box [LS intT cls] 23 true, .box [I t.fIn, I t.fOut, I t.fStart, LS intT t.fFirst, LS (lsT intT) t.fNext, LS (lsT (lsT intT)) t.fSays, LS (lsT intT) t.fLast] 33 true]⟩) ?_ ?_
        · obtain ⟨e_5, he_5, h⟩ := h
          obtain ⟨e_6, he_6, h⟩ := h
          obtain ⟨e_7, he_7, h⟩ := h
          obtain ⟨e_8, he_8, h⟩ := h
          obtain ⟨e_9, he_9, h⟩ := h
          obtain ⟨e_10, he_10, h⟩ := h
          refine splitB (e_7 != e_10) (fun hb_3 => ?_) (fun hb_3 => ?_)
          · replace h := h.1 hb_3
            refine En.regionA ⟨[(0, .sv (.one (I p))), (1, .sv (.one (I q))), (2, .sv (.one (.ptr 0 0))), (3, .sv (.one (.ptr 1 0))), (7, .sv (.one (I x33))), (32, .sv (.one (I t.fIn))), (33, .sv (.one (I x33)))], [.sv (.one (LS intT cls)), .sv (.one (.ptr 1 4)), .sv (.one (LS (lsT intT) t.fNext)), .sv (.one (I p)), .sv (.one (.pe (svR (.one (LS intT e_5))) 1)), .sv (.one (LS intT e_5)), .sv (.one (I x33)), .sv (.one (.pe (svR (.one (I e_6))) 1)), .sv (.one (I e_6)), .sv (.one (.pe (svR (.one (I e_7))) 1)), .sv (.one (I e_7)), .sv (.one (LS intT cls)), .sv (.one (.ptr 1 4)), .sv (.one (LS (lsT intT) t.fNext)), .sv (.one (I q)), .sv (.one (.pe (svR (.one (LS intT e_8))) 1)), .sv (.one (LS intT e_8)), .sv (.one (I x33)), .sv (.one (.pe (svR (.one (I e_9))) 1)), .sv (.one (I e_9)), .sv (.one (.pe (svR (.one (I e_10))) 1)), .sv (.one (I e_10)), .sv (.one (B true)), .sv (.one (B true)), .tup [], .tup [], .tup [], .tup [], .tup [], .tup [], .tup [], .tup [], .tup [], .tup [], .tup [], .tup [], .tup [], .tup [], .tup [], .tup [], .tup [], .tup [], .sv (.one (B true))], [⟨.box [LS intT cls] 23 true, none, none, none⟩, ⟨.box [I t.fIn, I t.fOut, I t.fStart, LS intT t.fFirst, LS (lsT intT) t.fNext, LS (lsT (lsT intT)) t.fSays, LS (lsT intT) t.fLast] 33 true, none, none, none⟩]⟩ ⟨[(0, .sv (.one (I p))), (1, .sv (.one (I q))), (2, .sv (.one (.ptr 0 0))), (3, .sv (.one (.ptr 1 0))), (32, .sv (.one (I t.fIn))), (33, .sv (.one (I x33))), (78, .sv (.one (B true)))], [.box [LS intT cls] 23 true, .box [I t.fIn, I t.fOut, I t.fStart, LS intT t.fFirst, LS (lsT intT) t.fNext, LS (lsT (lsT intT)) t.fSays, LS (lsT intT) t.fLast] 33 true]⟩ (by kernel_rfl) hn (by kernel_rfl) (by rfl) (by kernel_rfl) ?_ (by kernel_rfl) ?_
            · exact ⟨.mt ⟨[(2, .sv (.one (.ptr 0 0)))], [.box [LS intT cls] 23 true]⟩ [] none (by kernel_rfl) (by rfl) (mt_ev ht (by kernel_rfl)) rfl rfl rfl rfl,
    .mt ⟨[(3, .sv (.one (.ptr 1 0)))], []⟩ [] none (by kernel_rfl) (by rfl) (mt_ev ht (by kernel_rfl)) rfl rfl rfl rfl,
    .mt ⟨[(37, .sv (.one (.ptr 1 4)))], [.gone, .box [I t.fIn, I t.fOut, I t.fStart, LS intT t.fFirst, LS (lsT intT) t.fNext, LS (lsT (lsT intT)) t.fSays, LS (lsT intT) t.fLast] 33 true]⟩ [] none (by kernel_rfl) (by rfl) (mt_ev ht (by kernel_rfl)) rfl rfl rfl rfl,
    .mt ⟨[(0, .sv (.one (I p)))], []⟩ [] none (by kernel_rfl) (by rfl) (mt_ev ht (by kernel_rfl)) rfl rfl rfl rfl,
    .mt ⟨[(38, .sv (.one (LS (lsT intT) t.fNext))), (39, .sv (.one (I p)))], []⟩ [] none (by kernel_rfl) (by rfl) (mt_val (val_index (T := (lsT intT)) (l := t.fNext) (i := p) ht rfl (by rfl) (by rfl) (by rfl) (by rfl) (by rfl) (by rfl) he_5)) rfl rfl rfl rfl,
    .mt ⟨[(40, .sv (.one (.pe (svR (.one (LS intT e_5))) 1)))], []⟩ [] none (by kernel_rfl) (by rfl) (mt_val (val_load (s := .one (LS intT e_5)) ht rfl (by rfl) (by rfl) (by rfl) (by rfl) (by rfl))) rfl rfl rfl rfl,
    .mt ⟨[(7, .sv (.one (I x33)))], []⟩ [] none (by kernel_rfl) (by rfl) (mt_ev ht (by kernel_rfl)) rfl rfl rfl rfl,
    .mt ⟨[(41, .sv (.one (LS intT e_5))), (42, .sv (.one (I x33)))], []⟩ [] none (by kernel_rfl) (by rfl) (mt_val (val_index (T := intT) (l := e_5) (i := x33) ht rfl (by rfl) (by rfl) (by rfl) (by rfl) (by rfl) (by rfl) he_6)) rfl rfl rfl rfl,
    .mt ⟨[(43, .sv (.one (.pe (svR (.one (I e_6))) 1)))], []⟩ [] none (by kernel_rfl) (by rfl) (mt_val (val_load (s := .one (I e_6)) ht rfl (by rfl) (by rfl) (by rfl) (by rfl) (by rfl))) rfl rfl rfl rfl,
    .mt ⟨[(36, .sv (.one (LS intT cls))), (44, .sv (.one (I e_6)))], []⟩ [] none (by kernel_rfl) (by rfl) (mt_val (val_index (T := intT) (l := cls) (i := e_6) ht rfl (by rfl) (by rfl) (by rfl) (by rfl) (by rfl) (by rfl) he_7)) rfl rfl rfl rfl,
    .mt ⟨[(45, .sv (.one (.pe (svR (.one (I e_7))) 1)))], []⟩ [] none (by kernel_rfl) (by rfl) (mt_val (val_load (s := .one (I e_7)) ht rfl (by rfl) (by rfl) (by rfl) (by rfl) (by rfl))) rfl rfl rfl rfl,
    .mt ⟨[(2, .sv (.one (.ptr 0 0)))], [.box [LS intT cls] 23 true]⟩ [] none (by kernel_rfl) (by rfl) (mt_ev ht (by kernel_rfl)) rfl rfl rfl rfl,
    .mt ⟨[(3, .sv (.one (.ptr 1 0)))], []⟩ [] none (by kernel_rfl) (by rfl) (mt_ev ht (by kernel_rfl)) rfl rfl rfl rfl,
    .mt ⟨[(48, .sv (.one (.ptr 1 4)))], [.gone, .box [I t.fIn, I t.fOut, I t.fStart, LS intT t.fFirst, LS (lsT intT) t.fNext, LS (lsT (lsT intT)) t.fSays, LS (lsT intT) t.fLast] 33 true]⟩ [] none (by kernel_rfl) (by rfl) (mt_ev ht (by kernel_rfl)) rfl rfl rfl rfl,
    .mt ⟨[(1, .sv (.one (I q)))], []⟩ [] none (by kernel_rfl) (by rfl) (mt_ev ht (by kernel_rfl)) rfl rfl rfl rfl,
    .mt ⟨[(49, .sv (.one (LS (lsT intT) t.fNext))), (50, .sv (.one (I q)))], []⟩ [] none (by kernel_rfl) (by rfl) (mt_val (val_index (T := (lsT intT)) (l := t.fNext) (i := q) ht rfl (by rfl) (by rfl) (by rfl) (by rfl) (by rfl) (by rfl) he_8)) rfl rfl rfl rfl,
    .mt ⟨[(51, .sv (.one (.pe (svR (.one (LS intT e_8))) 1)))], []⟩ [] none (by kernel_rfl) (by rfl) (mt_val (val_load (s := .one (LS intT e_8)) ht rfl (by rfl) (by rfl) (by rfl) (by rfl) (by rfl))) rfl rfl rfl rfl,
    .mt ⟨[(7, .sv (.one (I x33)))], []⟩ [] none (by kernel_rfl) (by rfl) (mt_ev ht (by kernel_rfl)) rfl rfl rfl rfl,
    .mt ⟨[(52, .sv (.one (LS intT e_8))), (53, .sv (.one (I x33)))], []⟩ [] none (by kernel_rfl) (by rfl) (mt_val (val_index (T := intT) (l := e_8) (i := x33) ht rfl (by rfl) (by rfl) (by rfl) (by rfl) (by rfl) (by rfl) he_9)) rfl rfl rfl rfl,
    .mt ⟨[(54, .sv (.one (.pe (svR (.one (I e_9))) 1)))], []⟩ [] none (by kernel_rfl) (by rfl) (mt_val (val_load (s := .one (I e_9)) ht rfl (by rfl) (by rfl) (by rfl) (by rfl) (by rfl))) rfl rfl rfl rfl,
    .mt ⟨[(47, .sv (.one (LS intT cls))), (55, .sv (.one (I e_9)))], []⟩ [] none (by kernel_rfl) (by rfl) (mt_val (val_index (T := intT) (l := cls) (i := e_9) ht rfl (by rfl) (by rfl) (by rfl) (by rfl) (by rfl) (by rfl) he_10)) rfl rfl rfl rfl,
    .mt ⟨[(56, .sv (.one (.pe (svR (.one (I e_10))) 1)))], []⟩ [] none (by kernel_rfl) (by rfl) (mt_val (val_load (s := .one (I e_10)) ht rfl (by rfl) (by rfl) (by rfl) (by rfl) (by rfl))) rfl rfl rfl rfl,
    .mt ⟨[(46, .sv (.one (I e_7))), (57, .sv (.one (I e_10)))], []⟩ [] none (by kernel_rfl) (by rfl) (mt_castB hb_3 (mt_ev ht (by kernel_rfl))) rfl rfl rfl rfl,
    .mt ⟨[(58, .sv (.one (B true)))], []⟩ [] none (by kernel_rfl) (by rfl) (mt_ev ht (by kernel_rfl)) rfl rfl rfl rfl,
    .skip ⟨[(59, .sv (.one (B true)))], []⟩ (by kernel_rfl) (by rfl) rfl rfl rfl rfl,
    .skip ⟨[(59, .sv (.one (B true)))], []⟩ (by kernel_rfl) (by rfl) rfl rfl rfl rfl,
    .skip ⟨[(59, .sv (.one (B true)))], []⟩ (by kernel_rfl) (by rfl) rfl rfl rfl rfl,
    .skip ⟨[(59, .sv (.one (B true)))], []⟩ (by kernel_rfl) (by rfl) rfl rfl rfl rfl,
    .skip ⟨[(59, .sv (.one (B true)))], []⟩ (by kernel_rfl) (by rfl) rfl rfl rfl rfl,
    .skip ⟨[(59, .sv (.one (B true)))], []⟩ (by kernel_rfl) (by rfl) rfl rfl rfl rfl,
    .skip ⟨[(59, .sv (.one (B true)))], []⟩ (by kernel_rfl) (by rfl) rfl rfl rfl rfl,
    .skip ⟨[(59, .sv (.one (B true)))], []⟩ (by kernel_rfl) (by rfl) rfl rfl rfl rfl,
    .skip ⟨[(59, .sv (.one (B true)))], []⟩ (by kernel_rfl) (by rfl) rfl rfl rfl rfl,
    .skip ⟨[(59, .sv (.one (B true)))], []⟩ (by kernel_rfl) (by rfl) rfl rfl rfl rfl,
    .skip ⟨[(59, .sv (.one (B true)))], []⟩ (by kernel_rfl) (by rfl) rfl rfl rfl rfl,
    .skip ⟨[(59, .sv (.one (B true)))], []⟩ (by kernel_rfl) (by rfl) rfl rfl rfl rfl,
    .skip ⟨[(59, .sv (.one (B true)))], []⟩ (by kernel_rfl) (by rfl) rfl rfl rfl rfl,
    .skip ⟨[(59, .sv (.one (B true)))], []⟩ (by kernel_rfl) (by rfl) rfl rfl rfl rfl,
    .skip ⟨[(59, .sv (.one (B true)))], []⟩ (by kernel_rfl) (by rfl) rfl rfl rfl rfl,
    .skip ⟨[(59, .sv (.one (B true)))], []⟩ (by kernel_rfl) (by rfl) rfl rfl rfl rfl,
    .skip ⟨[(59, .sv (.one (B true)))], []⟩ (by kernel_rfl) (by rfl) rfl rfl rfl rfl,
    .skip ⟨[(59, .sv (.one (B true)))], []⟩ (by kernel_rfl) (by rfl) rfl rfl rfl rfl,
    .mt ⟨[(59, .sv (.one (B true))), (77, .tup [])], []⟩ [] none (by kernel_rfl) (by rfl) (mt_ev ht (by kernel_rfl)) rfl rfl rfl rfl,
    trivial⟩
            · exact En.at (I := fun zz => J_2 zz) (T := fun zz => ⟨[(0, .sv (.one (I p))), (1, .sv (.one (I q))), (2, .sv (.one (.ptr 0 0))), (3, .sv (.one (.ptr 1 0))), (32, .sv (.one (I t.fIn))), (33, .sv (.one (I x33))), (78, .sv (.one (B zz)))], [.box [LS intT cls] 23 true, .box [I t.fIn, I t.fOut, I t.fStart, LS intT t.fFirst, LS (lsT intT) t.fNext, LS (lsT (lsT intT)) t.fSays, LS (lsT intT) t.fLast] 33 true]⟩) true h (by kernel_rfl)
          · replace h := h.2 hb_3
            obtain ⟨e_11, he_11, h⟩ := h
            obtain ⟨e_12, he_12, h⟩ := h
            obtain ⟨e_13, he_13, h⟩ := h
            obtain ⟨e_14, he_14, h⟩ := h
            refine En.regionA ⟨[(0, .sv (.one (I p))), (1, .sv (.one (I q))), (2, .sv (.one (.ptr 0 0))), (3, .sv (.one (.ptr 1 0))), (7, .sv (.one (I x33))), (32, .sv (.one (I t.fIn))), (33, .sv (.one (I x33)))], [.sv (.one (LS intT cls)), .sv (.one (.ptr 1 4)), .sv (.one (LS (lsT intT) t.fNext)), .sv (.one (I p)), .sv (.one (.pe (svR (.one (LS intT e_5))) 1)), .sv (.one (LS intT e_5)), .sv (.one (I x33)), .sv (.one (.pe (svR (.one (I e_6))) 1)), .sv (.one (I e_6)), .sv (.one (.pe (svR (.one (I e_7))) 1)), .sv (.one (I e_7)), .sv (.one (LS intT cls)), .sv (.one (.ptr 1 4)), .sv (.one (LS (lsT intT) t.fNext)), .sv (.one (I q)), .sv (.one (.pe (svR (.one (LS intT e_8))) 1)), .sv (.one (LS intT e_8)), .sv (.one (I x33)), .sv (.one (.pe (svR (.one (I e_9))) 1)), .sv (.one (I e_9)), .sv (.one (.pe (svR (.one (I e_10))) 1)), .sv (.one (I e_10)), .sv (.one (B false)), .sv (.one (B false)), .sv (.one (.ptr 1 5)), .sv (.one (LS (lsT (lsT intT)) t.fSays)), .sv (.one (I p)), .sv (.one (.pe (svR (.one (LS (lsT intT) e_11))) 1)), .sv (.one (LS (lsT intT) e_11)), .sv (.one (I x33)), .sv (.one (.pe (svR (.one (LS intT e_12))) 1)), .sv (.one (LS intT e_12)), .sv (.one (.ptr 1 5)), .sv (.one (LS (lsT (lsT intT)) t.fSays)), .sv (.one (I q)), .sv (.one (.pe (svR (.one (LS (lsT intT) e_13))) 1)), .sv (.one (LS (lsT intT) e_13)), .sv (.one (I x33)), .sv (.one (.pe (svR (.one (LS intT e_14))) 1)), .sv (.one (LS intT e_14)), .sv (.one (B (decide (e_12 = e_14)))), .sv (.one (B (!(decide (e_12 = e_14))))), .sv (.one (B (!(decide (e_12 = e_14)))))], [⟨.box [LS intT cls] 23 true, none, none, none⟩, ⟨.box [I t.fIn, I t.fOut, I t.fStart, LS intT t.fFirst, LS (lsT intT) t.fNext, LS (lsT (lsT intT)) t.fSays, LS (lsT intT) t.fLast] 33 true, none, none, none⟩]⟩ ⟨[(0, .sv (.one (I p))), (1, .sv (.one (I q))), (2, .sv (.one (.ptr 0 0))), (3, .sv (.one (.ptr 1 0))), (32, .sv (.one (I t.fIn))), (33, .sv (.one (I x33))), (78, .sv (.one (B (!(decide (e_12 = e_14))))))], [.box [LS intT cls] 23 true, .box [I t.fIn, I t.fOut, I t.fStart, LS intT t.fFirst, LS (lsT intT) t.fNext, LS (lsT (lsT intT)) t.fSays, LS (lsT intT) t.fLast] 33 true]⟩ (by kernel_rfl) hn (by kernel_rfl) (by rfl) (by kernel_rfl) ?_ (by kernel_rfl) ?_
            · exact ⟨.mt ⟨[(2, .sv (.one (.ptr 0 0)))], [.box [LS intT cls] 23 true]⟩ [] none (by kernel_rfl) (by rfl) (mt_ev ht (by kernel_rfl)) rfl rfl rfl rfl,
    .mt ⟨[(3, .sv (.one (.ptr 1 0)))], []⟩ [] none (by kernel_rfl) (by rfl) (mt_ev ht (by kernel_rfl)) rfl rfl rfl rfl,
    .mt ⟨[(37, .sv (.one (.ptr 1 4)))], [.gone, .box [I t.fIn, I t.fOut, I t.fStart, LS intT t.fFirst, LS (lsT intT) t.fNext, LS (lsT (lsT intT)) t.fSays, LS (lsT intT) t.fLast] 33 true]⟩ [] none (by kernel_rfl) (by rfl) (mt_ev ht (by kernel_rfl)) rfl rfl rfl rfl,
    .mt ⟨[(0, .sv (.one (I p)))], []⟩ [] none (by kernel_rfl) (by rfl) (mt_ev ht (by kernel_rfl)) rfl rfl rfl rfl,
    .mt ⟨[(38, .sv (.one (LS (lsT intT) t.fNext))), (39, .sv (.one (I p)))], []⟩ [] none (by kernel_rfl) (by rfl) (mt_val (val_index (T := (lsT intT)) (l := t.fNext) (i := p) ht rfl (by rfl) (by rfl) (by rfl) (by rfl) (by rfl) (by rfl) he_5)) rfl rfl rfl rfl,
    .mt ⟨[(40, .sv (.one (.pe (svR (.one (LS intT e_5))) 1)))], []⟩ [] none (by kernel_rfl) (by rfl) (mt_val (val_load (s := .one (LS intT e_5)) ht rfl (by rfl) (by rfl) (by rfl) (by rfl) (by rfl))) rfl rfl rfl rfl,
    .mt ⟨[(7, .sv (.one (I x33)))], []⟩ [] none (by kernel_rfl) (by rfl) (mt_ev ht (by kernel_rfl)) rfl rfl rfl rfl,
    .mt ⟨[(41, .sv (.one (LS intT e_5))), (42, .sv (.one (I x33)))], []⟩ [] none (by kernel_rfl) (by rfl) (mt_val (val_index (T := intT) (l := e_5) (i := x33) ht rfl (by rfl) (by rfl) (by rfl) (by rfl) (by rfl) (by rfl) he_6)) rfl rfl rfl rfl,
    .mt ⟨[(43, .sv (.one (.pe (svR (.one (I e_6))) 1)))], []⟩ [] none (by kernel_rfl) (by rfl) (mt_val (val_load (s := .one (I e_6)) ht rfl (by rfl) (by rfl) (by rfl) (by rfl) (by rfl))) rfl rfl rfl rfl,
    .mt ⟨[(36, .sv (.one (LS intT cls))), (44, .sv (.one (I e_6)))], []⟩ [] none (by kernel_rfl) (by rfl) (mt_val (val_index (T := intT) (l := cls) (i := e_6) ht rfl (by rfl) (by rfl) (by rfl) (by rfl) (by rfl) (by rfl) he_7)) rfl rfl rfl rfl,
    .mt ⟨[(45, .sv (.one (.pe (svR (.one (I e_7))) 1)))], []⟩ [] none (by kernel_rfl) (by rfl) (mt_val (val_load (s := .one (I e_7)) ht rfl (by rfl) (by rfl) (by rfl) (by rfl) (by rfl))) rfl rfl rfl rfl,
    .mt ⟨[(2, .sv (.one (.ptr 0 0)))], [.box [LS intT cls] 23 true]⟩ [] none (by kernel_rfl) (by rfl) (mt_ev ht (by kernel_rfl)) rfl rfl rfl rfl,
    .mt ⟨[(3, .sv (.one (.ptr 1 0)))], []⟩ [] none (by kernel_rfl) (by rfl) (mt_ev ht (by kernel_rfl)) rfl rfl rfl rfl,
    .mt ⟨[(48, .sv (.one (.ptr 1 4)))], [.gone, .box [I t.fIn, I t.fOut, I t.fStart, LS intT t.fFirst, LS (lsT intT) t.fNext, LS (lsT (lsT intT)) t.fSays, LS (lsT intT) t.fLast] 33 true]⟩ [] none (by kernel_rfl) (by rfl) (mt_ev ht (by kernel_rfl)) rfl rfl rfl rfl,
    .mt ⟨[(1, .sv (.one (I q)))], []⟩ [] none (by kernel_rfl) (by rfl) (mt_ev ht (by kernel_rfl)) rfl rfl rfl rfl,
    .mt ⟨[(49, .sv (.one (LS (lsT intT) t.fNext))), (50, .sv (.one (I q)))], []⟩ [] none (by kernel_rfl) (by rfl) (mt_val (val_index (T := (lsT intT)) (l := t.fNext) (i := q) ht rfl (by rfl) (by rfl) (by rfl) (by rfl) (by rfl) (by rfl) he_8)) rfl rfl rfl rfl,
    .mt ⟨[(51, .sv (.one (.pe (svR (.one (LS intT e_8))) 1)))], []⟩ [] none (by kernel_rfl) (by rfl) (mt_val (val_load (s := .one (LS intT e_8)) ht rfl (by rfl) (by rfl) (by rfl) (by rfl) (by rfl))) rfl rfl rfl rfl,
    .mt ⟨[(7, .sv (.one (I x33)))], []⟩ [] none (by kernel_rfl) (by rfl) (mt_ev ht (by kernel_rfl)) rfl rfl rfl rfl,
    .mt ⟨[(52, .sv (.one (LS intT e_8))), (53, .sv (.one (I x33)))], []⟩ [] none (by kernel_rfl) (by rfl) (mt_val (val_index (T := intT) (l := e_8) (i := x33) ht rfl (by rfl) (by rfl) (by rfl) (by rfl) (by rfl) (by rfl) he_9)) rfl rfl rfl rfl,
    .mt ⟨[(54, .sv (.one (.pe (svR (.one (I e_9))) 1)))], []⟩ [] none (by kernel_rfl) (by rfl) (mt_val (val_load (s := .one (I e_9)) ht rfl (by rfl) (by rfl) (by rfl) (by rfl) (by rfl))) rfl rfl rfl rfl,
    .mt ⟨[(47, .sv (.one (LS intT cls))), (55, .sv (.one (I e_9)))], []⟩ [] none (by kernel_rfl) (by rfl) (mt_val (val_index (T := intT) (l := cls) (i := e_9) ht rfl (by rfl) (by rfl) (by rfl) (by rfl) (by rfl) (by rfl) he_10)) rfl rfl rfl rfl,
    .mt ⟨[(56, .sv (.one (.pe (svR (.one (I e_10))) 1)))], []⟩ [] none (by kernel_rfl) (by rfl) (mt_val (val_load (s := .one (I e_10)) ht rfl (by rfl) (by rfl) (by rfl) (by rfl) (by rfl))) rfl rfl rfl rfl,
    .mt ⟨[(46, .sv (.one (I e_7))), (57, .sv (.one (I e_10)))], []⟩ [] none (by kernel_rfl) (by rfl) (mt_castB hb_3 (mt_ev ht (by kernel_rfl))) rfl rfl rfl rfl,
    .mt ⟨[(58, .sv (.one (B false)))], []⟩ [] none (by kernel_rfl) (by rfl) (mt_ev ht (by kernel_rfl)) rfl rfl rfl rfl,
    .mt ⟨[(3, .sv (.one (.ptr 1 0))), (59, .sv (.one (B false)))], []⟩ [] none (by kernel_rfl) (by rfl) (mt_ev ht (by kernel_rfl)) rfl rfl rfl rfl,
    .mt ⟨[(59, .sv (.one (B false))), (60, .sv (.one (.ptr 1 5)))], [.gone, .box [I t.fIn, I t.fOut, I t.fStart, LS intT t.fFirst, LS (lsT intT) t.fNext, LS (lsT (lsT intT)) t.fSays, LS (lsT intT) t.fLast] 33 true]⟩ [] none (by kernel_rfl) (by rfl) (mt_ev ht (by kernel_rfl)) rfl rfl rfl rfl,
    .mt ⟨[(0, .sv (.one (I p))), (59, .sv (.one (B false)))], []⟩ [] none (by kernel_rfl) (by rfl) (mt_ev ht (by kernel_rfl)) rfl rfl rfl rfl,
    .mt ⟨[(59, .sv (.one (B false))), (61, .sv (.one (LS (lsT (lsT intT)) t.fSays))), (62, .sv (.one (I p)))], []⟩ [] none (by kernel_rfl) (by rfl) (mt_val (val_index (T := (lsT (lsT intT))) (l := t.fSays) (i := p) ht rfl (by rfl) (by rfl) (by rfl) (by rfl) (by rfl) (by rfl) he_11)) rfl rfl rfl rfl,
    .mt ⟨[(59, .sv (.one (B false))), (63, .sv (.one (.pe (svR (.one (LS (lsT intT) e_11))) 1)))], []⟩ [] none (by kernel_rfl) (by rfl) (mt_val (val_load (s := .one (LS (lsT intT) e_11)) ht rfl (by rfl) (by rfl) (by rfl) (by rfl) (by rfl))) rfl rfl rfl rfl,
    .mt ⟨[(7, .sv (.one (I x33))), (59, .sv (.one (B false)))], []⟩ [] none (by kernel_rfl) (by rfl) (mt_ev ht (by kernel_rfl)) rfl rfl rfl rfl,
    .mt ⟨[(59, .sv (.one (B false))), (64, .sv (.one (LS (lsT intT) e_11))), (65, .sv (.one (I x33)))], []⟩ [] none (by kernel_rfl) (by rfl) (mt_val (val_index (T := (lsT intT)) (l := e_11) (i := x33) ht rfl (by rfl) (by rfl) (by rfl) (by rfl) (by rfl) (by rfl) he_12)) rfl rfl rfl rfl,
    .mt ⟨[(59, .sv (.one (B false))), (66, .sv (.one (.pe (svR (.one (LS intT e_12))) 1)))], []⟩ [] none (by kernel_rfl) (by rfl) (mt_val (val_load (s := .one (LS intT e_12)) ht rfl (by rfl) (by rfl) (by rfl) (by rfl) (by rfl))) rfl rfl rfl rfl,
    .mt ⟨[(3, .sv (.one (.ptr 1 0))), (59, .sv (.one (B false)))], []⟩ [] none (by kernel_rfl) (by rfl) (mt_ev ht (by kernel_rfl)) rfl rfl rfl rfl,
    .mt ⟨[(59, .sv (.one (B false))), (68, .sv (.one (.ptr 1 5)))], [.gone, .box [I t.fIn, I t.fOut, I t.fStart, LS intT t.fFirst, LS (lsT intT) t.fNext, LS (lsT (lsT intT)) t.fSays, LS (lsT intT) t.fLast] 33 true]⟩ [] none (by kernel_rfl) (by rfl) (mt_ev ht (by kernel_rfl)) rfl rfl rfl rfl,
    .mt ⟨[(1, .sv (.one (I q))), (59, .sv (.one (B false)))], []⟩ [] none (by kernel_rfl) (by rfl) (mt_ev ht (by kernel_rfl)) rfl rfl rfl rfl,
    .mt ⟨[(59, .sv (.one (B false))), (69, .sv (.one (LS (lsT (lsT intT)) t.fSays))), (70, .sv (.one (I q)))], []⟩ [] none (by kernel_rfl) (by rfl) (mt_val (val_index (T := (lsT (lsT intT))) (l := t.fSays) (i := q) ht rfl (by rfl) (by rfl) (by rfl) (by rfl) (by rfl) (by rfl) he_13)) rfl rfl rfl rfl,
    .mt ⟨[(59, .sv (.one (B false))), (71, .sv (.one (.pe (svR (.one (LS (lsT intT) e_13))) 1)))], []⟩ [] none (by kernel_rfl) (by rfl) (mt_val (val_load (s := .one (LS (lsT intT) e_13)) ht rfl (by rfl) (by rfl) (by rfl) (by rfl) (by rfl))) rfl rfl rfl rfl,
    .mt ⟨[(7, .sv (.one (I x33))), (59, .sv (.one (B false)))], []⟩ [] none (by kernel_rfl) (by rfl) (mt_ev ht (by kernel_rfl)) rfl rfl rfl rfl,
    .mt ⟨[(59, .sv (.one (B false))), (72, .sv (.one (LS (lsT intT) e_13))), (73, .sv (.one (I x33)))], []⟩ [] none (by kernel_rfl) (by rfl) (mt_val (val_index (T := (lsT intT)) (l := e_13) (i := x33) ht rfl (by rfl) (by rfl) (by rfl) (by rfl) (by rfl) (by rfl) he_14)) rfl rfl rfl rfl,
    .mt ⟨[(59, .sv (.one (B false))), (74, .sv (.one (.pe (svR (.one (LS intT e_14))) 1)))], []⟩ [] none (by kernel_rfl) (by rfl) (mt_val (val_load (s := .one (LS intT e_14)) ht rfl (by rfl) (by rfl) (by rfl) (by rfl) (by rfl))) rfl rfl rfl rfl,
    .mt ⟨[(59, .sv (.one (B false))), (67, .sv (.one (LS intT e_12))), (75, .sv (.one (LS intT e_14)))], []⟩ [] none (by kernel_rfl) (by rfl) (mt_call (equalI_ct e_12 e_14) en60 (caps := []) [] rfl (by rfl) (by kernel_rfl) (by kernel_rfl) (by rfl) (by rfl) (by rfl)) rfl rfl rfl rfl,
    .mt ⟨[(59, .sv (.one (B false))), (76, .sv (.one (B (decide (e_12 = e_14)))))], []⟩ [] none (by kernel_rfl) (by rfl) (mt_ev ht (by kernel_rfl)) rfl rfl rfl rfl,
    .mt ⟨[(59, .sv (.one (B false))), (77, .sv (.one (B (!(decide (e_12 = e_14))))))], []⟩ [] none (by kernel_rfl) (by rfl) (mt_ev ht (by kernel_rfl)) rfl rfl rfl rfl,
    trivial⟩
            · exact En.at (I := fun zz => J_2 zz) (T := fun zz => ⟨[(0, .sv (.one (I p))), (1, .sv (.one (I q))), (2, .sv (.one (.ptr 0 0))), (3, .sv (.one (.ptr 1 0))), (32, .sv (.one (I t.fIn))), (33, .sv (.one (I x33))), (78, .sv (.one (B zz)))], [.box [LS intT cls] 23 true, .box [I t.fIn, I t.fOut, I t.fStart, LS intT t.fFirst, LS (lsT intT) t.fNext, LS (lsT (lsT intT)) t.fSays, LS (lsT intT) t.fLast] 33 true]⟩) (!(decide (e_12 = e_14))) h (by kernel_rfl)
        · intro x78 h
          replace h := hJ_2 _ h
          show En c ⟨[(0, .sv (.one (I p))), (1, .sv (.one (I q))), (2, .sv (.one (.ptr 0 0))), (3, .sv (.one (.ptr 1 0))), (32, .sv (.one (I t.fIn))), (33, .sv (.one (I x33))), (78, .sv (.one (B x78)))], [.box [LS intT cls] 23 true, .box [I t.fIn, I t.fOut, I t.fStart, LS intT t.fFirst, LS (lsT intT) t.fNext, LS (lsT (lsT intT)) t.fSays, LS (lsT intT) t.fLast] 33 true]⟩ _
          refine En.cond (b := x78) (by kernel_rfl) (fun hb => ?_) (fun hb => ?_)
          · replace h := h.1 hb
            refine En.seq ?_
            refine En.region ?_
            refine WL.run ht hn 1 ⟨[(6, .sv (.one (B false)))], [.gone, .gone]⟩ (by kernel_rfl) ?_
            refine WL.nil ?_
            refine En.ret ?_
            exact En.back ht false h (by kernel_rfl) rfl
          · replace h := h.2 hb
            refine En.skip ?_
            refine En.region ?_
            refine WL.run ht hn 2 ⟨[(0, .sv (.one (I p))), (1, .sv (.one (I q))), (2, .sv (.one (.ptr 0 0))), (3, .sv (.one (.ptr 1 0))), (32, .sv (.one (I t.fIn))), (33, .sv (.one (I (wr (x33 + 1)))))], [.box [LS intT cls] 23 true, .box [I t.fIn, I t.fOut, I t.fStart, LS intT t.fFirst, LS (lsT intT) t.fNext, LS (lsT (lsT intT)) t.fSays, LS (lsT intT) t.fLast] 33 true]⟩ (by kernel_rfl) ?_
            refine WL.nil ?_
            exact En.at (I := fun zz => Inv zz ∧ mu zz < mu x33) (T := fun zz => ⟨[(0, .sv (.one (I p))), (1, .sv (.one (I q))), (2, .sv (.one (.ptr 0 0))), (3, .sv (.one (.ptr 1 0))), (32, .sv (.one (I t.fIn))), (33, .sv (.one (I zz)))], [.box [LS intT cls] 23 true, .box [I t.fIn, I t.fOut, I t.fStart, LS intT t.fFirst, LS (lsT intT) t.fNext, LS (lsT (lsT intT)) t.fSays, LS (lsT intT) t.fLast] 33 true]⟩) (wr (x33 + 1)) h (by kernel_rfl)
      · replace h := h.2 hb
        refine En.exit rfl ?_
        refine En.seq ?_
        refine En.region ?_
        refine WL.run ht hn 1 ⟨[(6, .sv (.one (B true)))], [.gone, .gone]⟩ (by kernel_rfl) ?_
        refine WL.nil ?_
        refine En.ret ?_
        exact En.back ht true h (by kernel_rfl) rfl
theorem en189 : ∀ args w, (callFunc 189 args).run Try.prog w = .ok (.enter 189 args) w := enters_of Try.func189 (by kernel_rfl) rfl
def sameB (t : ApiTrans) (cls : List Int) (p q : Int) : Bool :=
  (cls.getD p.toNat 0 == cls.getD q.toNat 0) && (decide (laT t p.toNat = laT t q.toNat) && (List.range t.fIn.toNat).all fun a => (cls.getD (nxT t p.toNat a) 0 == cls.getD (nxT t q.toNat a) 0) && decide (syT t p.toNat a = syT t q.toNat a))
theorem sameB_iff {t : ApiTrans} {cls : List Int} {p q : Int} : sameB t cls p q = true ↔ StepR t cls p.toNat q.toNat := by
  unfold sameB StepR
  simp only [Bool.and_eq_true, beq_iff_eq, decide_eq_true_eq, List.all_eq_true, List.mem_range]
def SameDom (cls : List Int) (t : ApiTrans) (x : Int × Int) : Prop := TrOk t ∧ cls.length = t.fNext.length ∧ (0 ≤ x.1 ∧ x.1 < (t.fNext.length : Int)) ∧ (0 ≤ x.2 ∧ x.2 < (t.fNext.length : Int))
theorem trSame_ct (p : Int) (q : Int) (cls : (List Int)) (t : ApiTrans) (hd : SameDom cls t (p, q)) : Ct 189 [.sv (.one (I p)), .sv (.one (I q)), .sv (.one (.ptr 0 0)), .sv (.one (.ptr 1 0))] [.box [LS intT cls] 23 true, .box [I t.fIn, I t.fOut, I t.fStart, LS intT t.fFirst, LS (lsT intT) t.fNext, LS (lsT (lsT intT)) t.fSays, LS (lsT intT) t.fLast] 33 true] (fun (_ : Unit) => True) (fun _ => .sv (.one (B (sameB t cls p q)))) := by
  refine (trSame_walk p q cls t (fun res_ => res_ = (sameB t cls p q)) ?_).fun
  obtain ⟨hok, hcl, ⟨hp0, hp1⟩, ⟨hq0, hq1⟩⟩ := hd
  simp only at hp0 hp1 hq0 hq1
  obtain ⟨p, rfl⟩ := Int.eq_ofNat_of_zero_le hp0
  obtain ⟨q, rfl⟩ := Int.eq_ofNat_of_zero_le hq0
  have hp : p < t.fNext.length := by omega
  have hq : q < t.fNext.length := by omega
  have hll := hok.last
  have hsl := hok.says
  have hin := hok.in_
  have hS : ∀ F : Bool, F = ((cls.getD p 0 == cls.getD q 0) && decide (laT t p = laT t q)) → sameB t cls (p : Int) (q : Int) = (F && (List.range t.fIn.toNat).all fun a => (cls.getD (nxT t p a) 0 == cls.getD (nxT t q a) 0) && decide (syT t p a = syT t q a)) := fun F hF => by
    rw [hF]
    unfold sameB
    rw [Int.toNat_natCast, Int.toNat_natCast, Bool.and_assoc]
  refine ⟨fun b => b = !((cls.getD p 0 == cls.getD q 0) && decide (laT t p = laT t q)), ⟨_, idx_nat 0 (by omega), _, idx_nat 0 (by omega), fun h => ?_, fun h => ⟨laT t p, idx_nat [] (by omega), laT t q, idx_nat [] (by omega), ?_⟩⟩, ?_⟩
  · have h : (cls.getD p 0 == cls.getD q 0) = false := by simpa using h
    show true = _
    rw [h]; rfl
  · have h : (cls.getD p 0 == cls.getD q 0) = true := by simpa using h
    show _ = _
    rw [h, Bool.true_and]
  rintro b rfl
  refine ⟨fun h => ?_, fun h => ?_⟩
  · have h : ((cls.getD p 0 == cls.getD q 0) && decide (laT t p = laT t q)) = false := by rwa [Bool.not_eq_true'] at h
    show false = _
    rw [hS _ rfl, h, Bool.false_and]
  have h : ((cls.getD p 0 == cls.getD q 0) && decide (laT t p = laT t q)) = true := by rwa [Bool.not_eq_false'] at h
  have hE := hS _ rfl
  rw [h, Bool.true_and] at hE
  refine ⟨fun i => ∃ k : Nat, i = k ∧ k ≤ t.fIn.toNat ∧ ∀ a, a < k → ((cls.getD (nxT t p a) 0 == cls.getD (nxT t q a) 0) && decide (syT t p a = syT t q a)) = true, fun i => t.fIn.toNat - i.toNat, ⟨0, rfl, Nat.zero_le _, fun a ha => absurd ha (Nat.not_lt_zero _)⟩, ?_⟩
  rintro i ⟨k, rfl, hk, ht⟩
  refine ⟨fun hb => ?_, fun hb => ?_⟩
  · have hka : k < t.fIn.toNat := by have := of_decide_eq_true hb; omega
    have np := hok.nx hp hka
    have nq := hok.nx hq hka
    have rp := hok.row hp
    have rq := hok.row hq
    have sp := hok.srow hp
    have sq := hok.srow hq
    refine ⟨fun b => b = !((cls.getD (nxT t p k) 0 == cls.getD (nxT t q k) 0) && decide (syT t p k = syT t q k)), ⟨_, idx_nat [] hp, (nxT t p k : Int), ?_, _, idx_nat 0 (by omega), _, idx_nat [] hq, (nxT t q k : Int), ?_, _, idx_nat 0 (by omega), fun h => ?_, fun h => ⟨_, idx_nat [] (by omega), syT t p k, idx_nat [] (by omega), _, idx_nat [] (by omega), syT t q k, idx_nat [] (by omega), ?_⟩⟩, ?_⟩
    · rw [← np.2]; exact idx_nat 0 (by omega)
    · rw [← nq.2]; exact idx_nat 0 (by omega)
    · have h : (cls.getD (nxT t p k) 0 == cls.getD (nxT t q k) 0) = false := by simpa using h
      show true = _
      rw [h]; rfl
    · have h : (cls.getD (nxT t p k) 0 == cls.getD (nxT t q k) 0) = true := by simpa using h
      show _ = _
      rw [h, Bool.true_and]
    · rintro b rfl
      refine ⟨fun h => ?_, fun h => ⟨⟨k + 1, wsucc (by omega), hka, fun a ha => ?_⟩, mu_up hka (by omega)⟩⟩
      · rw [Bool.not_eq_true'] at h
        show false = _
        rw [hE, eq_comm, List.all_eq_false]
        exact ⟨k, List.mem_range.2 hka, by rw [h]; decide⟩
      · by_cases e : a = k
        · rw [e]; rwa [Bool.not_eq_false'] at h
        · exact ht a (by omega)
  · have hge := of_decide_eq_false hb
    show true = _
    rw [hE, eq_comm, List.all_eq_true]
    intro a ha
    exact ht a (by have := List.mem_range.1 ha; omega)
def trSame2_vc (p : Int) (domsame : ((Int × Int) → Prop)) (same : ((Int × Int) → Bool)) (q : Int) (Q : Bool → Prop) : Prop :=
  (domsame (p, q)) ∧
  Q (same (p, q))
theorem trSame2_walk (p : Int) (domsame : ((Int × Int) → Prop)) (same : ((Int × Int) → Bool)) (q : Int) (Q : Bool → Prop) (h : trSame2_vc p domsame same q Q) : Ct 190 [.sv (.one (I p)), .sv (.one (.ptr 0 0)), .sv (.one (.ptr 1 0))] [.box [.rd (fvR (fun (x : (Int × Int)) => [.sv (.one (I x.1)), .sv (.one (I x.2))]) (fun (r : Bool) => .sv (.one (B r))) domsame same)] 200 true, .box [I q] 3 true] Q (fun (r : Bool) => .sv (.one (B r))) := by
  have ht := tab_ok
  refine Ct.body Try.func190 rfl rfl rfl rfl (fun c hn => ?_)
  unfold trSame2_vc at h
  refine En.seq ?_
  refine En.region ?_
  refine WL.run ht hn 1 ⟨[(0, .sv (.one (I p))), (1, .sv (.one (.ptr 0 0))), (2, .sv (.one (.ptr 1 0)))], [.box [.rd (fvR (fun (x : (Int × Int)) => [.sv (.one (I x.1)), .sv (.one (I x.2))]) (fun (r : Bool) => .sv (.one (B r))) domsame same)] 200 true, .box [I q] 3 true]⟩ (by kernel_rfl) ?_
  refine WL.nil ?_
  refine En.seq ?_
  refine En.region ?_
  refine WL.run ht hn 3 ⟨[(5, .sv (.one (.rd (fvR (fun (x : (Int × Int)) => [.sv (.one (I x.1)), .sv (.one (I x.2))]) (fun (r : Bool) => .sv (.one (B r))) domsame same)))), (6, .sv (.one (I p))), (7, .sv (.one (I q)))], [.gone, .gone]⟩ (by kernel_rfl) ?_
  have hp := h.1
  replace h := h.2
  refine WL.mt0 (K := []) (p := none) hn (by rfl) (mt_callv (p, q) hp rfl (by rfl) (by rfl) (by rfl) (by rfl)) (by rfl) (by rfl) (by rfl) ?_
  refine WL.run ht hn 1 ⟨[(4, .sv (.one (B (same (p, q)))))], [.gone, .gone]⟩ (by kernel_rfl) ?_
  refine WL.nil ?_
  refine En.ret ?_
  exact En.back ht (same (p, q)) h (by kernel_rfl) rfl
theorem en190 : ∀ args w, (callFunc 190 args).run Try.prog w = .ok (.enter 190 args) w := enters_of Try.func190 (by kernel_rfl) rfl
theorem trSame2_ct (p : Int) (domsame : ((Int × Int) → Prop)) (same : ((Int × Int) → Bool)) (q : Int) (hd : domsame (p, q)) : Ct 190 [.sv (.one (I p)), .sv (.one (.ptr 0 0)), .sv (.one (.ptr 1 0))] [.box [.rd (fvR (fun (x : (Int × Int)) => [.sv (.one (I x.1)), .sv (.one (I x.2))]) (fun (r : Bool) => .sv (.one (B r))) domsame same)] 200 true, .box [I q] 3 true] (fun (_ : Unit) => True) (fun _ => .sv (.one (B (same (p, q))))) := by
  refine (trSame2_walk p domsame same q (fun res_ => res_ = (same (p, q))) ?_).fun
  exact ⟨hd, rfl⟩
def trClasses_vc (t : ApiTrans) (Q : (List Int) → Prop) : Prop :=
  t.fFirst.length ≤ 9223372036854775807 →
  t.fNext.length ≤ 9223372036854775807 →
  t.fSays.length ≤ 9223372036854775807 →
  t.fLast.length ≤ 9223372036854775807 →
  (makeOk (t.fNext.length : Int) (t.fNext.length : Int) 8 ∧
  ∃ (Inv : Int → (List Int) → Prop) (mu : Int → (List Int) → Nat), Inv 1 (List.replicate ((t.fNext.length : Int)).toNat (0 : Int)) ∧
  ∀ (x4 : Int) (l1 : (List Int)) , Inv x4 l1 → (makeOk (l1.length : Int) (l1.length : Int) 8 ∧
  ∃ (Inv_2 : Int → (List Int) → (List Int) → Prop) (mu_2 : Int → (List Int) → (List Int) → Nat), Inv_2 0 (List.replicate ((l1.length : Int)).toNat (0 : Int)) ([] : (List Int)) ∧
  ∀ (x20 : Int) (l3 : (List Int)) (l7 : (List Int)) , Inv_2 x20 l3 l7 → (IfP (decide (x20 < (l1.length : Int))) ((∀ x_ ∈ l7, (fun x_ => (SameDom l1 t) (x_, x20)) x_) ∧
  ∃ J : Int → (List Int) → Prop, (IfP (decide ((idxTo (fun x_ => (fun x_ => sameB t l1 x_.1 x_.2) (x_, x20)) l7) < 0)) (capOk l7.length (([x20] : (List Int)) : (List Int)).length 8 ∧
  J (l7.length : Int) (l7 ++ ([x20] : (List Int)))) (J (idxTo (fun x_ => (fun x_ => sameB t l1 x_.1 x_.2) (x_, x20)) l7) l7)) ∧
  (∀ (x9 : Int) (l7_2 : (List Int)), J x9 l7_2 → ∃ e, idx l3 x20 = some e ∧
  (Inv_2 (wr (x20 + 1)) (l3.set (x20).toNat x9) l7_2 ∧ mu_2 (wr (x20 + 1)) (l3.set (x20).toNat x9) l7_2 < mu_2 x20 l3 l7))) (IfP ((l7.length : Int) == x4) (Q l3) ((Inv (l7.length : Int) l3 ∧ mu (l7.length : Int) l3 < mu x4 l1))))))
theorem trClasses_walk (t : ApiTrans) (Q : (List Int) → Prop) (h : trClasses_vc t Q) : Ct 126 [.sv (.agg [I t.fIn, I t.fOut, I t.fStart, LS intT t.fFirst, LS (lsT intT) t.fNext, LS (lsT (lsT intT)) t.fSays, LS (lsT intT) t.fLast])] [] Q (fun (r : (List Int)) => .sv (.one (LS intT r))) := by
  have ht := tab_ok
  refine Ct.body Try.func126 rfl rfl rfl rfl (fun c hn => ?_)
  unfold trClasses_vc at h
  refine En.lenA 0 3 (by rfl) (by rfl) (fun hl => ?_)
  replace h := h hl
  clear hl
  refine En.lenA 0 4 (by rfl) (by rfl) (fun hl => ?_)
  replace h := h hl
  clear hl
  refine En.lenA 0 5 (by rfl) (by rfl) (fun hl => ?_)
  replace h := h hl
  clear hl
  refine En.lenA 0 6 (by rfl) (by rfl) (fun hl => ?_)
  replace h := h hl
  clear hl
  refine En.seq ?_
  refine En.region ?_
  refine WL.run ht hn 2 ⟨[(1, .sv (.one (.ptr 0 0)))], [.box [I t.fIn, I t.fOut, I t.fStart, LS intT t.fFirst, LS (lsT intT) t.fNext, LS (lsT (lsT intT)) t.fSays, LS (lsT intT) t.fLast] 33 false]⟩ (by kernel_rfl) ?_
  refine WL.nil ?_
  refine En.seq ?_
  refine En.region ?_
  refine WL.run ht hn 3 ⟨[(1, .sv (.one (.ptr 0 0))), (12, .sv (.one (I (t.fNext.length : Int))))], [.box [I t.fIn, I t.fOut, I t.fStart, LS intT t.fFirst, LS (lsT intT) t.fNext, LS (lsT (lsT intT)) t.fSays, LS (lsT intT) t.fLast] 33 false]⟩ (by kernel_rfl) ?_
  have hp := h.1
  replace h := h.2
  refine WL.mt0 (K := []) (p := some (1, rowI 3 intT (List.replicate ((t.fNext.length : Int)).toNat (0 : Int)))) hn (by rfl) (mt_make (T := intT) (0 : Int) (zv := (.int .i64 0)) 1 (l := (t.fNext.length : Int)) (cp := (t.fNext.length : Int)) ht rfl (by rfl) (by rfl) (by rfl) (by rfl) (by decide) (by rfl) (by rfl) hp.1 hp.2.1 hp.2.2 (hp.le (by decide)) rfl (fun _ => ⟨rfl, trivial⟩)) (by rfl) (by rfl) (by rfl) ?_
  refine WL.run ht hn 2 ⟨[(1, .sv (.one (.ptr 0 0))), (3, .sv (.one (.ptr 2 0)))], [.box [I t.fIn, I t.fOut, I t.fStart, LS intT t.fFirst, LS (lsT intT) t.fNext, LS (lsT (lsT intT)) t.fSays, LS (lsT intT) t.fLast] 33 false, rowI 3 intT (List.replicate ((t.fNext.length : Int)).toNat (0 : Int)), .box [.own 1] 23 false]⟩ (by kernel_rfl) ?_
  refine WL.nil ?_
  refine En.seq ?_
  refine En.region ?_
  refine WL.run ht hn 1 ⟨[(1, .sv (.one (.ptr 0 0))), (3, .sv (.one (.ptr 2 0))), (4, .sv (.one (I 1)))], [.box [I t.fIn, I t.fOut, I t.fStart, LS intT t.fFirst, LS (lsT intT) t.fNext, LS (lsT (lsT intT)) t.fSays, LS (lsT intT) t.fLast] 33 false, rowI 3 intT (List.replicate ((t.fNext.length : Int)).toNat (0 : Int)), .box [.own 1] 23 false]⟩ (by kernel_rfl) ?_
  refine WL.nil ?_
  refine En.block ?_
  obtain ⟨Inv, mu, h0_2, hI_2⟩ := h
  refine En.loop (σ := Int × (List Int)) (fun zz => Inv zz.1 zz.2) (fun zz => mu zz.1 zz.2) (fun zz => ⟨[(1, .sv (.one (.ptr 0 0))), (3, .sv (.one (.ptr 2 0))), (4, .sv (.one (I zz.1)))], [.box [I t.fIn, I t.fOut, I t.fStart, LS intT t.fFirst, LS (lsT intT) t.fNext, LS (lsT (lsT intT)) t.fSays, LS (lsT intT) t.fLast] 33 false, rowI 3 intT zz.2, .box [.own 1] 23 false]⟩) (1, (List.replicate ((t.fNext.length : Int)).toNat (0 : Int))) h0_2 (sub_ok (by kernel_rfl)) ?_
  rintro ⟨x4, l1⟩ h
  replace h := hI_2 _ _ h
  show En c ⟨[(1, .sv (.one (.ptr 0 0))), (3, .sv (.one (.ptr 2 0))), (4, .sv (.one (I x4)))], [.box [I t.fIn, I t.fOut, I t.fStart, LS intT t.fFirst, LS (lsT intT) t.fNext, LS (lsT (lsT intT)) t.fSays, LS (lsT intT) t.fLast] 33 false, rowI 3 intT l1, .box [.own 1] 23 false]⟩ _
  refine En.block ?_
  refine En.seq ?_
  refine En.region ?_
  refine WL.run ht hn 1 ⟨[(1, .sv (.one (.ptr 0 0))), (3, .sv (.one (.ptr 2 0))), (4, .sv (.one (I x4))), (5, .sv (.one (.v (.slice none 0 0))))], [.box [I t.fIn, I t.fOut, I t.fStart, LS intT t.fFirst, LS (lsT intT) t.fNext, LS (lsT (lsT intT)) t.fSays, LS (lsT intT) t.fLast] 33 false, rowI 3 intT l1, .box [.own 1] 23 false]⟩ (by kernel_rfl) ?_
  refine WL.nil ?_
  refine En.seq ?_
  refine En.region ?_
  refine WL.run ht hn 2 ⟨[(1, .sv (.one (.ptr 0 0))), (3, .sv (.one (.ptr 2 0))), (4, .sv (.one (I x4))), (5, .sv (.one (.v (.slice none 0 0)))), (15, .sv (.one (I (l1.length : Int))))], [.box [I t.fIn, I t.fOut, I t.fStart, LS intT t.fFirst, LS (lsT intT) t.fNext, LS (lsT (lsT intT)) t.fSays, LS (lsT intT) t.fLast] 33 false, rowI 3 intT l1, .box [.own 1] 23 false]⟩ (by kernel_rfl) ?_
  have hp := h.1
  replace h := h.2
  refine WL.mt0 (K := []) (p := some (3, rowI 3 intT (List.replicate ((l1.length : Int)).toNat (0 : Int)))) hn (by rfl) (mt_make (T := intT) (0 : Int) (zv := (.int .i64 0)) 3 (l := (l1.length : Int)) (cp := (l1.length : Int)) ht rfl (by rfl) (by rfl) (by rfl) (by rfl) (by decide) (by rfl) (by rfl) hp.1 hp.2.1 hp.2.2 (hp.le (by decide)) rfl (fun _ => ⟨rfl, trivial⟩)) (by rfl) (by rfl) (by rfl) ?_
  refine WL.run ht hn 1 ⟨[(1, .sv (.one (.ptr 0 0))), (3, .sv (.one (.ptr 2 0))), (4, .sv (.one (I x4))), (5, .sv (.one (.v (.slice none 0 0)))), (6, .sv (.one (.own 3)))], [.box [I t.fIn, I t.fOut, I t.fStart, LS intT t.fFirst, LS (lsT intT) t.fNext, LS (lsT (lsT intT)) t.fSays, LS (lsT intT) t.fLast] 33 false, rowI 3 intT l1, .box [.own 1] 23 false, rowI 3 intT (List.replicate ((l1.length : Int)).toNat (0 : Int))]⟩ (by kernel_rfl) ?_
  refine WL.nil ?_
  refine En.seq ?_
  refine En.region ?_
  refine WL.run ht hn 3 ⟨[(1, .sv (.one (.ptr 0 0))), (3, .sv (.one (.ptr 2 0))), (4, .sv (.one (I x4))), (5, .sv (.one (.v (.slice none 0 0)))), (6, .sv (.one (.own 3))), (7, .sv (.one (.ptr 4 0)))], [.box [I t.fIn, I t.fOut, I t.fStart, LS intT t.fFirst, LS (lsT intT) t.fNext, LS (lsT (lsT intT)) t.fSays, LS (lsT intT) t.fLast] 33 false, rowI 3 intT l1, .box [.own 1] 23 false, rowI 3 intT (List.replicate ((l1.length : Int)).toNat (0 : Int)), .box [.fn 189 [2, 0]] 200 false]⟩ (by kernel_rfl) ?_
  refine WL.nil ?_
  refine En.seq ?_
  refine En.seq ?_
  refine En.region ?_
  refine WL.run ht hn 3 ⟨[(1, .sv (.one (.ptr 0 0))), (3, .sv (.one (.ptr 2 0))), (4, .sv (.one (I x4))), (5, .sv (.one (.v (.slice none 0 0)))), (6, .sv (.one (.own 3))), (7, .sv (.one (.ptr 4 0))), (19, .sv (.one (I (l1.length : Int)))), (20, .sv (.one (I 0)))], [.box [I t.fIn, I t.fOut, I t.fStart, LS intT t.fFirst, LS (lsT intT) t.fNext, LS (lsT (lsT intT)) t.fSays, LS (lsT intT) t.fLast] 33 false, rowI 3 intT l1, .box [.own 1] 23 false, rowI 3 intT (List.replicate ((l1.length : Int)).toNat (0 : Int)), .box [.fn 189 [2, 0]] 200 false]⟩ (by kernel_rfl) ?_
  refine WL.nil ?_
  refine En.block ?_
  refine En.rowNil 5 7 3 intT (by rfl) (by rfl) ?_
  obtain ⟨Inv_2, mu_2, h0, hI⟩ := h
  refine En.loop (σ := Int × (List Int) × (List Int)) (fun zz => Inv_2 zz.1 zz.2.1 zz.2.2) (fun zz => mu_2 zz.1 zz.2.1 zz.2.2) (fun zz => ⟨[(1, .sv (.one (.ptr 0 0))), (3, .sv (.one (.ptr 2 0))), (4, .sv (.one (I x4))), (5, .sv (.one (.own 7))), (6, .sv (.one (.own 3))), (7, .sv (.one (.ptr 4 0))), (19, .sv (.one (I (l1.length : Int)))), (20, .sv (.one (I zz.1)))], [.box [I t.fIn, I t.fOut, I t.fStart, LS intT t.fFirst, LS (lsT intT) t.fNext, LS (lsT (lsT intT)) t.fSays, LS (lsT intT) t.fLast] 33 false, rowI 3 intT l1, .box [.own 1] 23 false, rowI 3 intT zz.2.1, .box [.fn 189 [2, 0]] 200 false, .gone, .gone, rowI 3 intT zz.2.2]⟩) (0, (List.replicate ((l1.length : Int)).toNat (0 : Int)), ([] : (List Int))) h0 (sub_ok (by kernel_rfl)) ?_
  rintro ⟨x20, l3, l7⟩ h
  replace h := hI _ _ _ h
  show En c ⟨[(1, .sv (.one (.ptr 0 0))), (3, .sv (.one (.ptr 2 0))), (4, .sv (.one (I x4))), (5, .sv (.one (.own 7))), (6, .sv (.one (.own 3))), (7, .sv (.one (.ptr 4 0))), (19, .sv (.one (I (l1.length : Int)))), (20, .sv (.one (I x20)))], [.box [I t.fIn, I t.fOut, I t.fStart, LS intT t.fFirst, LS (lsT intT) t.fNext, LS (lsT (lsT intT)) t.fSays, LS (lsT intT) t.fLast] 33 false, rowI 3 intT l1, .box [.own 1] 23 false, rowI 3 intT l3, .box [.fn 189 [2, 0]] 200 false, .gone, .gone, rowI 3 intT l7]⟩ _
  refine En.seq ?_
  refine En.region ?_
  refine WL.run ht hn 1 ⟨[(1, .sv (.one (.ptr 0 0))), (3, .sv (.one (.ptr 2 0))), (4, .sv (.one (I x4))), (5, .sv (.one (.own 7))), (6, .sv (.one (.own 3))), (7, .sv (.one (.ptr 4 0))), (19, .sv (.one (I (l1.length : Int)))), (20, .sv (.one (I x20))), (21, .sv (.one (B (decide (x20 < (l1.length : Int))))))], [.box [I t.fIn, I t.fOut, I t.fStart, LS intT t.fFirst, LS (lsT intT) t.fNext, LS (lsT (lsT intT)) t.fSays, LS (lsT intT) t.fLast] 33 false, rowI 3 intT l1, .box [.own 1] 23 false, rowI 3 intT l3, .box [.fn 189 [2, 0]] 200 false, .gone, .gone, rowI 3 intT l7]⟩ (by kernel_rfl) ?_
  refine WL.nil ?_
  refine En.seq ?_
  refine En.cond (b := (decide (x20 < (l1.length : Int)))) (by kernel_rfl) (fun hb => ?_) (fun hb => ?_)
  · replace h := h.1 hb
    refine En.skip ?_
    refine En.seq ?_
    refine En.block ?_
    refine En.seq ?_
    refine En.region ?_
    refine WL.run ht hn 3 ⟨[(1, .sv (.one (.ptr 0 0))), (3, .sv (.one (.ptr 2 0))), (4, .sv (.one (I x4))), (5, .sv (.one (.own 7))), (6, .sv (.one (.own 3))), (7, .sv (.one (.ptr 4 0))), (8, .sv (.one (.ptr 8 0))), (19, .sv (.one (I (l1.length : Int)))), (20, .sv (.one (I x20)))], [.box [I t.fIn, I t.fOut, I t.fStart, LS intT t.fFirst, LS (lsT intT) t.fNext, LS (lsT (lsT intT)) t.fSays, LS (lsT intT) t.fLast] 33 false, rowI 3 intT l1, .box [.own 1] 23 false, rowI 3 intT l3, .box [.fn 189 [2, 0]] 200 false, .gone, .gone, rowI 3 intT l7, .box [I x20] 3 false]⟩ (by kernel_rfl) ?_
    refine WL.nil ?_
    refine En.seq ?_
    refine En.region ?_
    refine WL.run ht hn 2 ⟨[(1, .sv (.one (.ptr 0 0))), (3, .sv (.one (.ptr 2 0))), (4, .sv (.one (I x4))), (5, .sv (.one (.own 7))), (6, .sv (.one (.own 3))), (7, .sv (.one (.ptr 4 0))), (8, .sv (.one (.ptr 8 0))), (19, .sv (.one (I (l1.length : Int)))), (20, .sv (.one (I x20))), (23, .sv (.one (.own 7))), (24, .sv (.one (.fn 190 [4, 8])))], [.box [I t.fIn, I t.fOut, I t.fStart, LS intT t.fFirst, LS (lsT intT) t.fNext, LS (lsT (lsT intT)) t.fSays, LS (lsT intT) t.fLast] 33 false, rowI 3 intT l1, .box [.own 1] 23 false, rowI 3 intT l3, .box [.fn 189 [2, 0]] 200 false, .gone, .gone, rowI 3 intT l7, .box [I x20] 3 false]⟩ (by kernel_rfl) ?_
    have hp := h.1
    replace h := h.2
    refine WL.mt0 (K := []) (p := none) hn (by rfl) (mt_lend (T := intT) (l := l7) 7 (by rfl) (by rfl) (mt_lend (T := intT) (l := l1) 1 (by rfl) (by rfl) (mt_lendF [2, 0] (by rfl) (by rfl) (mt_lendB (.rd (fvR (fun (x_ : (Int × Int)) => [.sv (.one (I x_.1)), .sv (.one (I x_.2))]) (fun (r : Bool) => .sv (.one (B r))) (SameDom l1 t) (fun x_ => sameB t l1 x_.1 x_.2))) 4 0 (by rfl) (by rfl) (fv_at (fv_of (M := [.box [LS intT l1] 23 true, .box [I t.fIn, I t.fOut, I t.fStart, LS intT t.fFirst, LS (lsT intT) t.fNext, LS (lsT (lsT intT)) t.fSays, LS (lsT intT) t.fLast] 33 true]) (caps := [2, 0]) (fun x_ hx => trSame_ct x_.1 x_.2 l1 t hx) en189 rfl (by kernel_rfl) (by rfl) (fun _ => rfl))) (mt_lendF [4, 8] (by rfl) (by rfl) (mt_ghost 24 (.sv (.one (.rd (fvR (fun (x_ : Int) => [.sv (.one (I x_))]) (fun (r : Bool) => .sv (.one (B r))) (fun x_ => (SameDom l1 t) (x_, x20)) (fun x_ => (fun x_ => sameB t l1 x_.1 x_.2) (x_, x20)))))) (by rfl) (fv_of (M := [.box [.rd (fvR (fun (x_ : (Int × Int)) => [.sv (.one (I x_.1)), .sv (.one (I x_.2))]) (fun (r : Bool) => .sv (.one (B r))) (SameDom l1 t) (fun x_ => sameB t l1 x_.1 x_.2))] 200 true, .box [I x20] 3 true]) (caps := [4, 8]) (fun x_ hx => trSame2_ct x_ (SameDom l1 t) (fun x_ => sameB t l1 x_.1 x_.2) x20 hx) en190 rfl (by kernel_rfl) (by rfl) (fun _ => rfl)) (mt_call (indexInt_ct l7 (fun x_ => (SameDom l1 t) (x_, x20)) (fun x_ => (fun x_ => sameB t l1 x_.1 x_.2) (x_, x20)) hp) en138 (caps := []) [] rfl (by rfl) (by kernel_rfl) (by kernel_rfl) (by rfl) (by rfl) (by rfl)))))))) (by rfl) (by rfl) (by rfl) ?_
    refine WL.run ht hn 1 ⟨[(1, .sv (.one (.ptr 0 0))), (3, .sv (.one (.ptr 2 0))), (4, .sv (.one (I x4))), (5, .sv (.one (.own 7))), (6, .sv (.one (.own 3))), (7, .sv (.one (.ptr 4 0))), (8, .sv (.one (.ptr 8 0))), (9, .sv (.one (I (idxTo (fun x_ => (fun x_ => sameB t l1 x_.1 x_.2) (x_, x20)) l7)))), (19, .sv (.one (I (l1.length : Int)))), (20, .sv (.one (I x20)))], [.box [I t.fIn, I t.fOut, I t.fStart, LS intT t.fFirst, LS (lsT intT) t.fNext, LS (lsT (lsT intT)) t.fSays, LS (lsT intT) t.fLast] 33 false, rowI 3 intT l1, .box [.own 1] 23 false, rowI 3 intT l3, .box [.fn 189 [2, 0]] 200 false, .gone, .gone, rowI 3 intT l7, .box [I x20] 3 false]⟩ (by kernel_rfl) ?_
    refine WL.nil ?_
    obtain ⟨J, h, hJ⟩ := h
    refine En.seqJ (σ := Int × (List Int)) (fun zz => J zz.1 zz.2) (fun zz => ⟨[(1, .sv (.one (.ptr 0 0))), (3, .sv (.one (.ptr 2 0))), (4, .sv (.one (I x4))), (5, .sv (.one (.own 7))), (6, .sv (.one (.own 3))), (7, .sv (.one (.ptr 4 0))), (8, .sv (.one (.ptr 8 0))), (9, .sv (.one (I zz.1))), (19, .sv (.one (I (l1.length : Int)))), (20, .sv (.one (I x20)))], [.box [I t.fIn, I t.fOut, I t.fStart, LS intT t.fFirst, LS (lsT intT) t.fNext, LS (lsT (lsT intT)) t.fSays, LS (lsT intT) t.fLast] 33 false, rowI 3 intT l1, .box [.own 1] 23 false, rowI 3 intT l3, .box [.fn 189 [2, 0]] 200 false, .gone, .gone, rowI 3 intT zz.2, .box [I x20] 3 false]⟩) ?_ ?_
    · refine En.seq ?_
      refine En.region ?_
      refine WL.run ht hn 2 ⟨[(1, .sv (.one (.ptr 0 0))), (3, .sv (.one (.ptr 2 0))), (4, .sv (.one (I x4))), (5, .sv (.one (.own 7))), (6, .sv (.one (.own 3))), (7, .sv (.one (.ptr 4 0))), (8, .sv (.one (.ptr 8 0))), (9, .sv (.one (I (idxTo (fun x_ => (fun x_ => sameB t l1 x_.1 x_.2) (x_, x20)) l7)))), (19, .sv (.one (I (l1.length : Int)))), (20, .sv (.one (I x20))), (27, .sv (.one (B (decide ((idxTo (fun x_ => (fun x_ => sameB t l1 x_.1 x_.2) (x_, x20)) l7) < 0)))))], [.box [I t.fIn, I t.fOut, I t.fStart, LS intT t.fFirst, LS (lsT intT) t.fNext, LS (lsT (lsT intT)) t.fSays, LS (lsT intT) t.fLast] 33 false, rowI 3 intT l1, .box [.own 1] 23 false, rowI 3 intT l3, .box [.fn 189 [2, 0]] 200 false, .gone, .gone, rowI 3 intT l7, .box [I x20] 3 false]⟩ (by kernel_rfl) ?_
      refine WL.nil ?_
      refine En.cond (b := (decide ((idxTo (fun x_ => (fun x_ => sameB t l1 x_.1 x_.2) (x_, x20)) l7) < 0))) (by kernel_rfl) (fun hb => ?_) (fun hb => ?_)
      · replace h := h.1 hb
        refine En.seq ?_
        refine En.region ?_
        refine WL.run ht hn 3 ⟨[(1, .sv (.one (.ptr 0 0))), (3, .sv (.one (.ptr 2 0))), (4, .sv (.one (I x4))), (5, .sv (.one (.own 7))), (6, .sv (.one (.own 3))), (7, .sv (.one (.ptr 4 0))), (8, .sv (.one (.ptr 8 0))), (9, .sv (.one (I (l7.length : Int)))), (19, .sv (.one (I (l1.length : Int)))), (20, .sv (.one (I x20)))], [.box [I t.fIn, I t.fOut, I t.fStart, LS intT t.fFirst, LS (lsT intT) t.fNext, LS (lsT (lsT intT)) t.fSays, LS (lsT intT) t.fLast] 33 false, rowI 3 intT l1, .box [.own 1] 23 false, rowI 3 intT l3, .box [.fn 189 [2, 0]] 200 false, .gone, .gone, rowI 3 intT l7, .box [I x20] 3 false]⟩ (by kernel_rfl) ?_
        refine WL.nil ?_
        refine En.region ?_
        refine WL.run ht hn 2 ⟨[(1, .sv (.one (.ptr 0 0))), (3, .sv (.one (.ptr 2 0))), (4, .sv (.one (I x4))), (6, .sv (.one (.own 3))), (7, .sv (.one (.ptr 4 0))), (8, .sv (.one (.ptr 8 0))), (9, .sv (.one (I (l7.length : Int)))), (19, .sv (.one (I (l1.length : Int)))), (20, .sv (.one (I x20))), (30, .sv (.one (.own 7))), (31, .sv (.one (I x20)))], [.box [I t.fIn, I t.fOut, I t.fStart, LS intT t.fFirst, LS (lsT intT) t.fNext, LS (lsT (lsT intT)) t.fSays, LS (lsT intT) t.fLast] 33 false, rowI 3 intT l1, .box [.own 1] 23 false, rowI 3 intT l3, .box [.fn 189 [2, 0]] 200 false, .gone, .gone, rowI 3 intT l7, .box [I x20] 3 false]⟩ (by kernel_rfl) ?_
        refine WL.mt0 (K := []) (p := some (9, rowI 3 intT ([x20] : (List Int)))) hn (by rfl) (mt_lit (T := intT) ([x20] : (List Int)) (mt_bsl 9 (r := cellsOf intT ([x20] : (List Int))) ht rfl (by rfl) (by rfl) (by rfl) (by kernel_rfl) (by rfl)) (fun _ h => by cases h) (fun _ => rfl) (fun _ => rfl) (by rfl) (Nat.le_of_ble_eq_true rfl)) (by rfl) (by rfl) (by rfl) ?_
        refine WL.seal (T := intT) (l := ([x20] : (List Int))) (e := 3) 9 rfl ?_
        refine WL.run ht hn 0 ⟨[(1, .sv (.one (.ptr 0 0))), (3, .sv (.one (.ptr 2 0))), (4, .sv (.one (I x4))), (6, .sv (.one (.own 3))), (7, .sv (.one (.ptr 4 0))), (8, .sv (.one (.ptr 8 0))), (9, .sv (.one (I (l7.length : Int)))), (19, .sv (.one (I (l1.length : Int)))), (20, .sv (.one (I x20))), (30, .sv (.one (.own 7))), (31, .sv (.one (I x20))), (32, .sv (.one (LS intT ([x20] : (List Int)))))], [.box [I t.fIn, I t.fOut, I t.fStart, LS intT t.fFirst, LS (lsT intT) t.fNext, LS (lsT (lsT intT)) t.fSays, LS (lsT intT) t.fLast] 33 false, rowI 3 intT l1, .box [.own 1] 23 false, rowI 3 intT l3, .box [.fn 189 [2, 0]] 200 false, .gone, .gone, rowI 3 intT l7, .box [I x20] 3 false, .gone]⟩ (by kernel_rfl) ?_
        have hp := h.1
        replace h := h.2
        refine WL.mt (S2 := ⟨[(1, .sv (.one (.ptr 0 0))), (3, .sv (.one (.ptr 2 0))), (4, .sv (.one (I x4))), (6, .sv (.one (.own 3))), (7, .sv (.one (.ptr 4 0))), (8, .sv (.one (.ptr 8 0))), (9, .sv (.one (I (l7.length : Int)))), (19, .sv (.one (I (l1.length : Int)))), (20, .sv (.one (I x20))), (31, .sv (.one (I x20))), (32, .sv (.one (LS intT ([x20] : (List Int)))))], [.box [I t.fIn, I t.fOut, I t.fStart, LS intT t.fFirst, LS (lsT intT) t.fNext, LS (lsT (lsT intT)) t.fSays, LS (lsT intT) t.fLast] 33 false, rowI 3 intT l1, .box [.own 1] 23 false, rowI 3 intT l3, .box [.fn 189 [2, 0]] 200 false, .gone, .gone, rowI 3 intT l7, .box [I x20] 3 false, .gone]⟩) (K := [7]) (p := some (7, rowI 3 intT (l7 ++ ([x20] : (List Int))))) hn (by rfl) (mt_append (T := intT) (l := l7) (es := ([x20] : (List Int))) ht rfl (by rfl) (by rfl) (by rfl) (by rfl) (by decide) (by rfl) (by rfl) (srcLS (T := intT) (es := ([x20] : (List Int))) (fun _ h => by cases h) (by decide) (by rfl)) (by exact hp) (by exact hp.le (by decide))) (by kernel_rfl) (by rfl) (by rfl) (by rfl) ?_
        refine WL.run ht hn 1 ⟨[(1, .sv (.one (.ptr 0 0))), (3, .sv (.one (.ptr 2 0))), (4, .sv (.one (I x4))), (5, .sv (.one (.own 7))), (6, .sv (.one (.own 3))), (7, .sv (.one (.ptr 4 0))), (8, .sv (.one (.ptr 8 0))), (9, .sv (.one (I (l7.length : Int)))), (19, .sv (.one (I (l1.length : Int)))), (20, .sv (.one (I x20)))], [.box [I t.fIn, I t.fOut, I t.fStart, LS intT t.fFirst, LS (lsT intT) t.fNext, LS (lsT (lsT intT)) t.fSays, LS (lsT intT) t.fLast] 33 false, rowI 3 intT l1, .box [.own 1] 23 false, rowI 3 intT l3, .box [.fn 189 [2, 0]] 200 false, .gone, .gone, rowI 3 intT (l7 ++ ([x20] : (List Int))), .box [I x20] 3 false, .gone]⟩ (by kernel_rfl) ?_
        refine WL.nil ?_
        exact En.at (I := fun zz => J zz.1 zz.2) (T := fun zz => ⟨[(1, .sv (.one (.ptr 0 0))), (3, .sv (.one (.ptr 2 0))), (4, .sv (.one (I x4))), (5, .sv (.one (.own 7))), (6, .sv (.one (.own 3))), (7, .sv (.one (.ptr 4 0))), (8, .sv (.one (.ptr 8 0))), (9, .sv (.one (I zz.1))), (19, .sv (.one (I (l1.length : Int)))), (20, .sv (.one (I x20)))], [.box [I t.fIn, I t.fOut, I t.fStart, LS intT t.fFirst, LS (lsT intT) t.fNext, LS (lsT (lsT intT)) t.fSays, LS (lsT intT) t.fLast] 33 false, rowI 3 intT l1, .box [.own 1] 23 false, rowI 3 intT l3, .box [.fn 189 [2, 0]] 200 false, .gone, .gone, rowI 3 intT zz.2, .box [I x20] 3 false]⟩) ((l7.length : Int), (l7 ++ ([x20] : (List Int)))) h (by kernel_rfl)
      · replace h := h.2 hb
        refine En.skip ?_
        exact En.at (I := fun zz => J zz.1 zz.2) (T := fun zz => ⟨[(1, .sv (.one (.ptr 0 0))), (3, .sv (.one (.ptr 2 0))), (4, .sv (.one (I x4))), (5, .sv (.one (.own 7))), (6, .sv (.one (.own 3))), (7, .sv (.one (.ptr 4 0))), (8, .sv (.one (.ptr 8 0))), (9, .sv (.one (I zz.1))), (19, .sv (.one (I (l1.length : Int)))), (20, .sv (.one (I x20)))], [.box [I t.fIn, I t.fOut, I t.fStart, LS intT t.fFirst, LS (lsT intT) t.fNext, LS (lsT (lsT intT)) t.fSays, LS (lsT intT) t.fLast] 33 false, rowI 3 intT l1, .box [.own 1] 23 false, rowI 3 intT l3, .box [.fn 189 [2, 0]] 200 false, .gone, .gone, rowI 3 intT zz.2, .box [I x20] 3 false]⟩) ((idxTo (fun x_ => (fun x_ => sameB t l1 x_.1 x_.2) (x_, x20)) l7), l7) h (by kernel_rfl)
    · rintro ⟨x9, l7_2⟩ h
      replace h := hJ _ _ h
      show En c ⟨[(1, .sv (.one (.ptr 0 0))), (3, .sv (.one (.ptr 2 0))), (4, .sv (.one (I x4))), (5, .sv (.one (.own 7))), (6, .sv (.one (.own 3))), (7, .sv (.one (.ptr 4 0))), (8, .sv (.one (.ptr 8 0))), (9, .sv (.one (I x9))), (19, .sv (.one (I (l1.length : Int)))), (20, .sv (.one (I x20)))], [.box [I t.fIn, I t.fOut, I t.fStart, LS intT t.fFirst, LS (lsT intT) t.fNext, LS (lsT (lsT intT)) t.fSays, LS (lsT intT) t.fLast] 33 false, rowI 3 intT l1, .box [.own 1] 23 false, rowI 3 intT l3, .box [.fn 189 [2, 0]] 200 false, .gone, .gone, rowI 3 intT l7_2, .box [I x20] 3 false]⟩ _
      refine En.region ?_
      refine WL.run ht hn 3 ⟨[(1, .sv (.one (.ptr 0 0))), (3, .sv (.one (.ptr 2 0))), (4, .sv (.one (I x4))), (5, .sv (.one (.own 7))), (6, .sv (.one (.own 3))), (7, .sv (.one (.ptr 4 0))), (19, .sv (.one (I (l1.length : Int)))), (20, .sv (.one (I x20))), (34, .sv (.one (.own 3))), (35, .sv (.one (I x20))), (36, .sv (.one (I x9)))], [.box [I t.fIn, I t.fOut, I t.fStart, LS intT t.fFirst, LS (lsT intT) t.fNext, LS (lsT (lsT intT)) t.fSays, LS (lsT intT) t.fLast] 33 false, rowI 3 intT l1, .box [.own 1] 23 false, rowI 3 intT l3, .box [.fn 189 [2, 0]] 200 false, .gone, .gone, rowI 3 intT l7_2, .gone]⟩ (by kernel_rfl) ?_
      obtain ⟨e, he, h⟩ := h
      refine WL.val hn (by rfl) (val_indexO (T := intT) (l := l3) (k := x20) ht rfl (by rfl) (by rfl) (by rfl) (by rfl) (by decide) (by rfl) (by rfl) (by rfl) he) (by rfl) ?_
      refine WL.storeO (T := intT) (l := l3) (y := x9) ht hn (by rfl) rfl (by rfl) (by rfl) (fun _ h => by cases h) (by rfl) (by rfl) (idx_lt he) (by rfl) (by rfl) (by rfl) (by rfl) ?_
      refine WL.nil ?_
      refine En.region ?_
      refine WL.run ht hn 2 ⟨[(1, .sv (.one (.ptr 0 0))), (3, .sv (.one (.ptr 2 0))), (4, .sv (.one (I x4))), (5, .sv (.one (.own 7))), (6, .sv (.one (.own 3))), (7, .sv (.one (.ptr 4 0))), (19, .sv (.one (I (l1.length : Int)))), (20, .sv (.one (I (wr (x20 + 1)))))], [.box [I t.fIn, I t.fOut, I t.fStart, LS intT t.fFirst, LS (lsT intT) t.fNext, LS (lsT (lsT intT)) t.fSays, LS (lsT intT) t.fLast] 33 false, rowI 3 intT l1, .box [.own 1] 23 false, rowI 3 intT (l3.set (x20).toNat x9), .box [.fn 189 [2, 0]] 200 false, .gone, .gone, rowI 3 intT l7_2, .gone]⟩ (by kernel_rfl) ?_
      refine WL.nil ?_
      exact En.at (I := fun zz => Inv_2 zz.1 zz.2.1 zz.2.2 ∧ mu_2 zz.1 zz.2.1 zz.2.2 < mu_2 x20 l3 l7) (T := fun zz => ⟨[(1, .sv (.one (.ptr 0 0))), (3, .sv (.one (.ptr 2 0))), (4, .sv (.one (I x4))), (5, .sv (.one (.own 7))), (6, .sv (.one (.own 3))), (7, .sv (.one (.ptr 4 0))), (19, .sv (.one (I (l1.length : Int)))), (20, .sv (.one (I zz.1)))], [.box [I t.fIn, I t.fOut, I t.fStart, LS intT t.fFirst, LS (lsT intT) t.fNext, LS (lsT (lsT intT)) t.fSays, LS (lsT intT) t.fLast] 33 false, rowI 3 intT l1, .box [.own 1] 23 false, rowI 3 intT zz.2.1, .box [.fn 189 [2, 0]] 200 false, .gone, .gone, rowI 3 intT zz.2.2]⟩) ((wr (x20 + 1)), (l3.set (x20).toNat x9), l7_2) h (by kernel_rfl)
  · replace h := h.2 hb
    refine En.exit rfl ?_
    refine En.seq ?_
    refine En.region ?_
    refine WL.run ht hn 2 ⟨[(1, .sv (.one (.ptr 0 0))), (3, .sv (.one (.ptr 2 0))), (4, .sv (.one (I x4))), (5, .sv (.one (.own 7)))], [.box [I t.fIn, I t.fOut, I t.fStart, LS intT t.fFirst, LS (lsT intT) t.fNext, LS (lsT (lsT intT)) t.fSays, LS (lsT intT) t.fLast] 33 false, .gone, .box [.own 3] 23 false, rowI 3 intT l3, .gone, .gone, .gone, rowI 3 intT l7]⟩ (by kernel_rfl) ?_
    refine WL.nil ?_
    refine En.seq ?_
    refine En.seq ?_
    refine En.region ?_
    refine WL.run ht hn 4 ⟨[(1, .sv (.one (.ptr 0 0))), (3, .sv (.one (.ptr 2 0))), (5, .sv (.one (.own 7))), (43, .sv (.one (B ((l7.length : Int) == x4))))], [.box [I t.fIn, I t.fOut, I t.fStart, LS intT t.fFirst, LS (lsT intT) t.fNext, LS (lsT (lsT intT)) t.fSays, LS (lsT intT) t.fLast] 33 false, .gone, .box [.own 3] 23 false, rowI 3 intT l3, .gone, .gone, .gone, rowI 3 intT l7]⟩ (by kernel_rfl) ?_
    refine WL.nil ?_
    refine En.cond (b := ((l7.length : Int) == x4)) (by kernel_rfl) (fun hb => ?_) (fun hb => ?_)
    · replace h := h.1 hb
      refine En.seq ?_
      refine En.region ?_
      refine WL.run ht hn 2 ⟨[(2, .sv (.one (.own 3)))], [.gone, .gone, .gone, rowI 3 intT l3, .gone, .gone, .gone, .gone]⟩ (by kernel_rfl) ?_
      refine WL.nil ?_
      refine En.ret ?_
      refine En.seal (T := intT) (l := l3) (e := 3) 3 rfl ?_
      exact En.back ht l3 h (by kernel_rfl) rfl
    · replace h := h.2 hb
      refine En.skip ?_
      refine En.region ?_
      refine WL.run ht hn 3 ⟨[(1, .sv (.one (.ptr 0 0))), (3, .sv (.one (.ptr 2 0))), (4, .sv (.one (I (l7.length : Int))))], [.box [I t.fIn, I t.fOut, I t.fStart, LS intT t.fFirst, LS (lsT intT) t.fNext, LS (lsT (lsT intT)) t.fSays, LS (lsT intT) t.fLast] 33 false, .gone, .box [.own 3] 23 false, rowI 3 intT l3, .gone, .gone, .gone, .gone]⟩ (by kernel_rfl) ?_
      refine WL.nil ?_
      refine En.move 3 1 (by rfl) (by rfl) ?_
      exact En.at (I := fun zz => Inv zz.1 zz.2 ∧ mu zz.1 zz.2 < mu x4 l1) (T := fun zz => ⟨[(1, .sv (.one (.ptr 0 0))), (3, .sv (.one (.ptr 2 0))), (4, .sv (.one (I zz.1)))], [.box [I t.fIn, I t.fOut, I t.fStart, LS intT t.fFirst, LS (lsT intT) t.fNext, LS (lsT (lsT intT)) t.fSays, LS (lsT intT) t.fLast] 33 false, rowI 3 intT zz.2, .box [.own 1] 23 false]⟩) ((l7.length : Int), l3) h (by kernel_rfl)
theorem en126 : ∀ args w, (callFunc 126 args).run Try.prog w = .ok (.enter 126 args) w := enters_of Try.func126 (by kernel_rfl) rfl
theorem idxTo_cases {α : Type} (p : α → Bool) (l : List α) (z : α) : (∃ k : Nat, idxTo p l = (k : Int) ∧ k < l.length ∧ p (l.getD k z) = true) ∨ (idxTo p l = -1 ∧ ∀ x ∈ l, p x = false) := by
  unfold idxTo
  cases h : l.findIdx? p with
  | none =>
    rw [List.findIdx?_eq_none_iff] at h
    exact .inr ⟨rfl, fun x hx => by simpa using h x hx⟩
  | some k =>
    obtain ⟨hk, hp, _⟩ := List.findIdx?_eq_some_iff_getElem.1 h
    exact .inl ⟨k, rfl, hk, by rw [getD_el hk]; exact hp⟩
structure IsCls (t : ApiTrans) (cls : List Int) : Prop where
  len : cls.length = t.fNext.length
  range : ∀ p, p < t.fNext.length → 0 ≤ cls.getD p 0 ∧ cls.getD p 0 < (t.fNext.length : Int)
  same : ∀ p q, p < t.fNext.length → q < t.fNext.length → (cls.getD p 0 = cls.getD q 0 ↔ keyT t p = keyT t q)
def ClsPreT (t : ApiTrans) : Prop := TrOk t ∧ AllEarly t
theorem trClasses_ok (t : ApiTrans) (hp : ClsPreT t) : trClasses_vc t (IsCls t) := by
  obtain ⟨hok, hE⟩ := hp
  intro _ _ _ _
  have hsz := hok.size
  refine ⟨⟨by omega, by omega, by omega⟩, fun x l => ∃ m : Nat, x = m ∧ m ≤ t.fNext.length ∧ ClsT t m l, fun x _ => t.fNext.length - x.toNat, ⟨1, rfl, by omega, by rw [Int.toNat_natCast]; exact ClsT.start hok⟩, ?_⟩
  rintro x cls ⟨m, rfl, hm, hc⟩
  have hcl := hc.onto.len
  refine ⟨⟨by omega, by omega, by omega⟩, fun i next firsts => ∃ k : Nat, i = k ∧ k ≤ t.fNext.length ∧ FirstsInv t.fNext.length (StepR t cls) k firsts next, fun i _ _ => t.fNext.length - i.toNat, ⟨0, rfl, Nat.zero_le _, FirstsInv.start (by simp [hcl])⟩, ?_⟩
  rintro i next firsts ⟨k, rfl, hk, hF⟩
  have hfs := hF.size
  refine ⟨fun hb => ?_, fun hb => ?_⟩
  · have hlt : k < t.fNext.length := by have := dlt hb; omega
    have hfr : ∀ x ∈ firsts, ∃ r : Nat, r < k ∧ x = (r : Int) := fun x hx => by
      obtain ⟨j, hj, rfl⟩ := List.getElem_of_mem hx
      obtain ⟨r, h1, h2, _⟩ := hF.first j hj
      rw [getD_el hj] at h2
      exact ⟨r, h1, h2⟩
    refine ⟨fun x hx => ?_, fun x9 l7 => FirstsInv t.fNext.length (StepR t cls) (k + 1) l7 (next.set k x9), ?_, ?_⟩
    · obtain ⟨r, h1, rfl⟩ := hfr x hx
      exact ⟨hok, hcl, ⟨by simp only; omega, by simp only; omega⟩, ⟨by simp only; omega, by simp only; omega⟩⟩
    · have hlf := hF.len
      rcases idxTo_cases (fun x_ => (fun x_ : Int × Int => sameB t cls x_.1 x_.2) (x_, (k : Int))) firsts 0 with ⟨j, h1, h2, h3⟩ | ⟨h1, h2⟩
      · rw [h1]
        refine ⟨fun h => absurd (of_decide_eq_true h) (by omega), fun _ => hF.known hlt h2 ?_⟩
        have := sameB_iff.1 h3
        rwa [Int.toNat_natCast] at this
      · rw [h1]
        refine ⟨fun _ => ⟨capOk_of (by simp only [List.length_cons, List.length_nil]; omega), hF.new hlt (fun q _ => StepR.refl q) (fun _ _ _ _ h => h.symm) fun j hj hR => ?_⟩, fun h => absurd h (by decide)⟩
        have h4 := h2 _ (getD_in (z := 0) hj)
        have h5 : sameB t cls (firsts.getD j 0) (k : Int) = true := sameB_iff.2 (by rwa [Int.toNat_natCast])
        rw [show sameB t cls (firsts.getD j 0) (k : Int) = false from h4] at h5
        cases h5
    · intro x9 l7 hF2
      have hlf := hF.len
      refine ⟨_, idx_nat 0 (by omega), ⟨k + 1, wsucc (by omega), hlt, by rw [Int.toNat_natCast]; exact hF2⟩, mu_up hlt (by omega)⟩
  · have hke : k = t.fNext.length := by have := dge hb; omega
    subst hke
    have hR := hF.done (fun _ _ _ _ h => h.symm) (fun _ _ _ _ _ _ h h2 => h.trans h2)
    have hle := hc.le hR
    refine ⟨fun h => ?_, fun h => ?_⟩
    · have h : firsts.length = m := by have : (firsts.length : Int) = (m : Int) := by simpa using h
                                       omega
      rw [h] at hR
      exact ⟨hR.len, fun p hp => by have := hR.range p hp; omega, hc.ends hok hE hR⟩
    · have h : (firsts.length : Int) ≠ (m : Int) := by simpa using h
      refine ⟨⟨firsts.length, rfl, hF.size, hc.next hok hE hR⟩, ?_⟩
      show t.fNext.length - ((firsts.length : Nat) : Int).toNat < t.fNext.length - ((m : Nat) : Int).toNat
      omega
theorem trClasses_ct (t : ApiTrans) (hp : ClsPreT t) : Ct 126 [.sv (.agg [I t.fIn, I t.fOut, I t.fStart, LS intT t.fFirst, LS (lsT intT) t.fNext, LS (lsT (lsT intT)) t.fSays, LS (lsT intT) t.fLast])] [] (IsCls t) (fun (r : (List Int)) => .sv (.one (LS intT r))) := trClasses_walk t (IsCls t) (trClasses_ok t hp)
end Go.Proofs.Ytiinkohfldopbaa

