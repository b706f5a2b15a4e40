/- The mirrors of package timed: what is answered. No condition. -/
import Derived.Test.YtfpdnigihjmohaaTimP
namespace Go.Proofs.Ytfpdnigihjmohaa
open Go.RowKit Go.MapKept
set_option linter.unusedSimpArgs false
set_option linter.unusedVariables false
set_option maxRecDepth 100000

structure CheckOk (t : ApiTimed) : Prop where
  ok : TimedOk t
  goal : 0 ≤ t.fGoal ∧ t.fGoal < (t.fStay.length : Int)
theorem inS_iff {lo hi x : Int} : inS lo hi x = true ↔ lo ≤ x ∧ x ≤ hi := by simp [inS]
theorem check_ct (t : ApiTimed) : Ct 43 [.sv (.agg [LS intT t.fStay, LS ApiEdge.ty t.fEdges, I t.fGoal])] [] (fun r => (r = 0 ↔ CheckOk t)) (fun r => .sv (.one (I r))) := by
  refine check_walk t _ ?_
  intro _ _
  refine ⟨fun hb => ?_, fun hb => ?_⟩
  · constructor
    · intro h; cases h
    · rintro ⟨⟨h1, h2, h3, _⟩, _⟩
      simp at hb
      omega
  · have hb' : 1 ≤ t.fStay.length ∧ t.fStay.length ≤ 8 ∧ t.fEdges.length ≤ 16 := by simp at hb; omega
    have hw : wr ((t.fStay.length : Int) - 1) = t.fStay.length - 1 := wr_in (by omega) (by omega)
    have hed : ∀ e : ApiEdge, edgeOk (t.fStay.length : Int) e = true ↔ (0 ≤ e.fFrom ∧ e.fFrom < (t.fStay.length : Int)) ∧ (0 ≤ e.fTo ∧ e.fTo < (t.fStay.length : Int)) ∧ (0 ≤ e.fLow ∧ e.fLow ≤ 6) ∧ (0 ≤ e.fHigh ∧ e.fHigh ≤ 6) ∧ (0 ≤ e.fOpen ∧ e.fOpen ≤ 1) ∧ (0 ≤ e.fReset ∧ e.fReset ≤ 1) := fun e => by
      unfold edgeOk
      simp only [Bool.and_eq_true, inS_iff, hw]
      omega
    rw [hw]
    refine ⟨fun r => (r = false ↔ CheckOk t), ⟨fun _ _ => trivial, fun ha => ?_, fun ha => ⟨fun _ _ => trivial, fun hb2 => ?_, fun hb2 => ?_⟩⟩, fun r hr => ⟨fun h => ?_, fun h => ?_⟩⟩
    · refine ⟨(fun h => by cases h), fun h => ?_⟩
      obtain ⟨x, hx, hx2⟩ := List.any_eq_true.1 ha
      have := inS_iff.2 (h.ok.stay x hx)
      simp [this] at hx2
    · refine ⟨(fun h => by cases h), fun h => ?_⟩
      obtain ⟨x, hx, hx2⟩ := List.any_eq_true.1 hb2
      have := (hed x).2 (h.ok.edge x hx)
      simp [this] at hx2
    · have s1 : ∀ x ∈ t.fStay, -1 ≤ x ∧ x ≤ 6 := fun x hx => by
        have := List.any_eq_false.1 ha x hx
        exact inS_iff.1 (by simpa using this)
      have s2 : ∀ e ∈ t.fEdges, edgeOk (t.fStay.length : Int) e = true := fun x hx => by
        have := List.any_eq_false.1 hb2 x hx
        simpa using this
      constructor
      · intro h
        have h : inS 0 ((t.fStay.length : Int) - 1) t.fGoal = true := by simpa using h
        have := inS_iff.1 h
        exact ⟨⟨hb'.1, hb'.2.1, hb'.2.2, s1, fun e he => (hed e).1 (s2 e he)⟩, by omega⟩
      · intro h
        have : inS 0 ((t.fStay.length : Int) - 1) t.fGoal = true := inS_iff.2 (by have := h.goal; omega)
        rw [this]
        rfl
    · subst h
      exact ⟨fun h => (by cases h), fun h => (by have := hr.2 h; cases this)⟩
    · subst h
      exact ⟨fun _ => hr.1 rfl, fun _ => rfl⟩
theorem found_ct (t : ApiTimed) (ok : TimedOk t) : CtJ 105 [.sv (.agg [LS intT t.fStay, LS ApiEdge.ty t.fEdges, I t.fGoal])] [] (FoundOk t) (fun r => mapI TimedSpot.enc TimedWay.ty r) := found_walk t _ (found_plain t ok)
def soonest_vc (t : ApiTimed) (Q : (TimedWay × Bool) → Prop) : Prop :=
  t.fStay.length ≤ 9223372036854775807 →
  t.fEdges.length ≤ 9223372036854775807 →
  ((TimedOk t) ∧
  ∀ r : (List (TimedSpot × TimedWay)), (FoundOk t) r →
  (∃ (Inv : Bool → TimedWay → (List (TimedSpot × TimedWay)) → (Option (TimedSpot × TimedWay)) → Prop) (mu : Bool → TimedWay → (List (TimedSpot × TimedWay)) → (Option (TimedSpot × TimedWay)) → Nat), Inv false (TimedWay.mk 0 [] false) r none ∧
  ∀ (x5 : Bool) (y2 : TimedWay) (left : (List (TimedSpot × TimedWay))) (cur : (Option (TimedSpot × TimedWay))) , Inv x5 y2 left cur → ((left = [] → (Q (y2, x5))) ∧ ∀ (l1 : List (TimedSpot × TimedWay)) (y : (TimedSpot × TimedWay)) (l2 : List (TimedSpot × TimedWay)), left = l1 ++ y :: l2 →
  (IfP ((y.1.fPlace == t.fGoal) && ((!x5) || (decide (y.2.fTime < y2.fTime)))) ((Inv true y.2 (l1 ++ l2) (some y) ∧ mu true y.2 (l1 ++ l2) (some y) < mu x5 y2 left cur)) ((Inv x5 y2 (l1 ++ l2) (some y) ∧ mu x5 y2 (l1 ++ l2) (some y) < mu x5 y2 left cur))))))
theorem soonest_walk (t : ApiTimed) (Q : (TimedWay × Bool) → Prop) (h : soonest_vc t Q) : Ct 44 [.sv (.agg [LS intT t.fStay, LS ApiEdge.ty t.fEdges, I t.fGoal])] [] Q (fun (r : (TimedWay × Bool)) => .tup [.agg [I r.1.fTime, LS ApiLeg.ty r.1.fLegs, B r.1.fDone], .one (B r.2)]) := by
  have ht := tab_ok
  refine Ct.body Try.func44 rfl rfl rfl rfl (fun c hn => ?_)
  unfold soonest_vc at h
  refine En.lenA 0 0 (by rfl) (by rfl) (fun hl => ?_)
  replace h := h hl
  clear hl
  refine En.lenA 0 1 (by rfl) (by rfl) (fun hl => ?_)
  replace h := h hl
  clear hl
  refine En.seq ?_
  refine En.region ?_
  refine WL.run ht hn 3 ⟨[(1, .sv (.one (.ptr 0 0))), (2, .sv (.one (.ptr 1 0)))], [.box [LS intT t.fStay, LS ApiEdge.ty t.fEdges, I t.fGoal] 25 false, .box [I 0, .v (.slice none 0 0), B false] 123 false]⟩ (by kernel_rfl) ?_
  refine WL.nil ?_
  refine En.seq ?_
  refine En.region ?_
  refine WL.run ht hn 1 ⟨[(1, .sv (.one (.ptr 0 0))), (2, .sv (.one (.ptr 1 0))), (4, .sv (.one (.ptr 2 0)))], [.box [LS intT t.fStay, LS ApiEdge.ty t.fEdges, I t.fGoal] 25 false, .box [I 0, .v (.slice none 0 0), B false] 123 false, .box [I 0, .v (.slice none 0 0), B false] 123 false]⟩ (by kernel_rfl) ?_
  refine WL.nil ?_
  refine En.seq ?_
  refine En.region ?_
  refine WL.run ht hn 1 ⟨[(1, .sv (.one (.ptr 0 0))), (2, .sv (.one (.ptr 1 0))), (4, .sv (.one (.ptr 2 0))), (5, .sv (.one (B false)))], [.box [LS intT t.fStay, LS ApiEdge.ty t.fEdges, I t.fGoal] 25 false, .box [I 0, .v (.slice none 0 0), B false] 123 false, .box [I 0, .v (.slice none 0 0), B false] 123 false]⟩ (by kernel_rfl) ?_
  refine WL.nil ?_
  refine En.seq ?_
  refine En.seq ?_
  refine En.region ?_
  refine WL.run ht hn 1 ⟨[(1, .sv (.one (.ptr 0 0))), (2, .sv (.one (.ptr 1 0))), (4, .sv (.one (.ptr 2 0))), (5, .sv (.one (B false))), (8, .sv (.agg [LS intT t.fStay, LS ApiEdge.ty t.fEdges, I t.fGoal]))], [.box [LS intT t.fStay, LS ApiEdge.ty t.fEdges, I t.fGoal] 25 false, .box [I 0, .v (.slice none 0 0), B false] 123 false, .box [I 0, .v (.slice none 0 0), B false] 123 false]⟩ (by kernel_rfl) ?_
  have hp := h.1
  replace h := h.2
  refine WL.mtQ (Q := FoundOk t) (x := fun _ => .sv (.one (.own 3))) (p := fun r => some (3, mapI TimedSpot.enc TimedWay.ty r)) hn (by rfl) (mtq_callJ 3 (found_ct t hp) en105 (caps := []) [] (fun _ => rfl) rfl (by rfl) (by kernel_rfl) (by kernel_rfl) (by rfl) (by rfl)) (fun r hr_2 => ⟨by rfl, _, by rfl, ?_⟩)
  replace h := h r hr_2
  refine WL.openM 3 (by rfl) (fun es ck => ?_)
  refine WL.mt0 (K := []) (p := some (4, iterX 3 r es ck r none)) hn (by rfl) (mt_range (enc := TimedSpot.enc) (T := TimedWay.ty) 4 rfl Try.underlying201 (by rfl) (by rfl) (by rfl)) (by rfl) (by rfl) (by rfl) ?_
  refine WL.nil ?_
  refine En.block ?_
  refine En.nilBox (T := ApiLeg.ty) 2 1 (by rfl) (by rfl) ?_
  obtain ⟨Inv, mu, h0, hI⟩ := h
  refine En.loop (σ := Bool × TimedWay × (List (TimedSpot × TimedWay)) × (Option (TimedSpot × TimedWay))) (fun zz => Inv zz.1 zz.2.1 zz.2.2.1 zz.2.2.2) (fun zz => mu zz.1 zz.2.1 zz.2.2.1 zz.2.2.2) (fun zz => ⟨[(1, .sv (.one (.ptr 0 0))), (2, .sv (.one (.ptr 1 0))), (4, .sv (.one (.ptr 2 0))), (5, .sv (.one (B zz.1))), (10, .sv (.one (.own 4)))], [.box [LS intT t.fStay, LS ApiEdge.ty t.fEdges, I t.fGoal] 25 false, .box [I 0, .v (.slice none 0 0), B false] 123 false, .box [I zz.2.1.fTime, LS ApiLeg.ty zz.2.1.fLegs, B zz.2.1.fDone] 123 false, mapX TimedSpot.enc TimedWay.ty r es ck, iterX 3 r es ck zz.2.2.1 zz.2.2.2]⟩) (false, (TimedWay.mk 0 [] false), r, none) h0 (sub_ok (by kernel_rfl)) ?_
  rintro ⟨x5, y2, left, cur⟩ h
  replace h := hI _ _ _ _ h
  show En c ⟨[(1, .sv (.one (.ptr 0 0))), (2, .sv (.one (.ptr 1 0))), (4, .sv (.one (.ptr 2 0))), (5, .sv (.one (B x5))), (10, .sv (.one (.own 4)))], [.box [LS intT t.fStay, LS ApiEdge.ty t.fEdges, I t.fGoal] 25 false, .box [I 0, .v (.slice none 0 0), B false] 123 false, .box [I y2.fTime, LS ApiLeg.ty y2.fLegs, B y2.fDone] 123 false, mapX TimedSpot.enc TimedWay.ty r es ck, iterX 3 r es ck left cur]⟩ _
  refine En.seq ?_
  refine En.region ?_
  refine WL.nextM (enc := TimedSpot.enc) (T := TimedWay.ty) (Tk := TimedSpot.ty) (i := 3) (r := 4) hn (by rfl) rfl (by rfl) (by rfl) (by rfl) TimedSpot.encOk (fun _ => rfl) (by rfl) (fun hl => ?_) (fun l1 y l2 hl => ⟨_, by rfl, ?_⟩)
  · replace h := h.1 hl
    refine WL.run ht hn 1 ⟨[(1, .sv (.one (.ptr 0 0))), (2, .sv (.one (.ptr 1 0))), (4, .sv (.one (.ptr 2 0))), (5, .sv (.one (B x5))), (10, .sv (.one (.own 4))), (12, .sv (.one (B false)))], [.box [LS intT t.fStay, LS ApiEdge.ty t.fEdges, I t.fGoal] 25 false, .box [I 0, .v (.slice none 0 0), B false] 123 false, .box [I y2.fTime, LS ApiLeg.ty y2.fLegs, B y2.fDone] 123 false, mapX TimedSpot.enc TimedWay.ty r es ck, iterX 3 r es ck left cur]⟩ (by kernel_rfl) ?_
    refine WL.nil ?_
    refine En.seq ?_
    refine En.cond (b := false) (by kernel_rfl) (fun hb => ?_) (fun hb => ?_)
    · cases hb
    · refine En.exit rfl ?_
      refine En.seq ?_
      refine En.region ?_
      refine WL.run ht hn 4 ⟨[(2, .sv (.one (.ptr 1 0))), (3, .sv (.one (B x5)))], [.gone, .box [I y2.fTime, LS ApiLeg.ty y2.fLegs, B y2.fDone] 123 false, .gone, .gone, .gone]⟩ (by kernel_rfl) ?_
      refine WL.nil ?_
      refine En.ret ?_
      exact En.back ht (y2, x5) h (by kernel_rfl) rfl
  · replace h := h.2 l1 y l2 hl
    refine WL.run ht hn 1 ⟨[(1, .sv (.one (.ptr 0 0))), (2, .sv (.one (.ptr 1 0))), (4, .sv (.one (.ptr 2 0))), (5, .sv (.one (B x5))), (10, .sv (.one (.own 4))), (12, .sv (.one (B true)))], [.box [LS intT t.fStay, LS ApiEdge.ty t.fEdges, I t.fGoal] 25 false, .box [I 0, .v (.slice none 0 0), B false] 123 false, .box [I y2.fTime, LS ApiLeg.ty y2.fLegs, B y2.fDone] 123 false, mapX TimedSpot.enc TimedWay.ty r es ck, iterX 3 r es ck (l1 ++ l2) (some y)]⟩ (by kernel_rfl) ?_
    refine WL.nil ?_
    refine En.seq ?_
    refine En.cond (b := true) (by kernel_rfl) (fun hb => ?_) (fun hb => ?_)
    · refine En.skip ?_
      refine En.block ?_
      refine En.seq ?_
      refine En.region ?_
      refine WL.val hn (by rfl) (val_entryM (enc := TimedSpot.enc) (T := TimedWay.ty) (Tk := TimedSpot.ty) (y := y) (i := 3) (r := 4) rfl (by rfl) (by rfl) (by rfl) TimedSpot.encOk (fun _ => rfl)) (by rfl) ?_
      refine WL.run ht hn 6 ⟨[(1, .sv (.one (.ptr 0 0))), (2, .sv (.one (.ptr 1 0))), (4, .sv (.one (.ptr 2 0))), (5, .sv (.one (B x5))), (6, .sv (.one (.ptr 5 0))), (7, .sv (.one (.ptr 6 0))), (10, .sv (.one (.own 4)))], [.box [LS intT t.fStay, LS ApiEdge.ty t.fEdges, I t.fGoal] 25 false, .box [I 0, .v (.slice none 0 0), B false] 123 false, .box [I y2.fTime, LS ApiLeg.ty y2.fLegs, B y2.fDone] 123 false, mapX TimedSpot.enc TimedWay.ty r es ck, iterX 3 r es ck (l1 ++ l2) (some y), .box [I y.1.fPlace, I y.1.fClock] 204 false, .box [I y.2.fTime, LS ApiLeg.ty y.2.fLegs, B y.2.fDone] 123 false]⟩ (by kernel_rfl) ?_
      refine WL.nil ?_
      refine En.seq ?_
      refine En.region ?_
      refine WL.run ht hn 6 ⟨[(1, .sv (.one (.ptr 0 0))), (2, .sv (.one (.ptr 1 0))), (4, .sv (.one (.ptr 2 0))), (5, .sv (.one (B x5))), (7, .sv (.one (.ptr 6 0))), (10, .sv (.one (.own 4))), (21, .sv (.one (B (y.1.fPlace == t.fGoal))))], [.box [LS intT t.fStay, LS ApiEdge.ty t.fEdges, I t.fGoal] 25 false, .box [I 0, .v (.slice none 0 0), B false] 123 false, .box [I y2.fTime, LS ApiLeg.ty y2.fLegs, B y2.fDone] 123 false, mapX TimedSpot.enc TimedWay.ty r es ck, iterX 3 r es ck (l1 ++ l2) (some y), .gone, .box [I y.2.fTime, LS ApiLeg.ty y.2.fLegs, B y.2.fDone] 123 false]⟩ (by kernel_rfl) ?_
      refine WL.thru ⟨[(1, .sv (.one (.ptr 0 0))), (2, .sv (.one (.ptr 1 0))), (4, .sv (.one (.ptr 2 0))), (5, .sv (.one (B x5))), (7, .sv (.one (.ptr 6 0))), (10, .sv (.one (.own 4))), (31, .sv (.one (B ((y.1.fPlace == t.fGoal) && ((!x5) || (decide (y.2.fTime < y2.fTime)))))))], [.box [LS intT t.fStay, LS ApiEdge.ty t.fEdges, I t.fGoal] 25 false, .box [I 0, .v (.slice none 0 0), B false] 123 false, .box [I y2.fTime, LS ApiLeg.ty y2.fLegs, B y2.fDone] 123 false, mapX TimedSpot.enc TimedWay.ty r es ck, iterX 3 r es ck (l1 ++ l2) (some y), .gone, .box [I y.2.fTime, LS ApiLeg.ty y.2.fLegs, B y.2.fDone] 123 false]⟩ ?_ ?_
      · refine splitB (y.1.fPlace == t.fGoal) (fun hb0 => ?_) (fun hb0 => ?_)
        · refine WL.setB 21 hb0 (by kernel_rfl) ?_
          refine WL.run ht hn 3 ⟨[(1, .sv (.one (.ptr 0 0))), (2, .sv (.one (.ptr 1 0))), (4, .sv (.one (.ptr 2 0))), (5, .sv (.one (B x5))), (7, .sv (.one (.ptr 6 0))), (10, .sv (.one (.own 4))), (21, .sv (.one (B true))), (24, .sv (.one (B (!x5))))], [.box [LS intT t.fStay, LS ApiEdge.ty t.fEdges, I t.fGoal] 25 false, .box [I 0, .v (.slice none 0 0), B false] 123 false, .box [I y2.fTime, LS ApiLeg.ty y2.fLegs, B y2.fDone] 123 false, mapX TimedSpot.enc TimedWay.ty r es ck, iterX 3 r es ck (l1 ++ l2) (some y), .gone, .box [I y.2.fTime, LS ApiLeg.ty y.2.fLegs, B y.2.fDone] 123 false]⟩ (by kernel_rfl) ?_
          refine splitB (!x5) (fun hb1 => ?_) (fun hb1 => ?_)
          · refine WL.setB 24 hb1 (by kernel_rfl) ?_
            refine WL.run ht hn 7 ⟨[(1, .sv (.one (.ptr 0 0))), (2, .sv (.one (.ptr 1 0))), (4, .sv (.one (.ptr 2 0))), (5, .sv (.one (B x5))), (7, .sv (.one (.ptr 6 0))), (10, .sv (.one (.own 4))), (31, .sv (.one (B true)))], [.box [LS intT t.fStay, LS ApiEdge.ty t.fEdges, I t.fGoal] 25 false, .box [I 0, .v (.slice none 0 0), B false] 123 false, .box [I y2.fTime, LS ApiLeg.ty y2.fLegs, B y2.fDone] 123 false, mapX TimedSpot.enc TimedWay.ty r es ck, iterX 3 r es ck (l1 ++ l2) (some y), .gone, .box [I y.2.fTime, LS ApiLeg.ty y.2.fLegs, B y.2.fDone] 123 false]⟩ (by kernel_rfl) ?_
            exact WL.nil (sub_ok (by simp only [hb0, hb1]; kernel_rfl))
          · refine WL.setB 24 hb1 (by kernel_rfl) ?_
            refine WL.run ht hn 7 ⟨[(1, .sv (.one (.ptr 0 0))), (2, .sv (.one (.ptr 1 0))), (4, .sv (.one (.ptr 2 0))), (5, .sv (.one (B x5))), (7, .sv (.one (.ptr 6 0))), (10, .sv (.one (.own 4))), (31, .sv (.one (B (decide (y.2.fTime < y2.fTime)))))], [.box [LS intT t.fStay, LS ApiEdge.ty t.fEdges, I t.fGoal] 25 false, .box [I 0, .v (.slice none 0 0), B false] 123 false, .box [I y2.fTime, LS ApiLeg.ty y2.fLegs, B y2.fDone] 123 false, mapX TimedSpot.enc TimedWay.ty r es ck, iterX 3 r es ck (l1 ++ l2) (some y), .gone, .box [I y.2.fTime, LS ApiLeg.ty y.2.fLegs, B y.2.fDone] 123 false]⟩ (by kernel_rfl) ?_
            exact WL.nil (sub_ok (by simp only [hb0, hb1]; kernel_rfl))
        · refine WL.setB 21 hb0 (by kernel_rfl) ?_
          refine WL.run ht hn 10 ⟨[(1, .sv (.one (.ptr 0 0))), (2, .sv (.one (.ptr 1 0))), (4, .sv (.one (.ptr 2 0))), (5, .sv (.one (B x5))), (7, .sv (.one (.ptr 6 0))), (10, .sv (.one (.own 4))), (31, .sv (.one (B false)))], [.box [LS intT t.fStay, LS ApiEdge.ty t.fEdges, I t.fGoal] 25 false, .box [I 0, .v (.slice none 0 0), B false] 123 false, .box [I y2.fTime, LS ApiLeg.ty y2.fLegs, B y2.fDone] 123 false, mapX TimedSpot.enc TimedWay.ty r es ck, iterX 3 r es ck (l1 ++ l2) (some y), .gone, .box [I y.2.fTime, LS ApiLeg.ty y.2.fLegs, B y.2.fDone] 123 false]⟩ (by kernel_rfl) ?_
          exact WL.nil (sub_ok (by simp only [hb0]; kernel_rfl))
      · refine En.cond (b := ((y.1.fPlace == t.fGoal) && ((!x5) || (decide (y.2.fTime < y2.fTime))))) (by kernel_rfl) (fun hb => ?_) (fun hb => ?_)
        · replace h := h.1 hb
          refine En.region ?_
          refine WL.run ht hn 3 ⟨[(1, .sv (.one (.ptr 0 0))), (2, .sv (.one (.ptr 1 0))), (4, .sv (.one (.ptr 2 0))), (5, .sv (.one (B true))), (10, .sv (.one (.own 4)))], [.box [LS intT t.fStay, LS ApiEdge.ty t.fEdges, I t.fGoal] 25 false, .box [I 0, .v (.slice none 0 0), B false] 123 false, .box [I y.2.fTime, LS ApiLeg.ty y.2.fLegs, B y.2.fDone] 123 false, mapX TimedSpot.enc TimedWay.ty r es ck, iterX 3 r es ck (l1 ++ l2) (some y), .gone, .gone]⟩ (by kernel_rfl) ?_
          refine WL.nil ?_
          exact En.at (I := fun zz => Inv zz.1 zz.2.1 zz.2.2.1 zz.2.2.2 ∧ mu zz.1 zz.2.1 zz.2.2.1 zz.2.2.2 < mu x5 y2 left cur) (T := fun zz => ⟨[(1, .sv (.one (.ptr 0 0))), (2, .sv (.one (.ptr 1 0))), (4, .sv (.one (.ptr 2 0))), (5, .sv (.one (B zz.1))), (10, .sv (.one (.own 4)))], [.box [LS intT t.fStay, LS ApiEdge.ty t.fEdges, I t.fGoal] 25 false, .box [I 0, .v (.slice none 0 0), B false] 123 false, .box [I zz.2.1.fTime, LS ApiLeg.ty zz.2.1.fLegs, B zz.2.1.fDone] 123 false, mapX TimedSpot.enc TimedWay.ty r es ck, iterX 3 r es ck zz.2.2.1 zz.2.2.2]⟩) (true, y.2, (l1 ++ l2), (some y)) h (by kernel_rfl)
        · replace h := h.2 hb
          refine En.skip ?_
          exact En.at (I := fun zz => Inv zz.1 zz.2.1 zz.2.2.1 zz.2.2.2 ∧ mu zz.1 zz.2.1 zz.2.2.1 zz.2.2.2 < mu x5 y2 left cur) (T := fun zz => ⟨[(1, .sv (.one (.ptr 0 0))), (2, .sv (.one (.ptr 1 0))), (4, .sv (.one (.ptr 2 0))), (5, .sv (.one (B zz.1))), (10, .sv (.one (.own 4)))], [.box [LS intT t.fStay, LS ApiEdge.ty t.fEdges, I t.fGoal] 25 false, .box [I 0, .v (.slice none 0 0), B false] 123 false, .box [I zz.2.1.fTime, LS ApiLeg.ty zz.2.1.fLegs, B zz.2.1.fDone] 123 false, mapX TimedSpot.enc TimedWay.ty r es ck, iterX 3 r es ck zz.2.2.1 zz.2.2.2]⟩) (x5, y2, (l1 ++ l2), (some y)) h (by kernel_rfl)
    · cases hb
theorem en44 : ∀ args w, (callFunc 44 args).run Try.prog w = .ok (.enter 44 args) w := enters_of Try.func44 (by kernel_rfl) rfl
theorem soonest_ct (t : ApiTimed) (ok : TimedOk t) : Ct 44 [.sv (.agg [LS intT t.fStay, LS ApiEdge.ty t.fEdges, I t.fGoal])] [] (fun (r : TimedWay × Bool) => (r.2 = true ↔ Goal t.fStay t.fEdges t.fGoal)) (fun (r : TimedWay × Bool) => .tup [.agg [I r.1.fTime, LS ApiLeg.ty r.1.fLegs, B r.1.fDone], .one (B r.2)]) := by
  refine soonest_walk t _ ?_
  intro _ _
  refine ⟨ok, fun r hr => ?_⟩
  refine ⟨fun b _ left _ => (∀ x ∈ left, x ∈ r) ∧ (b = true → Goal t.fStay t.fEdges t.fGoal) ∧ (b = false → ∀ x ∈ r, x ∉ left → x.1.fPlace ≠ t.fGoal), fun _ _ left _ => left.length, ⟨fun x hx => hx, (fun h => by cases h), fun _ x hx hl => absurd hx hl⟩, ?_⟩
  rintro b v left cur ⟨h1, h2, h3⟩
  refine ⟨fun hnil => ⟨h2, fun hg => ?_⟩, ?_⟩
  · subst hnil
    obtain ⟨s, hs, e⟩ := hg
    cases hb : b with
    | true => rfl
    | false =>
      subst hb
      obtain ⟨x, hx, rfl⟩ := List.mem_map.1 ((hr.2 s).2 hs)
      exact absurd e (h3 rfl x hx (by simp))
  · rintro l1 ⟨s, u⟩ l2 rfl
    have hl' : ∀ x ∈ l1 ++ l2, x ∈ r := fun x hx => h1 x (by rw [List.mem_append, List.mem_cons]; rcases List.mem_append.1 hx with h | h <;> simp [h])
    have hm : (s, u) ∈ r := h1 _ (by simp)
    refine ⟨fun hb => ⟨⟨hl', fun _ => ⟨s, (hr.2 s).1 (List.mem_map.2 ⟨_, hm, rfl⟩), ?_⟩, (fun h => by cases h)⟩, by simp⟩, fun hb => ⟨⟨hl', h2, fun hf x hx hl => ?_⟩, by simp⟩⟩
    · rw [Bool.and_eq_true] at hb
      simpa using hb.1
    · rcases mem_mid (x := (s, u)) hl with rfl | hl
      · subst hf
        simpa using hb
      · exact h3 hf x hx hl
def reach_vc (t : ApiTimed) (Q : ((List ApiLeg) × Bool × Int) → Prop) : Prop :=
  t.fStay.length ≤ 9223372036854775807 →
  t.fEdges.length ≤ 9223372036854775807 →
  (∀ r : Int, (fun (r : Int) => (r = 0 ↔ CheckOk t)) r →
  (IfP (r != 0) (Q ([], false, r)) ((TimedOk t) ∧
  ∀ r_2 : (TimedWay × Bool), (fun (r : TimedWay × Bool) => (r.2 = true ↔ Goal (t).fStay (t).fEdges (t).fGoal)) r_2 →
  (Q (r_2.1.fLegs, r_2.2, 0)))))
theorem reach_walk (t : ApiTimed) (Q : ((List ApiLeg) × Bool × Int) → Prop) (h : reach_vc t Q) : Ct 15 [.sv (.agg [LS intT t.fStay, LS ApiEdge.ty t.fEdges, I t.fGoal])] [] Q (fun (r : ((List ApiLeg) × Bool × Int)) => .tup [.one (LS ApiLeg.ty r.1), .one (B r.2.1), .one (I r.2.2)]) := by
  have ht := tab_ok
  refine Ct.body Try.func15 rfl rfl rfl rfl (fun c hn => ?_)
  unfold reach_vc at h
  refine En.lenA 0 0 (by rfl) (by rfl) (fun hl => ?_)
  replace h := h hl
  clear hl
  refine En.lenA 0 1 (by rfl) (by rfl) (fun hl => ?_)
  replace h := h hl
  clear hl
  refine En.seq ?_
  refine En.region ?_
  refine WL.run ht hn 4 ⟨[(1, .sv (.one (.ptr 0 0)))], [.box [LS intT t.fStay, LS ApiEdge.ty t.fEdges, I t.fGoal] 25 false]⟩ (by kernel_rfl) ?_
  refine WL.nil ?_
  refine En.seq ?_
  refine En.seq ?_
  refine En.region ?_
  refine WL.run ht hn 1 ⟨[(1, .sv (.one (.ptr 0 0))), (7, .sv (.agg [LS intT t.fStay, LS ApiEdge.ty t.fEdges, I t.fGoal]))], [.box [LS intT t.fStay, LS ApiEdge.ty t.fEdges, I t.fGoal] 25 false]⟩ (by kernel_rfl) ?_
  refine WL.mtQ (Q := fun (r : Int) => (r = 0 ↔ CheckOk t)) (x := fun (r : Int) => .sv (.one (I r))) (p := fun _ => none) hn (by rfl) (mtq_call (check_ct t) en43 (caps := []) [] rfl (by rfl) (by kernel_rfl) (by kernel_rfl) (by rfl) (fun _ => rfl) (by rfl)) (fun r hr_2 => ⟨by rfl, _, by rfl, ?_⟩)
  replace h := h r hr_2
  refine WL.run ht hn 1 ⟨[(1, .sv (.one (.ptr 0 0))), (5, .sv (.one (I r)))], [.box [LS intT t.fStay, LS ApiEdge.ty t.fEdges, I t.fGoal] 25 false]⟩ (by kernel_rfl) ?_
  refine WL.nil ?_
  refine En.seq ?_
  refine En.region ?_
  refine WL.run ht hn 2 ⟨[(1, .sv (.one (.ptr 0 0))), (5, .sv (.one (I r))), (10, .sv (.one (B (r != 0))))], [.box [LS intT t.fStay, LS ApiEdge.ty t.fEdges, I t.fGoal] 25 false]⟩ (by kernel_rfl) ?_
  refine WL.nil ?_
  refine En.cond (b := (r != 0)) (by kernel_rfl) (fun hb => ?_) (fun hb => ?_)
  · replace h := h.1 hb
    refine En.seq ?_
    refine En.region ?_
    refine WL.run ht hn 4 ⟨[(2, .sv (.one (.v (.slice none 0 0)))), (3, .sv (.one (B false))), (4, .sv (.one (I r)))], [.gone]⟩ (by kernel_rfl) ?_
    refine WL.nil ?_
    refine En.ret ?_
    refine En.nilLS 2 ApiLeg.ty (by rfl) ?_
    exact En.back ht ([], false, r) h (by kernel_rfl) rfl
  · replace h := h.2 hb
    refine En.skip ?_
    refine En.seq ?_
    refine En.region ?_
    refine WL.run ht hn 1 ⟨[(13, .sv (.agg [LS intT t.fStay, LS ApiEdge.ty t.fEdges, I t.fGoal]))], [.gone]⟩ (by kernel_rfl) ?_
    have hp := h.1
    replace h := h.2
    refine WL.mtQ (Q := fun (r : TimedWay × Bool) => (r.2 = true ↔ Goal (t).fStay (t).fEdges (t).fGoal)) (x := fun (r : (TimedWay × Bool)) => .tup [.agg [I r.1.fTime, LS ApiLeg.ty r.1.fLegs, B r.1.fDone], .one (B r.2)]) (p := fun _ => none) hn (by rfl) (mtq_call (soonest_ct t hp) en44 (caps := []) [] rfl (by rfl) (by kernel_rfl) (by kernel_rfl) (by rfl) (fun _ => rfl) (by rfl)) (fun r_2 hr_2_2 => ⟨by rfl, _, by rfl, ?_⟩)
    replace h := h r_2 hr_2_2
    refine WL.run ht hn 6 ⟨[(3, .sv (.one (B r_2.2))), (6, .sv (.one (.ptr 1 0)))], [.gone, .box [I r_2.1.fTime, LS ApiLeg.ty r_2.1.fLegs, B r_2.1.fDone] 123 false]⟩ (by kernel_rfl) ?_
    refine WL.nil ?_
    refine En.seq ?_
    refine En.region ?_
    refine WL.run ht hn 6 ⟨[(2, .sv (.one (LS ApiLeg.ty r_2.1.fLegs))), (3, .sv (.one (B r_2.2))), (4, .sv (.one (I 0)))], [.gone, .gone]⟩ (by kernel_rfl) ?_
    refine WL.nil ?_
    refine En.ret ?_
    exact En.back ht (r_2.1.fLegs, r_2.2, 0) h (by kernel_rfl) rfl
theorem en15 : ∀ args w, (callFunc 15 args).run Try.prog w = .ok (.enter 15 args) w := enters_of Try.func15 (by kernel_rfl) rfl
def ReachOk (t : ApiTimed) (r : List ApiLeg × Bool × Int) : Prop := (r.2.2 = 0 ↔ CheckOk t) ∧ (r.2.2 = 0 → (r.2.1 = true ↔ Goal t.fStay t.fEdges t.fGoal))
theorem reach_ct (t : ApiTimed) : Ct 15 [.sv (.agg [LS intT t.fStay, LS ApiEdge.ty t.fEdges, I t.fGoal])] [] (ReachOk t) (fun (r : List ApiLeg × Bool × Int) => .tup [.one (LS ApiLeg.ty r.1), .one (B r.2.1), .one (I r.2.2)]) := by
  refine reach_walk t _ ?_
  intro _ _
  intro r hr
  refine ⟨fun hb => ⟨hr, fun h => ?_⟩, fun hb => ?_⟩
  · simp at hb h
    exact absurd h hb
  · have h0 : r = 0 := by simpa using hb
    refine ⟨(hr.1 h0).ok, fun q hq => ⟨⟨fun _ => hr.1 h0, fun _ => rfl⟩, fun _ => hq⟩⟩
def more_vc (t : ApiTimed) (x : ApiEdge) (Q : Bool → Prop) : Prop :=
  t.fStay.length ≤ 9223372036854775807 →
  t.fEdges.length ≤ 9223372036854775807 →
  (∀ r : ((List ApiLeg) × Bool × Int), (ReachOk (ApiTimed.mk ([0, (-1)] : (List Int)) ([(ApiEdge.mk 0 1 0 1 0 0)] : (List ApiEdge)) 1)) r →
  (IfP ((r.2.2 != 0) || (!r.2.1)) (Q false) (∀ r_2 : ((List ApiLeg) × Bool × Int), (ReachOk t) r_2 →
  (IfP (r_2.2.2 != 0) (Q true) (capOk ([] : (List ApiEdge)).length (t.fEdges : (List ApiEdge)).length 48 ∧
  capOk (([] : (List ApiEdge)) ++ t.fEdges).length (([x] : (List ApiEdge)) : (List ApiEdge)).length 48 ∧
  ∀ r_3 : ((List ApiLeg) × Bool × Int), (ReachOk (ApiTimed.mk t.fStay ((([] : (List ApiEdge)) ++ t.fEdges) ++ ([x] : (List ApiEdge))) t.fGoal)) r_3 →
  (Q (((r_3.2.2 != 0) || (!r_2.2.1)) || r_3.2.1)))))))
theorem more_walk (t : ApiTimed) (x : ApiEdge) (Q : Bool → Prop) (h : more_vc t x Q) : Ct 3 [.sv (.agg [LS intT t.fStay, LS ApiEdge.ty t.fEdges, I t.fGoal]), .sv (.agg [I x.fFrom, I x.fTo, I x.fLow, I x.fHigh, I x.fOpen, I x.fReset])] [] Q (fun (r : Bool) => .sv (.one (B r))) := by
  have ht := tab_ok
  refine Ct.body Try.func3 rfl rfl rfl rfl (fun c hn => ?_)
  unfold more_vc at h
  refine En.lenA 0 0 (by rfl) (by rfl) (fun hl => ?_)
  replace h := h hl
  clear hl
  refine En.lenA 0 1 (by rfl) (by rfl) (fun hl => ?_)
  replace h := h hl
  clear hl
  refine En.seq ?_
  refine En.region ?_
  refine WL.run ht hn 3 ⟨[(2, .sv (.one (.ptr 0 0))), (3, .sv (.one (.ptr 1 0)))], [.box [LS intT t.fStay, LS ApiEdge.ty t.fEdges, I t.fGoal] 25 false, .box [I x.fFrom, I x.fTo, I x.fLow, I x.fHigh, I x.fOpen, I x.fReset] 27 false]⟩ (by kernel_rfl) ?_
  refine WL.nil ?_
  refine En.seq ?_
  refine En.region ?_
  refine WL.mt0 (K := []) (p := some (2, rowI 3 intT ([0, (-1)] : (List Int)))) hn (by rfl) (mt_lit (T := intT) ([0, (-1)] : (List Int)) (mt_bsl 2 (r := cellsOf intT ([0, (-1)] : (List Int))) ht rfl (by rfl) (by rfl) (by rfl) (by kernel_rfl) (by rfl)) (fun _ h => by cases h) (fun _ => rfl) (fun _ => rfl) (by rfl) (Nat.le_of_ble_eq_true rfl)) (by rfl) (by rfl) (by rfl) ?_
  refine WL.run ht hn 1 ⟨[(2, .sv (.one (.ptr 0 0))), (3, .sv (.one (.ptr 1 0))), (12, .sv (.one (.own 2))), (13, .sv (.agg [I 0, I 1, I 0, I 1, I 0, I 0]))], [.box [LS intT t.fStay, LS ApiEdge.ty t.fEdges, I t.fGoal] 25 false, .box [I x.fFrom, I x.fTo, I x.fLow, I x.fHigh, I x.fOpen, I x.fReset] 27 false, rowI 3 intT ([0, (-1)] : (List Int))]⟩ (by kernel_rfl) ?_
  refine WL.mt0 (K := []) (p := some (3, rowI 27 ApiEdge.ty ([(ApiEdge.mk 0 1 0 1 0 0)] : (List ApiEdge)))) hn (by rfl) (mt_lit (T := ApiEdge.ty) ([(ApiEdge.mk 0 1 0 1 0 0)] : (List ApiEdge)) (mt_bsl 3 (r := cellsOf ApiEdge.ty ([(ApiEdge.mk 0 1 0 1 0 0)] : (List ApiEdge))) ht rfl (by rfl) (by rfl) (by rfl) (by kernel_rfl) (by rfl)) (fun _ h => by cases h) (fun _ => rfl) (fun _ => rfl) (by rfl) (Nat.le_of_ble_eq_true rfl)) (by rfl) (by rfl) (by rfl) ?_
  refine WL.run ht hn 1 ⟨[(2, .sv (.one (.ptr 0 0))), (3, .sv (.one (.ptr 1 0))), (15, .sv (.agg [.own 2, .own 3, I 1]))], [.box [LS intT t.fStay, LS ApiEdge.ty t.fEdges, I t.fGoal] 25 false, .box [I x.fFrom, I x.fTo, I x.fLow, I x.fHigh, I x.fOpen, I x.fReset] 27 false, rowI 3 intT ([0, (-1)] : (List Int)), rowI 27 ApiEdge.ty ([(ApiEdge.mk 0 1 0 1 0 0)] : (List ApiEdge))]⟩ (by kernel_rfl) ?_
  refine WL.seal 2 (by rfl) ?_
  refine WL.seal 3 (by rfl) ?_
  refine WL.mtQ (Q := ReachOk (ApiTimed.mk ([0, (-1)] : (List Int)) ([(ApiEdge.mk 0 1 0 1 0 0)] : (List ApiEdge)) 1)) (x := fun (r : ((List ApiLeg) × Bool × Int)) => .tup [.one (LS ApiLeg.ty r.1), .one (B r.2.1), .one (I r.2.2)]) (p := fun _ => none) hn (by rfl) (mtq_call (reach_ct (ApiTimed.mk ([0, (-1)] : (List Int)) ([(ApiEdge.mk 0 1 0 1 0 0)] : (List ApiEdge)) 1)) en15 (caps := []) [] rfl (by rfl) (by kernel_rfl) (by kernel_rfl) (by rfl) (fun _ => rfl) (by rfl)) (fun r hr_2 => ⟨by rfl, _, by rfl, ?_⟩)
  replace h := h r hr_2
  refine WL.run ht hn 7 ⟨[(2, .sv (.one (.ptr 0 0))), (3, .sv (.one (.ptr 1 0))), (6, .sv (.one (B r.2.1))), (7, .sv (.one (I r.2.2)))], [.box [LS intT t.fStay, LS ApiEdge.ty t.fEdges, I t.fGoal] 25 false, .box [I x.fFrom, I x.fTo, I x.fLow, I x.fHigh, I x.fOpen, I x.fReset] 27 false, .gone, .gone]⟩ (by kernel_rfl) ?_
  refine WL.nil ?_
  refine En.seq ?_
  refine En.seq ?_
  refine En.region ?_
  refine WL.run ht hn 3 ⟨[(2, .sv (.one (.ptr 0 0))), (3, .sv (.one (.ptr 1 0))), (6, .sv (.one (B r.2.1))), (22, .sv (.one (B (r.2.2 != 0))))], [.box [LS intT t.fStay, LS ApiEdge.ty t.fEdges, I t.fGoal] 25 false, .box [I x.fFrom, I x.fTo, I x.fLow, I x.fHigh, I x.fOpen, I x.fReset] 27 false, .gone, .gone]⟩ (by kernel_rfl) ?_
  refine WL.thru ⟨[(2, .sv (.one (.ptr 0 0))), (3, .sv (.one (.ptr 1 0))), (25, .sv (.one (B ((r.2.2 != 0) || (!r.2.1)))))], [.box [LS intT t.fStay, LS ApiEdge.ty t.fEdges, I t.fGoal] 25 false, .box [I x.fFrom, I x.fTo, I x.fLow, I x.fHigh, I x.fOpen, I x.fReset] 27 false, .gone, .gone]⟩ ?_ ?_
  · refine splitB (r.2.2 != 0) (fun hb0 => ?_) (fun hb0 => ?_)
    · refine WL.setB 22 hb0 (by kernel_rfl) ?_
      refine WL.run ht hn 3 ⟨[(2, .sv (.one (.ptr 0 0))), (3, .sv (.one (.ptr 1 0))), (25, .sv (.one (B true)))], [.box [LS intT t.fStay, LS ApiEdge.ty t.fEdges, I t.fGoal] 25 false, .box [I x.fFrom, I x.fTo, I x.fLow, I x.fHigh, I x.fOpen, I x.fReset] 27 false, .gone, .gone]⟩ (by kernel_rfl) ?_
      exact WL.nil (sub_ok (by simp only [hb0]; kernel_rfl))
    · refine WL.setB 22 hb0 (by kernel_rfl) ?_
      refine WL.run ht hn 3 ⟨[(2, .sv (.one (.ptr 0 0))), (3, .sv (.one (.ptr 1 0))), (25, .sv (.one (B (!r.2.1))))], [.box [LS intT t.fStay, LS ApiEdge.ty t.fEdges, I t.fGoal] 25 false, .box [I x.fFrom, I x.fTo, I x.fLow, I x.fHigh, I x.fOpen, I x.fReset] 27 false, .gone, .gone]⟩ (by kernel_rfl) ?_
      exact WL.nil (sub_ok (by simp only [hb0]; kernel_rfl))
  · refine En.cond (b := ((r.2.2 != 0) || (!r.2.1))) (by kernel_rfl) (fun hb => ?_) (fun hb => ?_)
    · replace h := h.1 hb
      refine En.seq ?_
      refine En.region ?_
      refine WL.run ht hn 1 ⟨[(4, .sv (.one (B false)))], [.gone, .gone, .gone, .gone]⟩ (by kernel_rfl) ?_
      refine WL.nil ?_
      refine En.ret ?_
      exact En.back ht false h (by kernel_rfl) rfl
    · replace h := h.2 hb
      refine En.skip ?_
      refine En.seq ?_
      refine En.region ?_
      refine WL.run ht hn 1 ⟨[(2, .sv (.one (.ptr 0 0))), (3, .sv (.one (.ptr 1 0))), (27, .sv (.agg [LS intT t.fStay, LS ApiEdge.ty t.fEdges, I t.fGoal]))], [.box [LS intT t.fStay, LS ApiEdge.ty t.fEdges, I t.fGoal] 25 false, .box [I x.fFrom, I x.fTo, I x.fLow, I x.fHigh, I x.fOpen, I x.fReset] 27 false, .gone, .gone]⟩ (by kernel_rfl) ?_
      refine WL.mtQ (Q := ReachOk t) (x := fun (r : ((List ApiLeg) × Bool × Int)) => .tup [.one (LS ApiLeg.ty r.1), .one (B r.2.1), .one (I r.2.2)]) (p := fun _ => none) hn (by rfl) (mtq_call (reach_ct t) en15 (caps := []) [] rfl (by rfl) (by kernel_rfl) (by kernel_rfl) (by rfl) (fun _ => rfl) (by rfl)) (fun r_2 hr_2_2 => ⟨by rfl, _, by rfl, ?_⟩)
      replace h := h r_2 hr_2_2
      refine WL.run ht hn 6 ⟨[(2, .sv (.one (.ptr 0 0))), (3, .sv (.one (.ptr 1 0))), (6, .sv (.one (B r_2.2.1))), (7, .sv (.one (I r_2.2.2)))], [.box [LS intT t.fStay, LS ApiEdge.ty t.fEdges, I t.fGoal] 25 false, .box [I x.fFrom, I x.fTo, I x.fLow, I x.fHigh, I x.fOpen, I x.fReset] 27 false, .gone, .gone]⟩ (by kernel_rfl) ?_
      refine WL.nil ?_
      refine En.seq ?_
      refine En.seq ?_
      refine En.region ?_
      refine WL.run ht hn 2 ⟨[(2, .sv (.one (.ptr 0 0))), (3, .sv (.one (.ptr 1 0))), (6, .sv (.one (B r_2.2.1))), (33, .sv (.one (B (r_2.2.2 != 0))))], [.box [LS intT t.fStay, LS ApiEdge.ty t.fEdges, I t.fGoal] 25 false, .box [I x.fFrom, I x.fTo, I x.fLow, I x.fHigh, I x.fOpen, I x.fReset] 27 false, .gone, .gone]⟩ (by kernel_rfl) ?_
      refine WL.nil ?_
      refine En.cond (b := (r_2.2.2 != 0)) (by kernel_rfl) (fun hb => ?_) (fun hb => ?_)
      · replace h := h.1 hb
        refine En.seq ?_
        refine En.region ?_
        refine WL.run ht hn 1 ⟨[(4, .sv (.one (B true)))], [.gone, .gone, .gone, .gone]⟩ (by kernel_rfl) ?_
        refine WL.nil ?_
        refine En.ret ?_
        exact En.back ht true h (by kernel_rfl) rfl
      · replace h := h.2 hb
        refine En.skip ?_
        refine En.seq ?_
        refine En.region ?_
        refine WL.run ht hn 3 ⟨[(2, .sv (.one (.ptr 0 0))), (3, .sv (.one (.ptr 1 0))), (6, .sv (.one (B r_2.2.1))), (8, .sv (.one (.ptr 4 0)))], [.box [LS intT t.fStay, LS ApiEdge.ty t.fEdges, I t.fGoal] 25 false, .box [I x.fFrom, I x.fTo, I x.fLow, I x.fHigh, I x.fOpen, I x.fReset] 27 false, .gone, .gone, .box [LS intT t.fStay, LS ApiEdge.ty t.fEdges, I t.fGoal] 25 false]⟩ (by kernel_rfl) ?_
        refine WL.nil ?_
        refine En.seq ?_
        refine En.region ?_
        refine WL.mt0 (K := []) (p := some (5, rowI 27 ApiEdge.ty ([] : (List ApiEdge)))) hn (by rfl) (mt_empty ApiEdge.ty 5 ht rfl (by rfl) (by rfl) (by rfl)) (by rfl) (by rfl) (by rfl) ?_
        refine WL.run ht hn 2 ⟨[(3, .sv (.one (.ptr 1 0))), (6, .sv (.one (B r_2.2.1))), (8, .sv (.one (.ptr 4 0))), (35, .sv (.one (.own 5))), (37, .sv (.one (LS ApiEdge.ty t.fEdges)))], [.gone, .box [I x.fFrom, I x.fTo, I x.fLow, I x.fHigh, I x.fOpen, I x.fReset] 27 false, .gone, .gone, .box [LS intT t.fStay, LS ApiEdge.ty t.fEdges, I t.fGoal] 25 false, rowI 27 ApiEdge.ty ([] : (List ApiEdge))]⟩ (by kernel_rfl) ?_
        have hp := h.1
        replace h := h.2
        refine WL.mt (S2 := ⟨[(3, .sv (.one (.ptr 1 0))), (6, .sv (.one (B r_2.2.1))), (8, .sv (.one (.ptr 4 0))), (37, .sv (.one (LS ApiEdge.ty t.fEdges)))], [.gone, .box [I x.fFrom, I x.fTo, I x.fLow, I x.fHigh, I x.fOpen, I x.fReset] 27 false, .gone, .gone, .box [LS intT t.fStay, LS ApiEdge.ty t.fEdges, I t.fGoal] 25 false, rowI 27 ApiEdge.ty ([] : (List ApiEdge))]⟩) (K := [5]) (p := some (5, rowI 27 ApiEdge.ty (([] : (List ApiEdge)) ++ t.fEdges))) hn (by rfl) (mt_append (T := ApiEdge.ty) (l := ([] : (List ApiEdge))) (es := t.fEdges) ht rfl (by rfl) (by rfl) (by rfl) (by rfl) (by decide) (by rfl) (by rfl) (srcLS (T := ApiEdge.ty) (es := t.fEdges) (fun _ h => by cases h) (by decide) (by rfl)) (by exact hp) (by exact hp.le (by decide))) (by kernel_rfl) (by rfl) (by rfl) (by rfl) ?_
        refine WL.run ht hn 2 ⟨[(3, .sv (.one (.ptr 1 0))), (6, .sv (.one (B r_2.2.1))), (8, .sv (.one (.ptr 4 0)))], [.gone, .box [I x.fFrom, I x.fTo, I x.fLow, I x.fHigh, I x.fOpen, I x.fReset] 27 false, .gone, .gone, .box [LS intT t.fStay, .own 5, I t.fGoal] 25 false, rowI 27 ApiEdge.ty (([] : (List ApiEdge)) ++ t.fEdges)]⟩ (by kernel_rfl) ?_
        refine WL.nil ?_
        refine En.seq ?_
        refine En.region ?_
        refine WL.run ht hn 3 ⟨[(6, .sv (.one (B r_2.2.1))), (8, .sv (.one (.ptr 4 0))), (41, .sv (.one (.own 5))), (42, .sv (.agg [I x.fFrom, I x.fTo, I x.fLow, I x.fHigh, I x.fOpen, I x.fReset]))], [.gone, .gone, .gone, .gone, .box [LS intT t.fStay, .own 5, I t.fGoal] 25 false, rowI 27 ApiEdge.ty (([] : (List ApiEdge)) ++ t.fEdges)]⟩ (by kernel_rfl) ?_
        refine WL.mt0 (K := []) (p := some (6, rowI 27 ApiEdge.ty ([x] : (List ApiEdge)))) hn (by rfl) (mt_lit (T := ApiEdge.ty) ([x] : (List ApiEdge)) (mt_bsl 6 (r := cellsOf ApiEdge.ty ([x] : (List ApiEdge))) ht rfl (by rfl) (by rfl) (by rfl) (by kernel_rfl) (by rfl)) (fun _ h => by cases h) (fun _ => rfl) (fun _ => rfl) (by rfl) (Nat.le_of_ble_eq_true rfl)) (by rfl) (by rfl) (by rfl) ?_
        refine WL.seal 6 (by rfl) ?_
        refine WL.junk 4 1 (by rfl) ?_
        have hp := h.1
        replace h := h.2
        refine WL.mt (S2 := ⟨[(6, .sv (.one (B r_2.2.1))), (8, .sv (.one (.ptr 4 0))), (42, .sv (.agg [I x.fFrom, I x.fTo, I x.fLow, I x.fHigh, I x.fOpen, I x.fReset])), (43, .sv (.one (LS ApiEdge.ty ([x] : (List ApiEdge)))))], [.gone, .gone, .gone, .gone, .box [LS intT t.fStay, .junk, I t.fGoal] 25 false, rowI 27 ApiEdge.ty (([] : (List ApiEdge)) ++ t.fEdges), .gone]⟩) (K := [5]) (p := some (5, rowI 27 ApiEdge.ty ((([] : (List ApiEdge)) ++ t.fEdges) ++ ([x] : (List ApiEdge))))) hn (by rfl) (mt_append (T := ApiEdge.ty) (l := (([] : (List ApiEdge)) ++ t.fEdges)) (es := ([x] : (List ApiEdge))) ht rfl (by rfl) (by rfl) (by rfl) (by rfl) (by decide) (by rfl) (by rfl) (srcLS (T := ApiEdge.ty) (es := ([x] : (List ApiEdge))) (fun _ h => by cases h) (by decide) (by rfl)) (by exact hp) (by exact hp.le (by decide))) (by kernel_rfl) (by rfl) (by rfl) (by rfl) ?_
        refine WL.run ht hn 2 ⟨[(6, .sv (.one (B r_2.2.1))), (8, .sv (.one (.ptr 4 0)))], [.gone, .gone, .gone, .gone, .box [LS intT t.fStay, .own 5, I t.fGoal] 25 false, rowI 27 ApiEdge.ty ((([] : (List ApiEdge)) ++ t.fEdges) ++ ([x] : (List ApiEdge))), .gone]⟩ (by kernel_rfl) ?_
        refine WL.nil ?_
        refine En.seq ?_
        refine En.region ?_
        refine WL.run ht hn 1 ⟨[(6, .sv (.one (B r_2.2.1))), (47, .sv (.agg [LS intT t.fStay, .own 5, I t.fGoal]))], [.gone, .gone, .gone, .gone, .gone, rowI 27 ApiEdge.ty ((([] : (List ApiEdge)) ++ t.fEdges) ++ ([x] : (List ApiEdge))), .gone]⟩ (by kernel_rfl) ?_
        refine WL.seal 5 (by rfl) ?_
        refine WL.mtQ (Q := ReachOk (ApiTimed.mk t.fStay ((([] : (List ApiEdge)) ++ t.fEdges) ++ ([x] : (List ApiEdge))) t.fGoal)) (x := fun (r : ((List ApiLeg) × Bool × Int)) => .tup [.one (LS ApiLeg.ty r.1), .one (B r.2.1), .one (I r.2.2)]) (p := fun _ => none) hn (by rfl) (mtq_call (reach_ct (ApiTimed.mk t.fStay ((([] : (List ApiEdge)) ++ t.fEdges) ++ ([x] : (List ApiEdge))) t.fGoal)) en15 (caps := []) [] rfl (by rfl) (by kernel_rfl) (by kernel_rfl) (by rfl) (fun _ => rfl) (by rfl)) (fun r_3 hr_3 => ⟨by rfl, _, by rfl, ?_⟩)
        replace h := h r_3 hr_3
        refine WL.run ht hn 7 ⟨[(6, .sv (.one (B r_2.2.1))), (7, .sv (.one (I r_3.2.2))), (10, .sv (.one (B r_3.2.1)))], [.gone, .gone, .gone, .gone, .gone, .gone, .gone]⟩ (by kernel_rfl) ?_
        refine WL.nil ?_
        refine En.seq ?_
        refine En.region ?_
        refine WL.run ht hn 3 ⟨[(6, .sv (.one (B r_2.2.1))), (10, .sv (.one (B r_3.2.1))), (54, .sv (.one (B (r_3.2.2 != 0))))], [.gone, .gone, .gone, .gone, .gone, .gone, .gone]⟩ (by kernel_rfl) ?_
        refine WL.thru ⟨[(4, .sv (.one (B (((r_3.2.2 != 0) || (!r_2.2.1)) || r_3.2.1))))], [.gone, .gone, .gone, .gone, .gone, .gone, .gone]⟩ ?_ ?_
        · refine splitB (r_3.2.2 != 0) (fun hb0 => ?_) (fun hb0 => ?_)
          · refine WL.setB 54 hb0 (by kernel_rfl) ?_
            refine WL.run ht hn 7 ⟨[(4, .sv (.one (B true)))], [.gone, .gone, .gone, .gone, .gone, .gone, .gone]⟩ (by kernel_rfl) ?_
            exact WL.nil (sub_ok (by simp only [hb0]; kernel_rfl))
          · refine WL.setB 54 hb0 (by kernel_rfl) ?_
            refine WL.run ht hn 4 ⟨[(10, .sv (.one (B r_3.2.1))), (58, .sv (.one (B (!r_2.2.1))))], [.gone, .gone, .gone, .gone, .gone, .gone, .gone]⟩ (by kernel_rfl) ?_
            refine splitB (!r_2.2.1) (fun hb1 => ?_) (fun hb1 => ?_)
            · refine WL.setB 58 hb1 (by kernel_rfl) ?_
              refine WL.run ht hn 3 ⟨[(4, .sv (.one (B true)))], [.gone, .gone, .gone, .gone, .gone, .gone, .gone]⟩ (by kernel_rfl) ?_
              exact WL.nil (sub_ok (by simp only [hb0, hb1]; kernel_rfl))
            · refine WL.setB 58 hb1 (by kernel_rfl) ?_
              refine WL.run ht hn 3 ⟨[(4, .sv (.one (B r_3.2.1)))], [.gone, .gone, .gone, .gone, .gone, .gone, .gone]⟩ (by kernel_rfl) ?_
              exact WL.nil (sub_ok (by simp only [hb0, hb1]; kernel_rfl))
        · refine En.ret ?_
          exact En.back ht (((r_3.2.2 != 0) || (!r_2.2.1)) || r_3.2.1) h (by kernel_rfl) rfl
theorem en3 : ∀ args w, (callFunc 3 args).run Try.prog w = .ok (.enter 3 args) w := enters_of Try.func3 (by kernel_rfl) rfl
theorem more_ct (t : ApiTimed) (x : ApiEdge) : Ct 3 [.sv (.agg [LS intT t.fStay, LS ApiEdge.ty t.fEdges, I t.fGoal]), .sv (.agg [I x.fFrom, I x.fTo, I x.fLow, I x.fHigh, I x.fOpen, I x.fReset])] [] (fun (_ : Unit) => True) (fun _ => .sv (.one (B true))) := by
  refine (more_walk t x (fun r => r = true) ?_).fun
  intro _ _
  intro r hr
  refine ⟨fun hb => ?_, fun _ => ?_⟩
  · exfalso
    have c0 : CheckOk (ApiTimed.mk [0, -1] [ApiEdge.mk 0 1 0 1 0 0] 1) := ⟨⟨by decide, by decide, by decide, by decide, by decide⟩, by decide⟩
    have h0 := hr.1.2 c0
    have hg : Goal [0, -1] [ApiEdge.mk 0 1 0 1 0 0] 1 := ⟨⟨1, 0⟩, Comes.go (wait := 0) (e := ApiEdge.mk 0 1 0 1 0 0) .start (by decide) (by simp) ⟨fun k h1 h2 => by omega, rfl, by decide, by decide, rfl, .inl (by decide)⟩, rfl⟩
    have h1 := (hr.2 h0).2 hg
    rw [h0, h1] at hb
    cases hb
  · intro q hq
    refine ⟨fun _ => rfl, fun hb => ?_⟩
    have h0 : q.2.2 = 0 := by simpa using hb
    have hc := hq.1.1 h0
    have hE := hc.ok.edges
    refine ⟨by unfold capOk; simp; omega, by unfold capOk; simp; omega, fun p hp => ?_⟩
    by_cases hp0 : p.2.2 = 0
    · cases hq1 : q.2.1 with
      | false => simp [hq1]
      | true =>
        have hg := ((hq.2 h0).1 hq1).more x
        have := (hp.2 hp0).2 (by simpa using hg)
        simp [this]
    · simp [hp0]
end Go.Proofs.Ytfpdnigihjmohaa
