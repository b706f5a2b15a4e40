/- Lemmas towards the statement: mirrors of functions, and plain laws. No condition. -/
import Derived.ArgAppend
import Derived.Test.YtiejmeedkhkfgaaPackFixUnfolds4


namespace Go.Proofs.Ytiejmeedkhkfgaa
open Go.RowKit Go.MapKept
set_option linter.unusedSimpArgs false
set_option linter.unusedVariables false
set_option maxRecDepth 100000
theorem en73 : ∀ args w, (callFunc 73 args).run Try.prog w = .ok (.enter 73 args) w := enters_of Try.func73 (by kernel_rfl) rfl
theorem fixCatch (r0 : Rd) (c0 a0 code at_ : Int) (hc : code ≠ 0) : CtD 73 [.box [.rd r0] 83 false, .box [I c0, I a0] 32 false] [.box [.rd (optR fLab none)] 83 false, .box [I code, I at_] 32 false] (.panicking [{ v := .iface 140 (.agg #[.int .i64 code, .int .i64 at_]), recovered := false }]) (.panicking [{ v := .iface 140 (.agg #[.int .i64 code, .int .i64 at_]), recovered := true }]) := by
 have ht := tab_ok
 refine CtD.body (pv := .iface 140 (.agg #[.int .i64 code, .int .i64 at_])) (d := 5) Try.func73 rfl rfl rfl (by kernel_rfl) (by kernel_rfl) (by kernel_rfl) rfl rfl rfl (fun c₀ cs hm => by simp [recoverD, hm]) trivial (fun c Bk hn => ?_)
 have h : True := trivial
 refine En.block ?_
 refine En.seq ?_
 refine En.region ?_
 refine WL.val hn (by rfl) (val_ifNil rfl (by rfl) (by rfl) (fun w => by kernel_rfl)) (by rfl) ?_
 refine WL.nil ?_
 refine En.cond (b := false) (by kernel_rfl) (fun hb => ?_) (fun hb => ?_)
 ·cases hb
 ·refine En.seq ?_
  refine En.region ?_
  refine WL.val hn (by rfl) (val_assert (cs := [.int .i64 code, .int .i64 at_]) rfl (by rfl) rfl (by simp [cellV]) (fun w => by kernel_rfl)) (by rfl) ?_
  refine WL.run ht hn 2 ⟨[(0, .sv (.one (.pptr 0 0 (Bk 0)))), (1, .sv (.one (.pptr 1 0 (Bk 1)))), (5, .sv (.one (.v (.iface 140 (.agg #[.int .i64 code, .int .i64 at_]))))), (9, .sv (.one (B true))), (10, .sv (.agg [I code, I at_]))], [.box [.rd r0] 83 false, .box [I c0, I a0] 32 false]⟩ (by kernel_rfl) ?_
  refine WL.nil ?_
  refine En.cond (b := true) (by kernel_rfl) (fun hb => ?_) (fun hb => ?_)
  ·refine En.seq ?_
   refine En.region ?_
   refine WL.run ht hn 2 ⟨[(0, .sv (.one (.pptr 0 0 (Bk 0)))), (1, .sv (.one (.pptr 1 0 (Bk 1)))), (3, .sv (.one (.ptr 2 0)))], [.box [.rd r0] 83 false, .box [I c0, I a0] 32 false, .box [I code, I at_] 140 false]⟩ (by kernel_rfl) ?_
   refine WL.nil ?_
   refine En.regionA ⟨[(0, .sv (.one (.pptr 0 0 (Bk 0)))), (1, .sv (.one (.pptr 1 0 (Bk 1)))), (3, .sv (.one (.ptr 2 0)))], [.sv (.one (.ptr 2 0)), .sv (.agg [I code, I at_]), .tup [], .tup []], [⟨.box [.rd r0] 83 false, none, none, some (2, .box [.v (.pointer none)] 83 false)⟩, ⟨.box [I c0, I a0] 32 false, none, none, some (3, .box [I code, I at_] 32 false)⟩, ⟨.box [I code, I at_] 140 false, none, none, none⟩]⟩ ⟨[(0, .sv (.one (.pptr 0 0 (Bk 0)))), (1, .sv (.one (.pptr 1 0 (Bk 1))))], [.box [.v (.pointer none)] 83 false, .box [I code, I at_] 32 false, .gone]⟩ (by kernel_rfl) hn (by kernel_rfl) (by rfl) (by kernel_rfl) ?_ (by kernel_rfl) ?_
   ·exact ⟨.mt ⟨[(3, .sv (.one (.ptr 2 0)))], []⟩ [] none (by kernel_rfl) (by rfl) (mt_ev ht (by kernel_rfl)) rfl rfl rfl rfl,
  .mt ⟨[(11, .sv (.one (.ptr 2 0)))], [.gone, .gone, .box [I code, I at_] 140 false]⟩ [] none (by kernel_rfl) (by rfl) (mt_ev ht (by kernel_rfl)) rfl rfl rfl rfl,
  .mu ⟨[(0, .sv (.one (.pptr 0 0 (Bk 0))))], [.box [.rd r0] 83 false]⟩ 0 _ _ rfl rfl (by kernel_rfl) (by rfl) (mu_store2 ht rfl (by rfl) (by rfl) (by rfl) (by rfl) (fun h => by cases h) (by rfl) (by rfl)) rfl rfl rfl rfl rfl rfl rfl,
  .mu ⟨[(1, .sv (.one (.pptr 1 0 (Bk 1)))), (12, .sv (.agg [I code, I at_]))], [.gone, .box [I c0, I a0] 32 false]⟩ 1 _ _ rfl rfl (by kernel_rfl) (by rfl) (mu_store2 ht rfl (by rfl) (by rfl) (by rfl) (by rfl) (fun h => by cases h) (by rfl) (by rfl)) rfl rfl rfl rfl rfl rfl rfl,
  trivial⟩
   ·refine En.boxTurn (.rd (optR fLab none)) 0 0 (by rfl) (by rfl) optNil ?_
    exact En.backE [0, 1] ht () trivial (by kernel_rfl) (by rfl) rfl
  ·cases hb
theorem fixIdle (r0 : Rd) (c0 a0 : Int) : CtD 73 [.box [.rd r0] 83 false, .box [I c0, I a0] 32 false] [.box [.rd r0] 83 false, .box [I c0, I a0] 32 false] (.returning) (.returning) := by
 have ht := tab_ok
 refine CtD.body (pv := .nilIface) (d := 5) Try.func73 rfl rfl rfl (by kernel_rfl) (by kernel_rfl) (by kernel_rfl) rfl rfl rfl (fun c₀ cs hm => by simp [recoverD, hm]) trivial (fun c Bk hn => ?_)
 have h : True := trivial
 refine En.block ?_
 refine En.seq ?_
 refine En.region ?_
 refine WL.val hn (by rfl) (val_nilNil rfl (by rfl) (by rfl) (fun w => by kernel_rfl)) (by rfl) ?_
 refine WL.nil ?_
 refine En.cond (b := true) (by kernel_rfl) (fun hb => ?_) (fun hb => ?_)
 ·refine En.region ?_
  refine WL.run ht hn 1 ⟨[(0, .sv (.one (.pptr 0 0 (Bk 0)))), (1, .sv (.one (.pptr 1 0 (Bk 1))))], [.box [.rd r0] 83 false, .box [I c0, I a0] 32 false]⟩ (by kernel_rfl) ?_
  refine WL.nil ?_
  exact En.backE [0, 1] ht () trivial (by kernel_rfl) (by rfl) rfl
 ·cases hb
def fParse_vc (text : ByteArray) (Q : (Option (Tr FLab) × ApiFault) → Prop) : Prop :=
 IfP (decide ((text.size : Int) > 4000)) (Q (none, ApiFault.mk 1 0)) ((fOk (4 * text.size + 4) 2 text ([] : (List FixName)) ⟨0, 0, 0⟩) ∧
 ((pF text (4 * text.size + 4) 2 ([] : (List FixName)) ⟨0, 0, 0⟩) = none → (∀ code at_ : Int, code ≠ 0 → Q (none, ApiFault.mk code at_))) ∧ ∀ r, (pF text (4 * text.size + 4) 2 ([] : (List FixName)) ⟨0, 0, 0⟩) = some r →
 (IfP (decide ((r.2.pos) < (text.size : Int))) (((4 : Int) ≠ 0) ∧
 (∀ code at_ : Int, code ≠ 0 → Q (none, ApiFault.mk code at_))) (Q ((some (r.1)), ApiFault.mk 0 0))))
theorem fParse_walk (text : ByteArray) (Q : (Option (Tr FLab) × ApiFault) → Prop) (h : fParse_vc text Q) : Ct 32 [.sv (.one (.v (.string text)))] [] Q (fun (r : (Option (Tr FLab) × ApiFault)) => .tup [.one (.rd (optR fLab r.1)), .agg [I r.2.fCode, I r.2.fAt]]) := by
 have ht := tab_ok
 refine Ct.bodyD Try.func32 rfl rfl rfl (fun c R hn hdf hR hpan => ?_)
 unfold fParse_vc at h
 refine En.seq ?_
 refine En.region ?_
 refine WL.run ht hn 2 ⟨[sl 0 (.v (.string text)), sl 2 (.ptr 0 0), sl 3 (.ptr 1 0)], [.box [.v (.pointer none)] 83 false, .box [I 0, I 0] 32 false]⟩ (by kernel_rfl) ?_
 refine WL.nil ?_
 refine En.seq ?_
 refine En.seq ?_
 refine En.region ?_
 refine WL.run ht hn 1 ⟨[sl 0 (.v (.string text)), sl 2 (.ptr 0 0), sl 3 (.ptr 1 0), sl 5 (.v (.string text))], [.box [.v (.pointer none)] 83 false, .box [I 0, I 0] 32 false]⟩ (by kernel_rfl) ?_
 refine WL.val hn (by rfl) (val_lenS (s := text) rfl Try.underlying9 (by rfl)) (by rfl) ?_
 refine WL.run ht hn 1 ⟨[sl 0 (.v (.string text)), sl 2 (.ptr 0 0), sl 3 (.ptr 1 0), sl 7 (B (decide ((text.size : Int) > 4000)))], [.box [.v (.pointer none)] 83 false, .box [I 0, I 0] 32 false]⟩ (by kernel_rfl) ?_
 refine WL.nil ?_
 refine En.cond (b := (decide ((text.size : Int) > 4000))) (by kernel_rfl) (fun hb => ?_) (fun hb => ?_)
 replace h := h.1 hb
 refine En.seq ?_
 refine En.region ?_
 refine WL.run ht hn 3 ⟨[sl 2 (.ptr 0 0), sl 3 (.ptr 1 0)], [.box [.v (.pointer none)] 83 false, .box [I 1, I 0] 32 false]⟩ (by kernel_rfl) ?_
 refine WL.nil ?_
 refine En.ret ?_
 refine En.boxTurn (.rd (optR fLab none)) 0 0 (by rfl) (by rfl) optNil ?_
 exact En.backD0 ht rfl hR hdf (none, ApiFault.mk 1 0) h (by kernel_rfl) rfl
 replace h := h.2 hb
 refine En.skip ?_
 refine En.seq ?_
 refine En.region ?_
 refine WL.run ht hn 1 ⟨[sl 0 (.v (.string text)), sl 2 (.ptr 0 0), sl 3 (.ptr 1 0), sl 9 (.fn 73 [0, 1])], [.box [.v (.pointer none)] 83 false, .box [I 0, I 0] 32 false]⟩ (by kernel_rfl) ?_
 refine WL.defer (F := 73) (t0 := 2) (t1 := 3) (d := 9) (i := 0) (j := 1) (by rfl) rfl rfl (by rfl) (by rfl) (by rfl) hdf (fun c' Bk hn' hw0 hg0 hm0 hpn hdf => ?_)
 replace hR := hR_cast hw0 hg0 hm0 hR
 replace hpan := hpan_cast hpn hpan
 replace hn := hn'.trans hn
 clear hn' hw0 hg0 hm0
 refine WL.sub ⟨[sl 0 (.v (.string text)), sl 2 (.pptr 0 0 (Bk 0)), sl 3 (.pptr 1 0 (Bk 1)), sl 9 (.fn 73 [0, 1])], [.box [.v (.pointer none)] 83 false, .box [I 0, I 0] 32 false]⟩ (by kernel_rfl) ?_
 refine WL.boxTurn (.rd (optR fLab none)) 0 0 (by rfl) (by rfl) optNil ?_
 refine WL.nil ?_
 refine En.cfg hpn ?_
 refine En.seq ?_
 refine En.region ?_
 refine WL.run ht hn 4 ⟨[sl 0 (.v (.string text)), sl 2 (.pptr 0 0 (Bk 0)), sl 3 (.pptr 1 0 (Bk 1)), sl 4 (.ptr 2 0)], [.box [.rd (optR fLab none)] 83 false, .box [I 0, I 0] 32 false, .box [.v (.string text), I 0, I 0, I 0, .v (.slice none 0 0)] 144 false]⟩ (by kernel_rfl) ?_
 refine WL.nil ?_
 refine En.seq ?_
 refine En.region ?_
 refine WL.run ht hn 1 ⟨[sl 0 (.v (.string text)), sl 2 (.pptr 0 0 (Bk 0)), sl 3 (.pptr 1 0 (Bk 1)), sl 4 (.ptr 2 0), sl 13 (.ptr 2 0)], [.box [.rd (optR fLab none)] 83 false, .box [I 0, I 0] 32 false, .box [.v (.string text), I 0, I 0, I 0, .v (.slice none 0 0)] 144 false]⟩ (by kernel_rfl) ?_
 refine WL.nilBoxO (T := FixName.ty) 2 4 3 236 (by rfl) (by rfl) (by rfl) (by rfl) ?_
 have hp := h.1
 replace h := h.2
 refine splitO ((pF text (4 * text.size + 4) 2 ([] : (List FixName)) ⟨0, 0, 0⟩)) (fun hr_2 => ?_) (fun r hr_2 => ?_)
 exact WL.callX (fI2_bad _ (fixAll _) text 0 0 0 ([] : (List FixName)) hp hr_2) en74 (caps := []) [2, 3] (by rfl) rfl (by rfl) (argsAs (by kernel_rfl) (by rfl)) (by kernel_rfl) (by decide) (leftD (ty := 140) 2 3 0 1 ht rfl hR hpan hdf (by rfl) (by rfl) (fun code at_ hc => fixCatch (optR fLab none) 0 0 code at_ hc) en73 (by kernel_rfl) (by kernel_rfl) (by decide) (by rfl) (fun _ _ => by rfl) (fun _ _ => Nat.le_of_ble_eq_true rfl) (fun _ _ => by rfl) (fun _ _ => rfl) (fun code at_ => (none, ApiFault.mk code at_)) (fun code at_ hc => (h.1 hr_2) code at_ hc) (fun _ _ => by kernel_rfl) (fun _ _ => rfl))
 replace h := h.2 r hr_2
 refine WL.callE (fI2_ok _ (fixAll _) text 0 0 0 ([] : (List FixName)) hp r hr_2) en74 (caps := []) [2, 3] hn (by rfl) rfl (by rfl) (argsAs (by kernel_rfl) (by rfl)) (by kernel_rfl) (by decide) (by rfl) (by rfl) (fun _ _ => ⟨by rfl, _, by rfl, ?_⟩)
 refine WL.run ht hn 1 ⟨[sl 0 (.v (.string text)), sl 2 (.pptr 0 0 (Bk 0)), sl 3 (.pptr 1 0 (Bk 1)), sl 4 (.ptr 2 0)], [.box [.rd (trR fLab (r.1))] 83 false, .box [I 0, I 0] 32 false, .box [.v (.string text), I (r.2.pos), I (r.2.deep), I (r.2.cnt), .own 3] 144 false, rowI 236 FixName.ty (([] : (List FixName)))]⟩ (by kernel_rfl) ?_
 refine WL.nil ?_
 refine En.seq ?_
 refine En.seq ?_
 refine En.region ?_
 refine WL.run ht hn 5 ⟨[sl 2 (.pptr 0 0 (Bk 0)), sl 3 (.pptr 1 0 (Bk 1)), sl 4 (.ptr 2 0), sl 18 (I (r.2.pos)), sl 19 (.v (.string text))], [.box [.rd (trR fLab (r.1))] 83 false, .box [I 0, I 0] 32 false, .box [.v (.string text), I (r.2.pos), I (r.2.deep), I (r.2.cnt), .own 3] 144 false, rowI 236 FixName.ty (([] : (List FixName)))]⟩ (by kernel_rfl) ?_
 refine WL.val hn (by rfl) (val_lenS (s := text) rfl Try.underlying9 (by rfl)) (by rfl) ?_
 refine WL.run ht hn 1 ⟨[sl 2 (.pptr 0 0 (Bk 0)), sl 3 (.pptr 1 0 (Bk 1)), sl 4 (.ptr 2 0), sl 21 (B (decide ((r.2.pos) < (text.size : Int))))], [.box [.rd (trR fLab (r.1))] 83 false, .box [I 0, I 0] 32 false, .box [.v (.string text), I (r.2.pos), I (r.2.deep), I (r.2.cnt), .own 3] 144 false, rowI 236 FixName.ty (([] : (List FixName)))]⟩ (by kernel_rfl) ?_
 refine WL.nil ?_
 refine En.cond (b := (decide ((r.2.pos) < (text.size : Int)))) (by kernel_rfl) (fun hb => ?_) (fun hb => ?_)
 replace h := h.1 hb
 refine En.region ?_
 refine WL.run ht hn 1 ⟨[sl 2 (.pptr 0 0 (Bk 0)), sl 3 (.pptr 1 0 (Bk 1)), sl 22 (.ptr 2 0)], [.box [.rd (trR fLab (r.1))] 83 false, .box [I 0, I 0] 32 false, .box [.v (.string text), I (r.2.pos), I (r.2.deep), I (r.2.cnt), .own 3] 144 false, rowI 236 FixName.ty (([] : (List FixName)))]⟩ (by kernel_rfl) ?_
 have hp := h.1
 replace h := h.2
 exact WL.callX (fFail_ct text (r.2.pos) (r.2.deep) (r.2.cnt) (([] : (List FixName))) 4 hp) en75 (caps := []) [2, 3] (by rfl) rfl (by rfl) (argsAs (by kernel_rfl) (by rfl)) (by kernel_rfl) (by decide) (leftD (ty := 140) 2 3 0 1 ht rfl hR hpan hdf (by rfl) (by rfl) (fun code at_ hc => fixCatch (trR fLab (r.1)) 0 0 code at_ hc) en73 (by kernel_rfl) (by kernel_rfl) (by decide) (by rfl) (fun _ _ => by rfl) (fun _ _ => Nat.le_of_ble_eq_true rfl) (fun _ _ => by rfl) (fun _ _ => rfl) (fun code at_ => (none, ApiFault.mk code at_)) (fun code at_ hc => h code at_ hc) (fun _ _ => by kernel_rfl) (fun _ _ => rfl))
 replace h := h.2 hb
 refine En.skip ?_
 refine En.seq ?_
 refine En.region ?_
 refine WL.run ht hn 4 ⟨[sl 2 (.pptr 0 0 (Bk 0)), sl 3 (.pptr 1 0 (Bk 1))], [.box [.rd (trR fLab (r.1))] 83 false, .box [I 0, I 0] 32 false, .gone, .gone]⟩ (by kernel_rfl) ?_
 refine WL.nil ?_
 refine En.ret ?_
 refine En.boxTurn (.rd (optR fLab (some (r.1)))) 0 0 (by rfl) (by rfl) optSome ?_
 exact En.backD 2 3 0 1 ht rfl hR hdf (by rfl) (by rfl) (fixIdle (optR fLab (some (r.1))) 0 0) en73 (by kernel_rfl) (by decide) (by rfl) (by rfl) (Nat.le_of_ble_eq_true rfl) (by rfl) rfl ((some (r.1)), ApiFault.mk 0 0) h (by kernel_rfl) rfl
theorem en32 : ∀ args w, (callFunc 32 args).run Try.prog w = .ok (.enter 32 args) w := enters_of Try.func32 (by kernel_rfl) rfl
def fullF (text : ByteArray) : Option FTr := if 4000 < text.size then none else match pF text (4 * text.size + 4) 2 [] ⟨0, 0, 0⟩ with
 | none => none
 | some r => if r.2.pos < text.size then none else some r.1
def ParsedF (text : ByteArray) (r : Option FTr × ApiFault) : Prop := (r.1 = none ∧ r.2.fCode ≠ 0 ∧ fullF text = none) ∨ ∃ t, fullF text = some t ∧ r = (some t, ⟨0, 0⟩)
theorem fullF_some {text : ByteArray} {t : FTr} (h : fullF text = some t) : text.size ≤ 4000 ∧ WfF 30 [] t ∧ qF text (4 * text.size + 4) 2 [] 0 = some (t, (text.size : Int)) := by
 unfold fullF at h
 split at h
 ·cases h
 rename_i hz
 split at h
 ·cases h
 rename_i r hr
 split at h
 ·cases h
 rename_i he
 cases h
 have hz : text.size ≤ 4000 := by omega
 obtain ⟨_, g2, _, _, g5, g6⟩ := pF_good _ _ [] ⟨0, 0, 0⟩ r hz (show gF text ⟨0, 0, 0⟩ from ⟨⟨by decide, Int.natCast_nonneg _⟩, ⟨by decide, by decide⟩, by decide, by decide⟩) (by decide) hr
 obtain ⟨⟨_, q1⟩, ⟨n0, n1⟩, _⟩ := g2
 refine ⟨hz, g5.mono (by show (r.2.cnt - 0).toNat ≤ 30; omega), ?_⟩
 have : r.2.pos = (text.size : Int) := by omega
 rw [← this]
 exact g6
theorem fParse_ct (text : ByteArray) : Ct 32 [.sv (.one (.v (.string text)))] [] (ParsedF text) (fun (r : (Option (Tr FLab) × ApiFault)) => .tup [.one (.rd (optR fLab r.1)), .agg [I r.2.fCode, I r.2.fAt]]) := by
 refine fParse_walk text (ParsedF text) ?_
 unfold fParse_vc
 refine ⟨fun hb => .inl ⟨rfl, by show (1 : Int) ≠ 0; decide, ?_⟩, fun hb => ?_⟩
 ·have := of_decide_eq_true hb
  unfold fullF
  rw [if_pos (by omega)]
 have hz : text.size ≤ 4000 := by have := of_decide_eq_false hb; omega
 have hg : gF text ⟨0, 0, 0⟩ := ⟨⟨by decide, Int.natCast_nonneg _⟩, ⟨by decide, by decide⟩, by decide, by decide⟩
 refine ⟨fOk_of hz hg (by decide) (by show 4 * ((text.size : Int) - 0) + 2 < ((4 * text.size + 4 : Nat) : Int); omega), fun hn code at_ hc => .inl ⟨rfl, hc, ?_⟩, fun r hr => ⟨fun hb2 => ⟨by decide, fun code at_ hc => .inl ⟨rfl, hc, ?_⟩⟩, fun hb2 => .inr ⟨r.1, ?_, rfl⟩⟩⟩
 ·unfold fullF
  rw [if_neg (by omega), hn]
 ·have := of_decide_eq_true hb2
  unfold fullF
  rw [if_neg (by omega), hr]
  exact if_pos this
 ·have := of_decide_eq_false hb2
  unfold fullF
  rw [if_neg (by omega), hr]
  exact if_neg this
def fCheck_vc (text : ByteArray) (Q : ApiFault → Prop) : Prop :=
 ∀ r : (Option FTr × ApiFault), (ParsedF text) r →
 (Q r.2)
theorem fCheck_walk (text : ByteArray) (Q : ApiFault → Prop) (h : fCheck_vc text Q) : Ct 15 [.sv (.one (.v (.string text)))] [] Q (fun (r : ApiFault) => .sv (.agg [I r.fCode, I r.fAt])) := by
 have ht := tab_ok
 refine Ct.body Try.func15 rfl rfl rfl rfl (fun c hn => ?_)
 unfold fCheck_vc at h
 refine En.seq ?_
 refine En.region ?_
 refine WL.run ht hn 1 ⟨[sl 0 (.v (.string text)), sl 2 (.ptr 0 0)], [.box [I 0, I 0] 32 false]⟩ (by kernel_rfl) ?_
 refine WL.nil ?_
 refine En.seq ?_
 refine En.region ?_
 refine WL.run ht hn 1 ⟨[sl 2 (.ptr 0 0), sl 6 (.v (.string text))], [.box [I 0, I 0] 32 false]⟩ (by kernel_rfl) ?_
 refine WL.mtQ (Q := ParsedF text) (x := fun (r : (Option FTr × ApiFault)) => .tup [.one (.rd (optR fLab r.1)), .agg (ApiFault.cl r.2)]) (p := fun _ => none) hn (by rfl) (mtq_call (fParse_ct text) en32 (caps := []) [] rfl (by rfl) (by kernel_rfl) (by kernel_rfl) (by rfl) (fun _ => rfl) (by rfl)) (fun r hr_2 => ⟨by rfl, _, by rfl, ?_⟩)
 replace h := h r hr_2
 refine WL.run ht hn 6 ⟨[sl 2 (.ptr 0 0), sl 4 (.ptr 1 0)], [.box [I 0, I 0] 32 false, .box (ApiFault.cl r.2) 32 false]⟩ (by kernel_rfl) ?_
 refine WL.nil ?_
 refine En.seq ?_
 refine En.region ?_
 refine WL.run ht hn 2 ⟨[sl 2 (.ptr 0 0)], [.box (ApiFault.cl r.2) 32 false, .gone]⟩ (by kernel_rfl) ?_
 refine WL.nil ?_
 refine En.ret ?_
 exact En.back ht r.2 h (by kernel_rfl) rfl
theorem en15 : ∀ args w, (callFunc 15 args).run Try.prog w = .ok (.enter 15 args) w := enters_of Try.func15 (by kernel_rfl) rfl
def CheckF (text : ByteArray) (r : ApiFault) : Prop := r.fCode = 0 → ∃ t, fullF text = some t
theorem fCheck_ct (text : ByteArray)  : Ct 15 [.sv (.one (.v (.string text)))] [] (CheckF text) (fun (r : ApiFault) => .sv (.agg [I r.fCode, I r.fAt])) := by
 refine fCheck_walk text (CheckF text) ?_
 unfold fCheck_vc
 intro r hr h
 rcases hr with ⟨_, h1, _⟩ | ⟨t, h1, _⟩
 ·exact absurd h h1
 ·exact ⟨t, h1⟩
end Go.Proofs.Ytiejmeedkhkfgaa


namespace Go.Proofs.Ytiejmeedkhkfgaa
set_option linter.unusedSimpArgs false
set_option linter.unusedVariables false
set_option maxRecDepth 100000
def onF (l : List Bool) (p : Int) : Bool := l.getD p.toNat false
def eachF (n : Int) (f : Int → Bool) : List Bool := (List.range n.toNat).map fun p : Nat => f (p : Int)
theorem eachF_len (n : Int) (f : Int → Bool) : (eachF n f).length = n.toNat := by simp [eachF]
theorem onF_each {n : Int} {f : Int → Bool} {p : Int} (h0 : 0 ≤ p) (h1 : p < n) : onF (eachF n f) p = f p := by
 unfold onF eachF
 rw [List.getD_eq_getElem?_getD, List.getElem?_map, List.getElem?_range (by omega)]
 simp only [Option.map_some, Option.getD_some]
 rw [Int.toNat_of_nonneg h0]
def allF (n : Int) (v : Bool) : List Bool := List.replicate n.toNat v
theorem allF_len (n : Int) (v : Bool) : (allF n v).length = n.toNat := List.length_replicate
theorem onF_all {n : Int} {v : Bool} {p : Int} (h0 : 0 ≤ p) (h1 : p < n) : onF (allF n v) p = v := by
 unfold onF allF
 rw [List.getD_eq_getElem?_getD, List.getElem?_replicate, if_pos (by omega)]
 rfl
theorem rowF_ext {n : Int} {a b : List Bool} (ha : a.length = n.toNat) (hb : b.length = n.toNat) (h : ∀ p : Int, 0 ≤ p → p < n → onF a p = onF b p) : a = b := by
 refine List.ext_getElem (by omega) fun i h1 h2 => ?_
 have := h i (Int.natCast_nonneg _) (by omega)
 unfold onF at this
 rw [List.getD_eq_getElem?_getD, List.getD_eq_getElem?_getD, Int.toNat_natCast, List.getElem?_eq_getElem h1, List.getElem?_eq_getElem h2] at this
 exact this
def arrB (g : ApiGraph) (c : Int) (v : Bool) (p : Int) (a : List Bool) : Bool := g.fArrows.any fun x => x.fFrom == p && x.fLetter == c && onF a x.fTo == v
def itF (f : List Bool → List Bool) : Nat → List Bool → List Bool
 | 0, o => o
 | m + 1, o => f (itF f m o)
def kid0 : List FTr → FTr
 | x :: _ => x
 | [] => fn 48 0 []
def kid1 : List FTr → FTr
 | _ :: y :: _ => y
 | _ => fn 48 0 []
def wayF (g : ApiGraph) (sg c : Int) (a : List Bool) : List Bool := eachF g.fPlaces fun p => if sg = 60 then arrB g c true p a else !(arrB g c false p a)
def semF (g : ApiGraph) : Nat → FTr → List (List Bool) → List Bool
 | 0, _, _ => []
 | k + 1, .node a kids, S =>
  if a.fSign = 49 then allF g.fPlaces true
  else if a.fSign = 88 then S.getD a.fN.toNat []
  else if a.fSign = 33 then eachF g.fPlaces fun p => !(onF (semF g k (kid0 kids) S) p)
  else if a.fSign = 38 then eachF g.fPlaces fun p => onF (semF g k (kid0 kids) S) p && onF (semF g k (kid1 kids) S) p
  else if a.fSign = 124 then eachF g.fPlaces fun p => onF (semF g k (kid0 kids) S) p || onF (semF g k (kid1 kids) S) p
  else if a.fSign = 60 ∨ a.fSign = 91 then wayF g a.fSign a.fN (semF g k (kid0 kids) S)
  else if a.fSign = 109 ∨ a.fSign = 110 then itF (fun o => semF g k (kid0 kids) (S ++ [o])) g.fPlaces.toNat (allF g.fPlaces (decide (a.fSign = 110)))
  else allF g.fPlaces false
section
variable {g : ApiGraph} {k : Nat} {n : Int} {S : List (List Bool)} {x y : FTr} {kids : List FTr}
theorem sem_not : semF g (k + 1) (fn 33 n [x]) S = eachF g.fPlaces fun p => !(onF (semF g k x S) p) := rfl
theorem sem_and : semF g (k + 1) (fn 38 n [x, y]) S = eachF g.fPlaces fun p => onF (semF g k x S) p && onF (semF g k y S) p := rfl
theorem sem_or : semF g (k + 1) (fn 124 n [x, y]) S = eachF g.fPlaces fun p => onF (semF g k x S) p || onF (semF g k y S) p := rfl
theorem sem_way {sg : Int} (h : sg = 60 ∨ sg = 91) : semF g (k + 1) (fn sg n [x]) S = wayF g sg n (semF g k x S) := by
 rcases h with rfl | rfl <;> rfl
theorem sem_lp {sg : Int} (h : sg = 109 ∨ sg = 110) : semF g (k + 1) (fn sg n [x]) S = itF (fun o => semF g k x (S ++ [o])) g.fPlaces.toNat (allF g.fPlaces (decide (sg = 110))) := by
 rcases h with rfl | rfl <;> rfl
end
theorem getD_appF {S : List (List Bool)} {o : List Bool} {j : Nat} (hj : j < S.length) : (S ++ [o]).getD j [] = S.getD j [] := by
 rw [List.getD_eq_getElem?_getD, List.getD_eq_getElem?_getD, List.getElem?_append_left hj]
theorem getD_lastF {S : List (List Bool)} {o : List Bool} {j : Nat} (hj : j = S.length) : (S ++ [o]).getD j [] = o := by
 subst hj
 rw [List.getD_eq_getElem?_getD, List.getElem?_append_right (Nat.le_refl _), Nat.sub_self]
 rfl
def SOk (g : ApiGraph) (fl : List Bool) (S : List (List Bool)) : Prop := S.length = fl.length ∧ ∀ s ∈ S, s.length = g.fPlaces.toNat
theorem SOk.add {g : ApiGraph} {fl : List Bool} {S : List (List Bool)} (h : SOk g fl S) {o : List Bool} (ho : o.length = g.fPlaces.toNat) (b : Bool) : SOk g (fl ++ [b]) (S ++ [o]) :=
 ⟨by rw [List.length_append, List.length_append, h.1]; rfl, fun s hs => by
  rcases List.mem_append.1 hs with hs | hs
  ·exact h.2 s hs
  ·cases List.mem_singleton.1 hs
   exact ho⟩
theorem SOk.not {g : ApiGraph} {fl : List Bool} {S : List (List Bool)} (h : SOk g fl S) : SOk g (fl.map (!·)) S := ⟨by rw [List.length_map]; exact h.1, h.2⟩
theorem itF_len {f : List Bool → List Bool} {n : Nat} (hf : ∀ o, o.length = n → (f o).length = n) {o : List Bool} (ho : o.length = n) : ∀ m, (itF f m o).length = n
 | 0 => ho
 | m + 1 => hf _ (itF_len hf ho m)
theorem sem_len {g : ApiGraph} : ∀ {k : Nat} {fl : List Bool} {t : FTr} {S : List (List Bool)}, WfF k fl t → SOk g fl S → (semF g k t S).length = g.fPlaces.toNat
 | 0, _, _, _, h, _ => h.elim
 | k + 1, fl, .node ⟨sg, n⟩ kids, S, h, hS => by
  rcases h with ⟨h, _⟩ | ⟨h, _, j, h2, h3⟩ | ⟨h, x, e, hx⟩ | ⟨h, b, x, e, hx⟩ | ⟨h, b, b2, x, e, hx⟩ | ⟨h, x, y, e, hx, hy⟩
  ·rcases h with h | h <;> (have h : sg = _ := h; subst h; exact allF_len _ _)
  ·have h : sg = 88 := h
   subst h
   have h2 : n = j := h2
   subst h2
   show (S.getD (j : Int).toNat []).length = _
   have hj : j < S.length := by
    rw [hS.1]
    exact (List.getElem?_eq_some_iff.1 h3).1
   rw [Int.toNat_natCast, List.getD_eq_getElem?_getD, List.getElem?_eq_getElem hj]
   exact hS.2 _ (List.getElem_mem hj)
  ·have h : sg = 33 := h
   subst h
   subst e
   exact (congrArg List.length (sem_not (g := g))).trans (eachF_len _ _)
  ·subst e
   exact (congrArg List.length (sem_way (g := g) h)).trans (eachF_len _ _)
  ·subst e
   show (semF g (k + 1) (fn sg n [x]) S).length = _
   rw [sem_lp h]
   exact itF_len (fun o ho => sem_len hx (hS.add ho false)) (allF_len _ _) _
  ·subst e
   rcases h with h | h
   ·have h : sg = 38 := h
    subst h
    exact (congrArg List.length (sem_and (g := g))).trans (eachF_len _ _)
   ·have h : sg = 124 := h
    subst h
    exact (congrArg List.length (sem_or (g := g))).trans (eachF_len _ _)
def leV (n : Int) (v : Bool) (a b : List Bool) : Prop := ∀ p : Int, 0 ≤ p → p < n → onF a p = v → onF b p = v
theorem leV.flip {n : Int} {v : Bool} {a b : List Bool} (h : leV n v a b) : leV n (!v) b a := fun p h0 h1 hb => by
 have := h p h0 h1
 revert this hb
 cases onF a p <;> cases onF b p <;> cases v <;> simp
theorem leV.flip' {n : Int} {a b : List Bool} (h : leV n false a b) : leV n true b a := h.flip
def ToOk (g : ApiGraph) : Prop := ∀ x ∈ g.fArrows, 0 ≤ x.fTo ∧ x.fTo < g.fPlaces
theorem arrB_mono {g : ApiGraph} (hg : ToOk g) {c : Int} {v : Bool} {p : Int} {a b : List Bool} (h : leV g.fPlaces v a b) (ha : arrB g c v p a = true) : arrB g c v p b = true := by
 unfold arrB at ha ⊢
 rw [List.any_eq_true] at ha ⊢
 obtain ⟨x, hx, e⟩ := ha
 simp only [Bool.and_eq_true, beq_iff_eq] at e
 have := hg x hx
 refine ⟨x, hx, ?_⟩
 simp only [Bool.and_eq_true, beq_iff_eq]
 exact ⟨e.1, h _ this.1 this.2 e.2⟩
theorem wayF_mono {g : ApiGraph} (hg : ToOk g) {sg c : Int} {a b : List Bool} (h : leV g.fPlaces true a b) : leV g.fPlaces true (wayF g sg c a) (wayF g sg c b) := fun p h0 h1 e => by
 unfold wayF at e ⊢
 rw [onF_each h0 h1] at e ⊢
 by_cases hs : sg = 60
 ·rw [if_pos hs] at e ⊢
  exact arrB_mono hg h e
 ·rw [if_neg hs] at e ⊢
  have h2 := @arrB_mono g hg c false p b a h.flip
  revert e h2
  cases arrB g c false p a <;> cases arrB g c false p b <;> simp
theorem sem_mono {g : ApiGraph} (hg : ToOk g) : ∀ {k : Nat} {fl : List Bool} {t : FTr} {S S' : List (List Bool)}, WfF k fl t → SOk g fl S → SOk g fl S' → (∀ j : Nat, fl[j]? = some false → leV g.fPlaces true (S.getD j []) (S'.getD j [])) → (∀ j : Nat, fl[j]? = some true → leV g.fPlaces true (S'.getD j []) (S.getD j [])) → leV g.fPlaces true (semF g k t S) (semF g k t S')
 | 0, _, _, _, _, h, _, _, _, _ => h.elim
 | k + 1, fl, .node ⟨sg, n⟩ kids, S, S', h, hS, hS', h0, h1 => by
  rcases h with ⟨h | h, _⟩ | ⟨h, _, j, h2, h3⟩ | ⟨h, x, e, hx⟩ | ⟨h, b, x, e, hx⟩ | ⟨h, b, b2, x, e, hx⟩ | ⟨h | h, x, y, e, hx, hy⟩
  ·cases h
   exact fun p _ _ e => e
  ·cases h
   exact fun p _ _ e => e
  ·cases h
   have h2 : n = j := h2
   subst h2
   exact h0 j h3
  ·have h : sg = 33 := h
   subst h
   subst e
   have := sem_mono hg (S := S') (S' := S) hx hS'.not hS.not (fun j hj => h1 j (by
    rw [List.getElem?_map] at hj
    obtain ⟨b, hb, e⟩ := Option.map_eq_some_iff.1 hj
    cases b
    ·cases e
    ·exact hb)) (fun j hj => h0 j (by
    rw [List.getElem?_map] at hj
    obtain ⟨b, hb, e⟩ := Option.map_eq_some_iff.1 hj
    cases b
    ·exact hb
    ·cases e))
   intro p p0 p1 e
   have := this p p0 p1
   rw [show semF g (k + 1) (.node ⟨33, n⟩ [x] : FTr) S = eachF g.fPlaces fun p => !(onF (semF g k x S) p) from rfl, onF_each p0 p1] at e
   rw [show semF g (k + 1) (.node ⟨33, n⟩ [x] : FTr) S' = eachF g.fPlaces fun p => !(onF (semF g k x S') p) from rfl, onF_each p0 p1]
   revert e this
   cases onF (semF g k x S) p <;> cases onF (semF g k x S') p <;> simp
  ·subst e
   show leV _ true (semF g (k + 1) (fn sg n [x]) S) (semF g (k + 1) (fn sg n [x]) S')
   rw [sem_way h, sem_way h]
   exact wayF_mono hg (sem_mono hg hx hS hS' h0 h1)
  ·subst e
   show leV _ true (semF g (k + 1) (fn sg n [x]) S) (semF g (k + 1) (fn sg n [x]) S')
   rw [sem_lp h, sem_lp h]
   generalize g.fPlaces.toNat = m
   induction m with
   | zero => exact fun p _ _ e => e
   | succ m ih =>
    have l1 := itF_len (f := fun o => semF g k x (S ++ [o])) (fun o ho => sem_len hx (hS.add ho false)) (allF_len g.fPlaces (decide (sg = 110))) m
    have l2 := itF_len (f := fun o => semF g k x (S' ++ [o])) (fun o ho => sem_len hx (hS'.add ho false)) (allF_len g.fPlaces (decide (sg = 110))) m
    have e1 : S.length = fl.length := hS.1
    have e2 : S'.length = fl.length := hS'.1
    refine sem_mono hg hx (hS.add l1 false) (hS'.add l2 false) (fun j hj => ?_) (fun j hj => ?_)
    ·by_cases hl : j < fl.length
     ·rw [List.getElem?_append_left hl] at hj
      rw [getD_appF (by omega), getD_appF (by omega)]
      exact h0 j hj
     ·have hj2 : j = fl.length := by
       rw [List.getElem?_append_right (by omega)] at hj
       obtain ⟨hh, _⟩ := List.getElem?_eq_some_iff.1 hj
       simp at hh
       omega
      rw [getD_lastF (by omega), getD_lastF (by omega)]
      exact ih
    ·by_cases hl : j < fl.length
     ·rw [List.getElem?_append_left hl] at hj
      rw [getD_appF (by omega), getD_appF (by omega)]
      exact h1 j hj
     ·rw [List.getElem?_append_right (by omega)] at hj
      obtain ⟨hh, e3⟩ := List.getElem?_eq_some_iff.1 hj
      simp at e3
  ·have h : sg = 38 := h
   subst h
   subst e
   have i1 := sem_mono hg hx hS hS' h0 h1
   have i2 := sem_mono hg hy hS hS' h0 h1
   intro p p0 p1 e
   have j1 := i1 p p0 p1
   have j2 := i2 p p0 p1
   rw [show semF g (k + 1) (.node ⟨38, n⟩ [x, y]) S = eachF g.fPlaces fun p => onF (semF g k x S) p && onF (semF g k y S) p from rfl, onF_each p0 p1, Bool.and_eq_true] at e
   rw [show semF g (k + 1) (.node ⟨38, n⟩ [x, y]) S' = eachF g.fPlaces fun p => onF (semF g k x S') p && onF (semF g k y S') p from rfl, onF_each p0 p1, Bool.and_eq_true]
   exact ⟨j1 e.1, j2 e.2⟩
  ·have h : sg = 124 := h
   subst h
   subst e
   have i1 := sem_mono hg hx hS hS' h0 h1
   have i2 := sem_mono hg hy hS hS' h0 h1
   intro p p0 p1 e
   have j1 := i1 p p0 p1
   have j2 := i2 p p0 p1
   rw [show semF g (k + 1) (.node ⟨124, n⟩ [x, y]) S = eachF g.fPlaces fun p => onF (semF g k x S) p || onF (semF g k y S) p from rfl, onF_each p0 p1, Bool.or_eq_true] at e
   rw [show semF g (k + 1) (.node ⟨124, n⟩ [x, y]) S' = eachF g.fPlaces fun p => onF (semF g k x S') p || onF (semF g k y S') p from rfl, onF_each p0 p1, Bool.or_eq_true]
   exact e.elim (fun e => .inl (j1 e)) (fun e => .inr (j2 e))
theorem cntF {v : Bool} : ∀ {a b : List Bool}, a.length = b.length → (∀ i : Nat, a[i]? = some v → b[i]? = some v) → a.count v ≤ b.count v ∧ (a ≠ b → a.count v < b.count v)
 | [], [], _, _ => ⟨Nat.le_refl _, fun h => absurd rfl h⟩
 | [], _ :: _, h, _ => by simp at h
 | _ :: _, [], h, _ => by simp at h
 | x :: a, y :: b, h, hi => by
  obtain ⟨i1, i2⟩ := cntF (v := v) (a := a) (b := b) (by simpa using h) (fun i hx => by simpa using hi (i + 1) (by simpa using hx))
  have hx := hi 0
  simp only [List.getElem?_cons_zero, Option.some.injEq] at hx
  rw [List.count_cons, List.count_cons]
  by_cases e1 : x = v
  ·have e2 := hx e1
   subst e1 e2
   refine ⟨by omega, fun hne => ?_⟩
   have := i2 (fun e => hne (by rw [e]))
   omega
  ·rw [if_neg (by simpa using e1)]
   by_cases e2 : y = v
   ·rw [if_pos (by simpa using e2)]
    exact ⟨by omega, fun _ => by omega⟩
   ·rw [if_neg (by simpa using e2)]
    refine ⟨by omega, fun hne => ?_⟩
    have e3 : x = y := by
     have key : ∀ x y v : Bool, ¬ x = v → ¬ y = v → x = y := by decide
     exact key x y v e1 e2
    have := i2 (fun e => hne (by rw [e, e3]))
    omega
theorem leV_cnt {n : Int} {v : Bool} {a b : List Bool} (ha : a.length = n.toNat) (hb : b.length = n.toNat) (h : leV n v a b) (hne : a ≠ b) : a.count v < b.count v := by
 refine (cntF (by omega) fun i hi => ?_).2 hne
 obtain ⟨h1, h2⟩ := List.getElem?_eq_some_iff.1 hi
 have := h i (Int.natCast_nonneg _) (by omega) (by
  unfold onF
  rw [List.getD_eq_getElem?_getD, Int.toNat_natCast, hi]
  rfl)
 unfold onF at this
 rw [List.getD_eq_getElem?_getD, Int.toNat_natCast, List.getElem?_eq_getElem (by omega)] at this
 rw [List.getElem?_eq_getElem (by omega)]
 exact congrArg some this
section
variable {f : List Bool → List Bool} {n : Int} {v : Bool} (hl : ∀ o, o.length = n.toNat → (f o).length = n.toNat) (hm : ∀ a b, a.length = n.toNat → b.length = n.toNat → leV n v a b → leV n v (f a) (f b))
include hl hm
theorem itF_up : ∀ m, leV n v (itF f m (allF n (!v))) (itF f (m + 1) (allF n (!v)))
 | 0 => fun p h0 h1 e => by
  rw [show itF f 0 (allF n (!v)) = allF n (!v) from rfl, onF_all h0 h1] at e
  cases v <;> cases e
 | m + 1 => hm _ _ (itF_len hl (allF_len n (!v)) m) (itF_len hl (allF_len n (!v)) (m + 1)) (itF_up m)
theorem itF_grow : ∀ m, f (itF f m (allF n (!v))) = itF f m (allF n (!v)) ∨ m < (itF f (m + 1) (allF n (!v))).count v
 | 0 => by
  by_cases h : f (itF f 0 (allF n (!v))) = itF f 0 (allF n (!v))
  ·exact .inl h
  ·right
   have := leV_cnt (itF_len hl (allF_len n (!v)) 0) (itF_len hl (allF_len n (!v)) (0 + 1)) (itF_up hl hm 0) (fun e => h e.symm)
   omega
 | m + 1 => by
  by_cases h : f (itF f (m + 1) (allF n (!v))) = itF f (m + 1) (allF n (!v))
  ·exact .inl h
  ·right
   have := leV_cnt (itF_len hl (allF_len n (!v)) (m + 1)) (itF_len hl (allF_len n (!v)) (m + 1 + 1)) (itF_up hl hm (m + 1)) (fun e => h e.symm)
   rcases itF_grow m with h2 | h2
   ·exact absurd (congrArg f h2) h
   ·omega
theorem itF_fix : f (itF f n.toNat (allF n (!v))) = itF f n.toNat (allF n (!v)) := by
 rcases itF_grow hl hm n.toNat with h | h
 ·exact h
 ·have h1 := itF_len hl (allF_len n (!v)) (n.toNat + 1)
  have h2 : (itF f (n.toNat + 1) (allF n (!v))).count v ≤ _ := List.count_le_length
  omega
omit hl hm in
theorem itF_stay {o : List Bool} : ∀ {m m' : Nat}, f (itF f m o) = itF f m o → m ≤ m' → itF f m' o = itF f m o
 | m, 0, _, h => by
  have : m = 0 := by omega
  rw [this]
 | m, m' + 1, h, hk => by
  by_cases e : m = m' + 1
  ·rw [e]
  ·show f (itF f m' o) = _
   rw [itF_stay h (by omega), h]
theorem itF_any {m : Nat} (h : f (itF f m (allF n (!v))) = itF f m (allF n (!v))) : itF f n.toNat (allF n (!v)) = itF f m (allF n (!v)) := by
 by_cases hmn : m ≤ n.toNat
 ·exact itF_stay h hmn
 ·exact (itF_stay (itF_fix hl hm) (by omega)).symm
end
theorem lp_mono {g : ApiGraph} (hg : ToOk g) {k : Nat} {fl : List Bool} {x : FTr} {S : List (List Bool)} (hx : WfF k (fl ++ [false]) x) (hS : SOk g fl S) (v : Bool) {a b : List Bool} (ha : a.length = g.fPlaces.toNat) (hb : b.length = g.fPlaces.toNat) (h : leV g.fPlaces v a b) : leV g.fPlaces v (semF g k x (S ++ [a])) (semF g k x (S ++ [b])) := by
 have key : ∀ {a b : List Bool}, a.length = g.fPlaces.toNat → b.length = g.fPlaces.toNat → leV g.fPlaces true a b → leV g.fPlaces true (semF g k x (S ++ [a])) (semF g k x (S ++ [b])) := fun {a b} ha hb h => by
  refine sem_mono hg hx (hS.add ha false) (hS.add hb false) (fun j hj => ?_) (fun j hj => ?_)
  ·by_cases hl : j < S.length
   ·rw [List.getD_eq_getElem?_getD, List.getD_eq_getElem?_getD, List.getElem?_append_left hl, List.getElem?_append_left hl]
    exact fun p _ _ e => e
   ·have hj2 : j = S.length := by
     obtain ⟨hh, _⟩ := List.getElem?_eq_some_iff.1 hj
     rw [List.length_append, ← hS.1] at hh
     simp at hh
     omega
    subst hj2
    rw [List.getD_eq_getElem?_getD, List.getD_eq_getElem?_getD, List.getElem?_append_right (Nat.le_refl _), List.getElem?_append_right (Nat.le_refl _), Nat.sub_self]
    exact h
  ·by_cases hl : j < S.length
   ·rw [List.getD_eq_getElem?_getD, List.getD_eq_getElem?_getD, List.getElem?_append_left hl, List.getElem?_append_left hl]
    exact fun p _ _ e => e
   ·have hj2 : j = fl.length := by
     obtain ⟨hh, _⟩ := List.getElem?_eq_some_iff.1 hj
     rw [List.length_append] at hh
     simp at hh
     rw [hS.1] at hl
     omega
    rw [hj2, List.getElem?_append_right (Nat.le_refl _), Nat.sub_self] at hj
    cases hj
 cases v
 ·exact (key hb ha h.flip').flip
 ·exact key ha hb h
theorem sem_fix {g : ApiGraph} (hg : ToOk g) {k : Nat} {fl : List Bool} {x : FTr} {S : List (List Bool)} {sg n : Int} (hs : sg = 109 ∨ sg = 110) (hx : WfF k (fl ++ [false]) x) (hS : SOk g fl S) : semF g k x (S ++ [semF g (k + 1) (fn sg n [x]) S]) = semF g (k + 1) (fn sg n [x]) S := by
 rw [sem_lp hs]
 have := itF_fix (f := fun o => semF g k x (S ++ [o])) (n := g.fPlaces) (v := !decide (sg = 110)) (fun o ho => sem_len hx (hS.add ho false)) (fun a b ha hb h => lp_mono hg hx hS _ ha hb h)
 rwa [Bool.not_not] at this
end Go.Proofs.Ytiejmeedkhkfgaa


namespace Go.Proofs.Ytiejmeedkhkfgaa
open Go.RowKit Go.MapKept
set_option linter.unusedSimpArgs false
set_option linter.unusedVariables false
set_option maxRecDepth 100000
set_option linter.unusedSectionVars false
theorem nodup_le {α : Type} : ∀ {l m : List α}, l.Nodup → (∀ x ∈ l, x ∈ m) → l.length ≤ m.length
 | [], _, _, _ => Nat.zero_le _
 | x :: l, m, hn, h => by
  rw [List.nodup_cons] at hn
  obtain ⟨s, t, rfl⟩ := List.append_of_mem (h x List.mem_cons_self)
  have := nodup_le (l := l) (m := s ++ t) hn.2 fun y hy => by
   have h1 := h y (List.mem_cons_of_mem _ hy)
   rw [List.mem_append, List.mem_cons] at h1
   rw [List.mem_append]
   rcases h1 with h1 | rfl | h1
   ·exact .inl h1
   ·exact absurd hy hn.1
   ·exact .inr h1
  simp only [List.length_append, List.length_cons] at this ⊢
  omega
theorem idxOf_left {α : Type} [DecidableEq α] {x : α} : ∀ {l r : List α}, x ∈ l → (l ++ r).idxOf x = l.idxOf x
 | [], _, h => by simp at h
 | y :: l, r, h => by
  rw [List.cons_append, List.idxOf_cons, List.idxOf_cons]
  by_cases e : y = x
  ·simp [e]
  ·have hm : x ∈ l := by
    rcases List.mem_cons.1 h with h | h
    ·exact absurd h.symm e
    ·exact h
   simp [e, idxOf_left (r := r) hm]
section
variable {K : Type} [DecidableEq K]
variable {go : K → Nat → K} {mark : K → Int} {L : Nat} {k0 : K} {P : K → Prop}
section
variable {K' : Type} [DecidableEq K'] {go' : K' → Nat → K'} {mark' : K' → Int} {φ : K → K'}
end
end
abbrev Lang := List Nat → Int
noncomputable instance langDec : DecidableEq Lang := fun _ _ => Classical.propDecidable _
def rs (L : Nat) (r : Lang) : Lang := fun w => if ∀ a ∈ w, a < L then r w else 0
theorem rs_congr {L : Nat} {r s : Lang} (h : ∀ w, (∀ a ∈ w, a < L) → r w = s w) : rs L r = rs L s := by
 funext w
 unfold rs
 split
 ·rename_i hw
  exact h w hw
 ·rfl
theorem rs_at {L : Nat} {r s : Lang} (h : rs L r = rs L s) {w : List Nat} (hw : ∀ a ∈ w, a < L) : r w = s w := by
 have := congrFun h w
 unfold rs at this
 rw [if_pos hw, if_pos hw] at this
 exact this
section
variable {K : Type} [DecidableEq K] {go : K → Nat → K} {mark : K → Int} {L : Nat} {k0 : K} {P : K → Prop}
end
def stepD (d : ApiDet) (q : Nat) (a : Nat) : Nat := ((d.fNext.getD q []).getD a 0).toNat
def langD (d : ApiDet) (q : Nat) : Lang := fun w => d.fMark.getD (w.foldl (stepD d) q) 0
section
variable {K : Type} [DecidableEq K] {go : K → Nat → K} {mark : K → Int} {L : Nat} {k0 : K} {P : K → Prop}
end
structure Wf (d : ApiDet) : Prop where
 letters : 0 ≤ d.fLetters
 rows : ∀ r ∈ d.fNext, r.length = d.fLetters.toNat
 next : ∀ r ∈ d.fNext, ∀ x ∈ r, 0 ≤ x ∧ x < (d.fNext.length : Int)
 start : 0 ≤ d.fStart ∧ d.fStart < (d.fNext.length : Int)
 mark : d.fMark.length = d.fNext.length
section
variable {K : Type} [DecidableEq K] {go : K → Nat → K} {mark : K → Int} {L : Nat} {k0 : K} {P : K → Prop}
end
end Go.Proofs.Ytiejmeedkhkfgaa


namespace Go.Proofs.Ytiejmeedkhkfgaa
open Go.RowKit Go.MapKept
set_option linter.unusedSimpArgs false
set_option linter.unusedVariables false
set_option maxRecDepth 100000
set_option linter.unusedSectionVars false
section
variable {K : Type} [DecidableEq K] {go : K → Nat → K} {mark : K → Int} {L : Nat} {k0 : K} {P : K → Prop}
def MapOf (m : List (K × Int)) (l : List K) : Prop := ∀ k, mget k m = if k ∈ l then some (l.idxOf k : Int) else none
theorem MapOf.one : MapOf (mput k0 0 ([] : List (K × Int))) [k0] := fun k => by
 rw [mget_put]
 by_cases h : k = k0
 ·subst h; simp
 ·simp [h, mget]
theorem idxOf_last {l : List K} {k : K} (h : k ∉ l) : (l ++ [k]).idxOf k = l.length := by
 induction l with
 | nil => simp
 | cons x l ih =>
  have h1 : x ≠ k := fun e => h (e ▸ List.mem_cons_self)
  have h2 : k ∉ l := fun e => h (List.mem_cons_of_mem _ e)
  rw [List.cons_append, List.idxOf_cons, ih h2, show (x == k) = false by simpa using h1]
  simp
theorem MapOf.push {m : List (K × Int)} {l : List K} (h : MapOf m l) {k : K} (hk : k ∉ l) : MapOf (mput k (l.length : Int) m) (l ++ [k]) := fun q => by
 rw [mget_put]
 by_cases e : q = k
 ·subst e
  simp [idxOf_last hk]
 ·rw [if_neg e, h q]
  by_cases hq : q ∈ l
  ·rw [if_pos hq, if_pos (List.mem_append_left _ hq), idxOf_left hq]
  ·rw [if_neg hq, if_neg (by simp [hq, e])]
end
end Go.Proofs.Ytiejmeedkhkfgaa


namespace Go.Proofs.Ytiejmeedkhkfgaa
open Go.RowKit Go.MapKept
set_option linter.unusedSimpArgs false
set_option linter.unusedVariables false
set_option maxRecDepth 100000
set_option linter.unusedSectionVars false
theorem onto_inj {m : Nat} {f : Nat → Nat} (hon : ∀ j, j < m → ∃ i, i < m ∧ f i = j) {i j : Nat} (hi : i < m) (hj : j < m) (h : f i = f j) : i = j := by
 refine Decidable.byContradiction fun hne => ?_
 have := nodup_le (l := List.range m) (m := ((List.range m).erase i).map f) List.nodup_range fun x hx => by
  obtain ⟨q, hq, rfl⟩ := hon x (List.mem_range.1 hx)
  rw [List.mem_map]
  by_cases e : q = i
  ·subst e
   exact ⟨j, (List.mem_erase_of_ne (fun e => hne e.symm)).2 (List.mem_range.2 hj), h.symm⟩
  ·exact ⟨q, (List.mem_erase_of_ne e).2 (List.mem_range.2 hq), rfl⟩
 rw [List.length_range, List.length_map, List.length_erase_of_mem (List.mem_range.2 hi), List.length_range] at this
 omega
theorem onto_le {k m : Nat} {f : Nat → Nat} (hon : ∀ j, j < k → ∃ i, i < m ∧ f i = j) : k ≤ m := by
 have := nodup_le (l := List.range k) (m := (List.range m).map f) List.nodup_range fun x hx => by
  obtain ⟨q, hq, rfl⟩ := hon x (List.mem_range.1 hx)
  exact List.mem_map.2 ⟨q, List.mem_range.2 hq, rfl⟩
 simpa using this
def two8 (c : Int) : List Int := [c % 256, c / 256 % 256]
theorem two8_inj {c d : Int} (hc : 0 ≤ c ∧ c < 65536) (hd : 0 ≤ d ∧ d < 65536) (h : two8 c = two8 d) : c = d := by
 unfold two8 at h
 simp only [List.cons.injEq] at h
 omega
theorem two8_in {c : Int} : ∀ x ∈ two8 c, 0 ≤ x ∧ x < 256 := by
 intro x hx
 unfold two8 at hx
 simp only [List.mem_cons, List.not_mem_nil, or_false] at hx
 omega
theorem twos_inj : ∀ {l m : List Int}, (∀ x ∈ l, 0 ≤ x ∧ x < 65536) → (∀ x ∈ m, 0 ≤ x ∧ x < 65536) → l.flatMap two8 = m.flatMap two8 → l = m
 | [], [], _, _, _ => rfl
 | [], _ :: _, _, _, h => by simp [two8] at h
 | _ :: _, [], _, _, h => by simp [two8] at h
 | x :: l, y :: m, hl, hm, h => by
  rw [List.flatMap_cons, List.flatMap_cons] at h
  have h1 := List.append_inj h (by simp [two8])
  rw [two8_inj (hl x List.mem_cons_self) (hm y List.mem_cons_self) h1.1, twos_inj (fun z hz => hl z (List.mem_cons_of_mem _ hz)) (fun z hz => hm z (List.mem_cons_of_mem _ hz)) h1.2]
theorem twos_in {l : List Int} : ∀ x ∈ l.flatMap two8, 0 ≤ x ∧ x < 256 := fun x hx => by
 obtain ⟨c, _, h⟩ := List.mem_flatMap.1 hx
 exact two8_in x h
def rowCls (cls : List Int) (r : List Int) : List Int := r.map fun t => cls.getD t.toNat 0
def keyOf (cls : List Int) (q : Nat) (r : List Int) : DetSplit := ⟨cls.getD q 0, bytesOf ((rowCls cls r).flatMap two8)⟩
structure RoundOf (N : List (List Int)) (cls next : List Int) (m : Nat) : Prop where
 len : next.length = N.length
 range : ∀ x ∈ next, 0 ≤ x ∧ x < (m : Int)
 onto : ∀ j : Nat, j < m → (j : Int) ∈ next
 same : ∀ (p q : Nat) (r s : List Int) (x y : Int), N[p]? = some r → N[q]? = some s → next[p]? = some x → next[q]? = some y → (x = y ↔ keyOf cls p r = keyOf cls q s)
structure ClsPre (d : ApiDet) : Prop where
 size : d.fNext.length ≤ 65536
 next : ∀ r ∈ d.fNext, ∀ x ∈ r, 0 ≤ x ∧ x < (d.fNext.length : Int)
 wide : ∀ r ∈ d.fNext, r.length ≤ 1000
 marks : d.fMark.length = d.fNext.length
 small : ∀ x ∈ d.fMark, 0 ≤ x ∧ x < 65536
structure Half (N : List (List Int)) (cls : List Int) (q : Nat) (m2 : List (DetSplit × Int)) (next : List Int) : Prop where
 len : next.length = N.length
 get : ∀ (p : Nat) (r : List Int), p < q → N[p]? = some r → ∃ x : Int, next[p]? = some x ∧ mget (keyOf cls p r) m2 = some x
 range : ∀ (k : DetSplit) (x : Int), mget k m2 = some x → 0 ≤ x ∧ x < (m2.length : Int)
 inj : ∀ (k l : DetSplit) (x : Int), mget k m2 = some x → mget l m2 = some x → k = l
 onto : ∀ j : Nat, j < m2.length → ∃ p : Nat, p < q ∧ next[p]? = some (j : Int)
 size : m2.length ≤ q
theorem mput_length {κ : Type} [DecidableEq κ] {a : κ} {v : Int} : ∀ {D : List (κ × Int)}, mget a D = none → (mput a v D).length = D.length + 1
 | [], _ => rfl
 | x :: D, h => by
  rw [mget] at h
  split at h
  ·cases h
  ·rename_i e
   rw [mput, if_neg e, List.length_cons, mput_length h, List.length_cons]
theorem Half.start {N : List (List Int)} {cls next : List Int} (h : next.length = N.length) : Half N cls 0 [] next :=
 ⟨h, fun p r hp => absurd hp (Nat.not_lt_zero _), fun k x e => by simp [mget] at e, fun k l x e => by simp [mget] at e, fun j hj => by simp at hj, Nat.le_refl _⟩
theorem Half.known {N : List (List Int)} {cls next : List Int} {q : Nat} {m2 : List (DetSplit × Int)} (h : Half N cls q m2 next) {r : List Int} (hr : N[q]? = some r) {x : Int} (hx : mget (keyOf cls q r) m2 = some x) : Half N cls (q + 1) m2 (next.set q x) := by
 have hq : q < next.length := by rw [h.len]; exact (List.getElem?_eq_some_iff.1 hr).1
 refine ⟨by simp [h.len], fun p s hp hs => ?_, h.range, h.inj, fun j hj => ?_, Nat.le_succ_of_le h.size⟩
 ·by_cases e : p = q
  ·subst e
   rw [hr] at hs
   cases hs
   exact ⟨x, by rw [List.getElem?_set_self hq], hx⟩
  ·obtain ⟨y, h1, h2⟩ := h.get p s (by omega) hs
   exact ⟨y, by rw [List.getElem?_set_ne (Ne.symm e)]; exact h1, h2⟩
 ·obtain ⟨p, h1, h2⟩ := h.onto j hj
  exact ⟨p, by omega, by rw [List.getElem?_set_ne (by omega)]; exact h2⟩
theorem Half.new {N : List (List Int)} {cls next : List Int} {q : Nat} {m2 : List (DetSplit × Int)} (h : Half N cls q m2 next) {r : List Int} (hr : N[q]? = some r) (hx : mget (keyOf cls q r) m2 = none) : Half N cls (q + 1) (mput (keyOf cls q r) (m2.length : Int) m2) (next.set q (m2.length : Int)) := by
 have hq : q < next.length := by rw [h.len]; exact (List.getElem?_eq_some_iff.1 hr).1
 have hl := mput_length (v := (m2.length : Int)) hx
 refine ⟨by simp [h.len], fun p s hp hs => ?_, fun k x e => ?_, fun k l x e1 e2 => ?_, fun j hj => ?_, by rw [hl]; have := h.size; omega⟩
 ·by_cases e : p = q
  ·subst e
   rw [hr] at hs
   cases hs
   exact ⟨_, by rw [List.getElem?_set_self hq], by rw [mget_put, if_pos rfl]⟩
  ·obtain ⟨y, h1, h2⟩ := h.get p s (by omega) hs
   refine ⟨y, by rw [List.getElem?_set_ne (Ne.symm e)]; exact h1, ?_⟩
   rw [mget_put, if_neg (fun e2 => by rw [e2, hx] at h2; cases h2)]
   exact h2
 ·rw [mget_put] at e
  rw [hl]
  split at e
  ·cases e; omega
  ·have := h.range k x e
   omega
 ·rw [mget_put] at e1 e2
  split at e1 <;> split at e2
  ·rename_i a b; rw [a, b]
  ·cases e1
   have := h.range l _ e2
   omega
  ·cases e2
   have := h.range k _ e1
   omega
  ·exact h.inj k l x e1 e2
 ·rw [hl] at hj
  by_cases e : j = m2.length
  ·subst e
   exact ⟨q, by omega, by rw [List.getElem?_set_self hq]⟩
  ·obtain ⟨p, h1, h2⟩ := h.onto j (by omega)
   exact ⟨p, by omega, by rw [List.getElem?_set_ne (by omega)]; exact h2⟩
theorem Half.round {N : List (List Int)} {cls next : List Int} {m2 : List (DetSplit × Int)} (h : Half N cls N.length m2 next) : RoundOf N cls next m2.length := by
 have hget : ∀ (p : Nat) (r : List Int) (x : Int), N[p]? = some r → next[p]? = some x → mget (keyOf cls p r) m2 = some x := fun p r x h1 h2 => by
  obtain ⟨y, h3, h4⟩ := h.get p r (List.getElem?_eq_some_iff.1 h1).1 h1
  rw [h2] at h3
  cases h3
  exact h4
 refine ⟨h.len, fun x hx => ?_, fun j hj => ?_, fun p q r s x y h1 h2 h3 h4 => ?_⟩
 ·obtain ⟨p, hp⟩ := List.getElem?_of_mem hx
  have hlt := (List.getElem?_eq_some_iff.1 hp).1
  rw [h.len] at hlt
  exact h.range _ x (hget p _ x (List.getElem?_eq_getElem hlt) hp)
 ·obtain ⟨p, _, h2⟩ := h.onto j hj
  exact List.mem_of_getElem? h2
 ·have k1 := hget p r x h1 h3
  have k2 := hget q s y h2 h4
  constructor
  ·rintro rfl
   exact h.inj _ _ x k1 k2
  ·intro e
   rw [e, k2] at k1
   cases k1
   rfl
theorem succ_rs {d : ApiDet} {L p q a : Nat} (h : rs L (langD d p) = rs L (langD d q)) (ha : a < L) : rs L (langD d (stepD d p a)) = rs L (langD d (stepD d q a)) :=
 rs_congr fun w hw => rs_at (w := a :: w) h fun b hb => (List.mem_cons.1 hb).elim (fun e => e ▸ ha) (hw b)
structure ClsInv (d : ApiDet) (L : Nat) (x4 : Int) (cls : List Int) : Prop where
 len : cls.length = d.fNext.length
 range : ∀ x ∈ cls, 0 ≤ x ∧ x < 65536
 sound : ∀ p q, p < d.fNext.length → q < d.fNext.length → rs L (langD d p) = rs L (langD d q) → cls.getD p 0 = cls.getD q 0
 marks : ∀ p q, p < d.fNext.length → q < d.fNext.length → cls.getD p 0 = cls.getD q 0 → d.fMark.getD p 0 = d.fMark.getD q 0
 count : x4 = 0 ∨ ∃ m : Nat, x4 = m ∧ m ≤ d.fNext.length ∧ (∀ x ∈ cls, 0 ≤ x ∧ x < (m : Int)) ∧ ∀ j : Nat, j < m → (j : Int) ∈ cls
theorem getD_mem {α : Type} {l : List α} {i : Nat} {z : α} (h : i < l.length) : l.getD i z ∈ l := by
 rw [List.getD_eq_getElem?_getD, List.getElem?_eq_getElem h]
 exact List.getElem_mem h
theorem getD_some {α : Type} {l : List α} {i : Nat} {z : α} (h : i < l.length) : l[i]? = some (l.getD i z) := by
 rw [List.getD_eq_getElem?_getD, List.getElem?_eq_getElem h]
 rfl
section
variable {d : ApiDet} (hd : ClsPre d) {L : Nat} (hL : ∀ r ∈ d.fNext, r.length = L)
include hd
theorem ClsPre.step {q a : Nat} (hq : q < d.fNext.length) : stepD d q a < d.fNext.length := by
 unfold stepD
 have hr := getD_mem (z := []) hq
 by_cases h : a < (d.fNext.getD q []).length
 ·have := hd.next _ hr _ (getD_mem (z := 0) h)
  omega
 ·rw [List.getD_eq_getElem?_getD (l := d.fNext.getD q []), List.getElem?_eq_none (by omega)]
  simp only [Option.getD_none]
  omega
theorem keyOf_iff {cls : List Int} (hr : ∀ x ∈ cls, 0 ≤ x ∧ x < 65536) (hlen : cls.length = d.fNext.length) {p q : Nat} (hp : p < d.fNext.length) (hq : q < d.fNext.length) (hrows : (d.fNext.getD p []).length = (d.fNext.getD q []).length) :
  keyOf cls p (d.fNext.getD p []) = keyOf cls q (d.fNext.getD q []) ↔ cls.getD p 0 = cls.getD q 0 ∧ ∀ a, a < (d.fNext.getD p []).length → cls.getD (stepD d p a) 0 = cls.getD (stepD d q a) 0 := by
 have hin : ∀ r ∈ d.fNext, ∀ x ∈ rowCls cls r, 0 ≤ x ∧ x < 65536 := fun r hr2 x hx => by
  obtain ⟨t, ht, rfl⟩ := List.mem_map.1 hx
  have := hd.next r hr2 t ht
  exact hr _ (getD_mem (by omega))
 unfold keyOf
 simp only [DetSplit.mk.injEq]
 refine and_congr Iff.rfl ⟨fun h a ha => ?_, fun h => ?_⟩
 ·have h1 := twos_inj (hin _ (getD_mem hp)) (hin _ (getD_mem hq)) (bytesOf_inj twos_in twos_in h)
  have h2 := congrArg (fun l => l[a]?) h1
  simp only [rowCls, List.getElem?_map, getD_some (z := (0 : Int)) ha, getD_some (z := (0 : Int)) (show a < (d.fNext.getD q []).length by omega), Option.map_some, Option.some.injEq] at h2
  exact h2
 ·have : rowCls cls (d.fNext.getD p []) = rowCls cls (d.fNext.getD q []) := by
   unfold rowCls
   refine List.ext_getElem? fun a => ?_
   rw [List.getElem?_map, List.getElem?_map]
   by_cases ha : a < (d.fNext.getD p []).length
   ·rw [getD_some (z := (0 : Int)) ha, getD_some (z := (0 : Int)) (show a < (d.fNext.getD q []).length by omega), Option.map_some, Option.map_some]
    exact congrArg some (h a ha)
   ·rw [List.getElem?_eq_none (by omega), List.getElem?_eq_none (by omega)]
  rw [this]
include hL
theorem ClsInv.next {cls next : List Int} {x4 : Int} {m : Nat} (h : ClsInv d L x4 cls) (hR : RoundOf d.fNext cls next m) (hm : m ≤ d.fNext.length) : ClsInv d L m next := by
 have hrow : ∀ p, p < d.fNext.length → (d.fNext.getD p []).length = L := fun p hp => hL _ (getD_mem hp)
 have key : ∀ p q, p < d.fNext.length → q < d.fNext.length → (next.getD p 0 = next.getD q 0 ↔ cls.getD p 0 = cls.getD q 0 ∧ ∀ a, a < L → cls.getD (stepD d p a) 0 = cls.getD (stepD d q a) 0) := fun p q hp hq => by
  rw [hR.same p q _ _ _ _ (getD_some (z := []) hp) (getD_some (z := []) hq) (getD_some (z := 0) (by rw [hR.len]; exact hp)) (getD_some (z := 0) (by rw [hR.len]; exact hq)), keyOf_iff hd h.range h.len hp hq (by rw [hrow p hp, hrow q hq]), hrow p hp]
 have h65 := hd.size
 refine ⟨hR.len, fun x hx => by have := hR.range x hx; omega, fun p q hp hq hw => ?_, fun p q hp hq e => h.marks p q hp hq ((key p q hp hq).1 e).1, .inr ⟨m, rfl, hm, hR.range, hR.onto⟩⟩
 exact (key p q hp hq).2 ⟨h.sound p q hp hq hw, fun a ha => h.sound _ _ (hd.step hp) (hd.step hq) (succ_rs hw ha)⟩
theorem ClsInv.factor {cls next : List Int} {x4 : Int} {m : Nat} (h : ClsInv d L x4 cls) (hR : RoundOf d.fNext cls next m) : ∃ f : Nat → Nat, ∀ i, i < d.fNext.length → f (next.getD i 0).toNat = (cls.getD i 0).toNat := by
 have hrow : ∀ p, p < d.fNext.length → (d.fNext.getD p []).length = L := fun p hp => hL _ (getD_mem hp)
 have key : ∀ p q, p < d.fNext.length → q < d.fNext.length → next.getD p 0 = next.getD q 0 → cls.getD p 0 = cls.getD q 0 := fun p q hp hq e =>
  ((keyOf_iff hd h.range h.len hp hq (by rw [hrow p hp, hrow q hq])).1 ((hR.same p q _ _ _ _ (getD_some (z := []) hp) (getD_some (z := []) hq) (getD_some (z := 0) (by rw [hR.len]; exact hp)) (getD_some (z := 0) (by rw [hR.len]; exact hq))).1 e)).1
 have hx : ∀ j : Nat, j < m → ∃ i : Nat, i < d.fNext.length ∧ next.getD i 0 = (j : Int) := fun j hj => by
  obtain ⟨i, hi⟩ := List.getElem?_of_mem (hR.onto j hj)
  have hlt := (List.getElem?_eq_some_iff.1 hi).1
  exact ⟨i, by rw [hR.len] at hlt; exact hlt, by simp [hi]⟩
 refine ⟨fun j => if hj : j < m then (cls.getD (hx j hj).choose 0).toNat else 0, fun i hi => ?_⟩
 have hr := hR.range _ (getD_mem (l := next) (z := 0) (by rw [hR.len]; exact hi))
 have hj : (next.getD i 0).toNat < m := by omega
 show (if hj : _ then _ else _) = _
 rw [dif_pos hj]
 obtain ⟨k1, k2⟩ := (hx _ hj).choose_spec
 rw [key _ i k1 hi (by rw [k2]; omega)]
theorem ClsInv.le {cls next : List Int} {x4 : Int} {m : Nat} (h : ClsInv d L x4 cls) (hR : RoundOf d.fNext cls next m) : x4 ≤ m := by
 rcases h.count with h0 | ⟨m', h1, h2, h3, h4⟩
 ·omega
 ·obtain ⟨f, hf⟩ := h.factor hd hL hR
  have := onto_le (k := m') (m := m) (f := f) fun j hj => by
   obtain ⟨i, hi⟩ := List.getElem?_of_mem (h4 j hj)
   have hlt := (List.getElem?_eq_some_iff.1 hi).1
   rw [h.len] at hlt
   have hr := hR.range _ (getD_mem (l := next) (z := 0) (by rw [hR.len]; exact hlt))
   refine ⟨(next.getD i 0).toNat, by omega, ?_⟩
   rw [hf i hlt]
   simp [hi]
  omega
theorem ClsInv.ends {cls next : List Int} {x4 : Int} {m : Nat} (h : ClsInv d L x4 cls) (hR : RoundOf d.fNext cls next m) (hm : m ≤ d.fNext.length) (he : (m : Int) = x4) : ∀ p q, p < d.fNext.length → q < d.fNext.length → (next.getD p 0 = next.getD q 0 ↔ rs L (langD d p) = rs L (langD d q)) := by
 have hrow : ∀ p, p < d.fNext.length → (d.fNext.getD p []).length = L := fun p hp => hL _ (getD_mem hp)
 have key : ∀ p q, p < d.fNext.length → q < d.fNext.length → (next.getD p 0 = next.getD q 0 ↔ cls.getD p 0 = cls.getD q 0 ∧ ∀ a, a < L → cls.getD (stepD d p a) 0 = cls.getD (stepD d q a) 0) := fun p q hp hq => by
  rw [hR.same p q _ _ _ _ (getD_some (z := []) hp) (getD_some (z := []) hq) (getD_some (z := 0) (by rw [hR.len]; exact hp)) (getD_some (z := 0) (by rw [hR.len]; exact hq)), keyOf_iff hd h.range h.len hp hq (by rw [hrow p hp, hrow q hq]), hrow p hp]
 intro p q hp hq
 -- no class was split
 have stay : ∀ p q, p < d.fNext.length → q < d.fNext.length → cls.getD p 0 = cls.getD q 0 → next.getD p 0 = next.getD q 0 := by
  intro p q hp hq e
  have hnp := hR.range _ (getD_mem (l := next) (z := 0) (by rw [hR.len]; exact hp))
  have hnq := hR.range _ (getD_mem (l := next) (z := 0) (by rw [hR.len]; exact hq))
  rcases h.count with h0 | ⟨m', h1, h2, h3, h4⟩
  ·omega
  ·have hmm : m' = m := by omega
   subst hmm
   obtain ⟨f, hf⟩ := h.factor hd hL hR
   have hon : ∀ j, j < m' → ∃ i, i < m' ∧ f i = j := fun j hj => by
    obtain ⟨i, hi⟩ := List.getElem?_of_mem (h4 j hj)
    have hlt := (List.getElem?_eq_some_iff.1 hi).1
    rw [h.len] at hlt
    have hr := hR.range _ (getD_mem (l := next) (z := 0) (by rw [hR.len]; exact hlt))
    refine ⟨(next.getD i 0).toNat, by omega, ?_⟩
    rw [hf i hlt]
    simp [hi]
   have := onto_inj hon (i := (next.getD p 0).toNat) (j := (next.getD q 0).toNat) (by omega) (by omega) (by rw [hf p hp, hf q hq, e])
   omega
 constructor
 ·intro e
  have go : ∀ (w : List Nat) (p q : Nat), p < d.fNext.length → q < d.fNext.length → next.getD p 0 = next.getD q 0 → (∀ a ∈ w, a < L) → langD d p w = langD d q w := by
   intro w
   induction w with
   | nil => exact fun p q hp hq e _ => h.marks p q hp hq ((key p q hp hq).1 e).1
   | cons a w ih =>
    intro p q hp hq e hw
    exact ih (stepD d p a) (stepD d q a) (hd.step hp) (hd.step hq) (stay _ _ (hd.step hp) (hd.step hq) (((key p q hp hq).1 e).2 a (hw a List.mem_cons_self))) fun b hb => hw b (List.mem_cons_of_mem _ hb)
  exact rs_congr fun w hw => go w p q hp hq e hw
 ·exact fun e => (key p q hp hq).2 ⟨h.sound p q hp hq e, fun a ha => h.sound _ _ (hd.step hp) (hd.step hq) (succ_rs e ha)⟩
end
end Go.Proofs.Ytiejmeedkhkfgaa


namespace Go.Proofs.Ytiejmeedkhkfgaa
open Go.RowKit Go.MapKept
set_option linter.unusedSimpArgs false
set_option linter.unusedVariables false
set_option maxRecDepth 100000
set_option linter.unusedSectionVars false
section
variable {n : Nat} {R : Nat → Nat → Prop}
structure FirstsInv (n : Nat) (R : Nat → Nat → Prop) (q : Nat) (firsts next : List Int) : Prop where
 len : next.length = n
 size : firsts.length ≤ q
 alike : ∀ p, p < q → ∃ k : Nat, k < firsts.length ∧ next.getD p 0 = (k : Int) ∧ R (firsts.getD k 0).toNat p
 apart : ∀ i j, i < firsts.length → j < firsts.length → R (firsts.getD i 0).toNat (firsts.getD j 0).toNat → i = j
 first : ∀ j, j < firsts.length → ∃ r : Nat, r < q ∧ firsts.getD j 0 = (r : Int) ∧ next.getD r 0 = (j : Int)
theorem FirstsInv.start {next : List Int} (h : next.length = n) : FirstsInv n R 0 [] next :=
 ⟨h, Nat.le_refl _, fun p hp => absurd hp (Nat.not_lt_zero _), fun i j hi => absurd hi (Nat.not_lt_zero _), fun j hj => absurd hj (Nat.not_lt_zero _)⟩
theorem getD_set_eq {α : Type} {l : List α} {i : Nat} {x z : α} (h : i < l.length) : (l.set i x).getD i z = x := by
 rw [List.getD_eq_getElem?_getD, List.getElem?_set_self h]
 rfl
theorem getD_set_ne {α : Type} {l : List α} {i j : Nat} {x z : α} (h : i ≠ j) : (l.set i x).getD j z = l.getD j z := by
 rw [List.getD_eq_getElem?_getD, List.getElem?_set_ne h, ← List.getD_eq_getElem?_getD]
theorem getD_app {α : Type} {l : List α} {x z : α} : (l ++ [x]).getD l.length z = x := by simp [List.getD_eq_getElem?_getD]
theorem getD_app_lt {α : Type} {l r : List α} {z : α} {i : Nat} (h : i < l.length) : (l ++ r).getD i z = l.getD i z := by
 rw [List.getD_eq_getElem?_getD, List.getElem?_append_left h, ← List.getD_eq_getElem?_getD]
theorem FirstsInv.known {q k : Nat} {firsts next : List Int} (h : FirstsInv n R q firsts next) (hq : q < n) (hk : k < firsts.length) (hR : R (firsts.getD k 0).toNat q) : FirstsInv n R (q + 1) firsts (next.set q (k : Int)) := by
 have hl := h.len
 refine ⟨by simp [hl], Nat.le_succ_of_le h.size, fun p hp => ?_, h.apart, fun j hj => ?_⟩
 ·by_cases e : p = q
  ·subst e
   exact ⟨k, hk, getD_set_eq (by omega), hR⟩
  ·obtain ⟨k', h1, h2, h3⟩ := h.alike p (by omega)
   exact ⟨k', h1, by rw [getD_set_ne (Ne.symm e)]; exact h2, h3⟩
 ·obtain ⟨r, h1, h2, h3⟩ := h.first j hj
  exact ⟨r, by omega, h2, by rw [getD_set_ne (by omega)]; exact h3⟩
theorem FirstsInv.new {q : Nat} {firsts next : List Int} (h : FirstsInv n R q firsts next) (hq : q < n) (hr : ∀ q, q < n → R q q) (hs : ∀ p q, p < n → q < n → R p q → R q p) (hno : ∀ k, k < firsts.length → ¬ R (firsts.getD k 0).toNat q) : FirstsInv n R (q + 1) (firsts ++ [(q : Int)]) (next.set q (firsts.length : Int)) := by
 have hl := h.len
 have hll : (firsts ++ [(q : Int)]).length = firsts.length + 1 := by simp
 have hlt : ∀ k, k < firsts.length → (firsts.getD k 0).toNat < q := fun k hk => by
  obtain ⟨r, h1, h2, _⟩ := h.first k hk
  omega
 refine ⟨by simp [hl], by rw [hll]; have := h.size; omega, fun p hp => ?_, fun i j hi hj hR => ?_, fun j hj => ?_⟩
 ·by_cases e : p = q
  ·subst e
   exact ⟨firsts.length, by omega, getD_set_eq (by omega), by rw [getD_app]; exact hr _ hq⟩
  ·obtain ⟨k', h1, h2, h3⟩ := h.alike p (by omega)
   exact ⟨k', by omega, by rw [getD_set_ne (Ne.symm e)]; exact h2, by rw [getD_app_lt h1]; exact h3⟩
 ·rw [hll] at hi hj
  by_cases ei : i = firsts.length <;> by_cases ej : j = firsts.length
  ·omega
  ·subst ei
   rw [getD_app, getD_app_lt (by omega)] at hR
   have := hlt j (by omega)
   exact absurd (hs _ _ hq (by omega) hR) (hno j (by omega))
  ·subst ej
   rw [getD_app, getD_app_lt (by omega)] at hR
   exact absurd hR (hno i (by omega))
  ·rw [getD_app_lt (by omega), getD_app_lt (by omega)] at hR
   exact h.apart i j (by omega) (by omega) hR
 ·rw [hll] at hj
  by_cases ej : j = firsts.length
  ·subst ej
   exact ⟨q, by omega, getD_app, getD_set_eq (by omega)⟩
  ·obtain ⟨r, h1, h2, h3⟩ := h.first j (by omega)
   exact ⟨r, by omega, by rw [getD_app_lt (by omega)]; exact h2, by rw [getD_set_ne (by omega)]; exact h3⟩
structure RoundR (n : Nat) (R : Nat → Nat → Prop) (next : List Int) (m : Nat) : Prop where
 len : next.length = n
 size : m ≤ n
 range : ∀ p, p < n → 0 ≤ next.getD p 0 ∧ next.getD p 0 < (m : Int)
 onto : ∀ j : Nat, j < m → ∃ p, p < n ∧ next.getD p 0 = (j : Int)
 same : ∀ p q, p < n → q < n → (next.getD p 0 = next.getD q 0 ↔ R p q)
theorem FirstsInv.done {firsts next : List Int} (h : FirstsInv n R n firsts next) (hs : ∀ p q, p < n → q < n → R p q → R q p) (ht : ∀ p q r, p < n → q < n → r < n → R p q → R q r → R p r) : RoundR n R next firsts.length := by
 have hlt : ∀ k, k < firsts.length → (firsts.getD k 0).toNat < n := fun k hk => by
  obtain ⟨r, h1, h2, _⟩ := h.first k hk
  omega
 refine ⟨h.len, h.size, fun p hp => ?_, fun j hj => ?_, fun p q hp hq => ⟨fun e => ?_, fun hR => ?_⟩⟩
 ·obtain ⟨k, h1, h2, _⟩ := h.alike p hp
  omega
 ·obtain ⟨r, h1, _, h3⟩ := h.first j hj
  exact ⟨r, h1, h3⟩
 ·obtain ⟨k, h1, h2, h3⟩ := h.alike p hp
  obtain ⟨k', h1', h2', h3'⟩ := h.alike q hq
  have : k = k' := by omega
  subst this
  exact ht _ _ _ hp (hlt k h1) hq (hs _ _ (hlt k h1) hp h3) h3'
 ·obtain ⟨k, h1, h2, h3⟩ := h.alike p hp
  obtain ⟨k', h1', h2', h3'⟩ := h.alike q hq
  have : R (firsts.getD k 0).toNat (firsts.getD k' 0).toNat := ht _ _ _ (hlt k h1) hp (hlt k' h1') h3 (ht _ _ _ hp hq (hlt k' h1') hR (hs _ _ (hlt k' h1') hq h3'))
  have := h.apart k k' h1 h1' this
  omega
structure Onto (n m : Nat) (cls : List Int) : Prop where
 len : cls.length = n
 range : ∀ p, p < n → 0 ≤ cls.getD p 0 ∧ cls.getD p 0 < (m : Int)
 onto : ∀ j : Nat, j < m → ∃ p, p < n ∧ cls.getD p 0 = (j : Int)
theorem Onto.factor {m m' : Nat} {cls next : List Int} (h : Onto n m next) (h' : Onto n m' cls) (ref : ∀ p q, p < n → q < n → next.getD p 0 = next.getD q 0 → cls.getD p 0 = cls.getD q 0) : ∃ f : Nat → Nat, (∀ i, i < n → f (next.getD i 0).toNat = (cls.getD i 0).toNat) ∧ ∀ j, j < m' → ∃ i, i < m ∧ f i = j := by
 have hf : ∃ f : Nat → Nat, ∀ i, i < n → f (next.getD i 0).toNat = (cls.getD i 0).toNat := by
  refine ⟨fun j => if hj : j < m then (cls.getD (h.onto j hj).choose 0).toNat else 0, fun i hi => ?_⟩
  have hr := h.range i hi
  have hj : (next.getD i 0).toNat < m := by omega
  show (if hj : _ then _ else _) = _
  rw [dif_pos hj]
  obtain ⟨k1, k2⟩ := (h.onto _ hj).choose_spec
  rw [ref _ i k1 hi (by rw [k2]; omega)]
 obtain ⟨f, hf⟩ := hf
 refine ⟨f, hf, fun j hj => ?_⟩
 obtain ⟨p, h1, h2⟩ := h'.onto j hj
 have hr := h.range p h1
 exact ⟨(next.getD p 0).toNat, by omega, by rw [hf p h1, h2]; omega⟩
theorem Onto.le {m m' : Nat} {cls next : List Int} (h : Onto n m next) (h' : Onto n m' cls) (ref : ∀ p q, p < n → q < n → next.getD p 0 = next.getD q 0 → cls.getD p 0 = cls.getD q 0) : m' ≤ m := by
 obtain ⟨f, _, h2⟩ := h.factor h' ref
 exact onto_le h2
theorem Onto.stay {m : Nat} {cls next : List Int} (h : Onto n m next) (h' : Onto n m cls) (ref : ∀ p q, p < n → q < n → next.getD p 0 = next.getD q 0 → cls.getD p 0 = cls.getD q 0) {p q : Nat} (hp : p < n) (hq : q < n) (e : cls.getD p 0 = cls.getD q 0) : next.getD p 0 = next.getD q 0 := by
 obtain ⟨f, h1, h2⟩ := h.factor h' ref
 have hnp := h.range p hp
 have hnq := h.range q hq
 have := onto_inj h2 (i := (next.getD p 0).toNat) (j := (next.getD q 0).toNat) (by omega) (by omega) (by rw [h1 p hp, h1 q hq, e])
 omega
theorem Onto.pos {m : Nat} {cls : List Int} (h : Onto n m cls) (hn : 0 < n) : 0 < m := by
 have := h.range 0 hn
 omega
end
end Go.Proofs.Ytiejmeedkhkfgaa


namespace Go.Proofs.Ytiejmeedkhkfgaa
open Go.RowKit Go.MapKept
set_option linter.unusedSimpArgs false
set_option linter.unusedVariables false
set_option maxRecDepth 100000
def isNan_vc (x : Int) (Q : Bool → Prop) : Prop :=
 Q (x != x)
theorem isNan_walk (x : Int) (Q : Bool → Prop) (h : isNan_vc x Q) : Ct 133 [.sv (.one (I x))] [] Q (fun (r : Bool) => .sv (.one (B r))) := by
 have ht := tab_ok
 refine Ct.body Try.func133 rfl rfl rfl rfl (fun c hn => ?_)
 unfold isNan_vc at h
 refine En.seq ?_
 refine En.region ?_
 refine WL.run ht hn 1 ⟨[sl 0 (I x)], []⟩ (by kernel_rfl) ?_
 refine WL.nil ?_
 refine En.seq ?_
 refine En.region ?_
 refine WL.run ht hn 4 ⟨[sl 2 (B (x != x))], []⟩ (by kernel_rfl) ?_
 refine WL.nil ?_
 refine En.ret ?_
 exact En.back ht (x != x) h (by kernel_rfl) rfl
theorem en133 : ∀ args w, (callFunc 133 args).run Try.prog w = .ok (.enter 133 args) w := enters_of Try.func133 (by kernel_rfl) rfl
theorem isNan_ct (x : Int)  : Ct 133 [.sv (.one (I x))] [] (fun (_ : Unit) => True) (fun _ => .sv (.one (B (false)))) := by
 refine (isNan_walk x (fun res_ => res_ = (false)) ?_).fun
 unfold isNan_vc
 simp
def cmpC_vc (x : Int) (y : Int) (Q : Int → Prop) : Prop :=
 IfP (false) (IfP (false) (Q 0) (Q (-1))) (IfP (false) (Q 1) (IfP (decide (x < y)) (Q (-1)) (IfP (decide (x > y)) (Q 1) (Q 0))))
theorem cmpC_walk (x : Int) (y : Int) (Q : Int → Prop) (h : cmpC_vc x y Q) : Ct 94 [.sv (.one (I x)), .sv (.one (I y))] [] Q (fun (r : Int) => .sv (.one (I r))) := by
 have ht := tab_ok
 refine Ct.body Try.func94 rfl rfl rfl rfl (fun c hn => ?_)
 unfold cmpC_vc at h
 refine En.seq ?_
 refine En.region ?_
 refine WL.run ht hn 1 ⟨[sl 0 (I x), sl 1 (I y)], []⟩ (by kernel_rfl) ?_
 refine WL.nil ?_
 refine En.seq ?_
 refine En.region ?_
 refine WL.run ht hn 1 ⟨[sl 0 (I x), sl 1 (I y), sl 7 (I x)], []⟩ (by kernel_rfl) ?_
 refine WL.mt0 (K := []) (p := none) hn (by rfl) (mt_call (isNan_ct x) en133 (caps := []) [] rfl (by rfl) (by kernel_rfl) (by kernel_rfl) (by rfl) (by rfl) (by rfl)) (by rfl) (by rfl) (by rfl) ?_
 refine WL.run ht hn 1 ⟨[sl 0 (I x), sl 1 (I y), sl 5 (B (false))], []⟩ (by kernel_rfl) ?_
 refine WL.nil ?_
 refine En.seq ?_
 refine En.region ?_
 refine WL.run ht hn 1 ⟨[sl 0 (I x), sl 1 (I y), sl 5 (B (false)), sl 9 (I y)], []⟩ (by kernel_rfl) ?_
 refine WL.mt0 (K := []) (p := none) hn (by rfl) (mt_call (isNan_ct y) en133 (caps := []) [] rfl (by rfl) (by kernel_rfl) (by kernel_rfl) (by rfl) (by rfl) (by rfl)) (by rfl) (by rfl) (by rfl) ?_
 refine WL.run ht hn 1 ⟨[sl 0 (I x), sl 1 (I y), sl 5 (B (false)), sl 6 (B (false))], []⟩ (by kernel_rfl) ?_
 refine WL.nil ?_
 refine En.seq ?_
 refine En.seq ?_
 refine En.region ?_
 refine WL.run ht hn 1 ⟨[sl 0 (I x), sl 1 (I y), sl 6 (B (false)), sl 11 (B (false))], []⟩ (by kernel_rfl) ?_
 refine WL.nil ?_
 refine En.cond (b := (false)) (by kernel_rfl) (fun hb => ?_) (fun hb => ?_)
 replace h := h.1 hb
 refine En.seq ?_
 refine En.seq ?_
 refine En.region ?_
 refine WL.run ht hn 1 ⟨[sl 12 (B (false))], []⟩ (by kernel_rfl) ?_
 refine WL.nil ?_
 refine En.cond (b := (false)) (by kernel_rfl) (fun hb => ?_) (fun hb => ?_)
 replace h := h.1 hb
 refine En.seq ?_
 refine En.region ?_
 refine WL.run ht hn 1 ⟨[sl 4 (I 0)], []⟩ (by kernel_rfl) ?_
 refine WL.nil ?_
 refine En.ret ?_
 exact En.back ht 0 h (by kernel_rfl) rfl
 replace h := h.2 hb
 refine En.skip ?_
 refine En.seq ?_
 refine En.region ?_
 refine WL.run ht hn 1 ⟨[sl 4 (I (-1))], []⟩ (by kernel_rfl) ?_
 refine WL.nil ?_
 refine En.ret ?_
 exact En.back ht (-1) h (by kernel_rfl) rfl
 replace h := h.2 hb
 refine En.skip ?_
 refine En.seq ?_
 refine En.seq ?_
 refine En.region ?_
 refine WL.run ht hn 1 ⟨[sl 0 (I x), sl 1 (I y), sl 13 (B (false))], []⟩ (by kernel_rfl) ?_
 refine WL.nil ?_
 refine En.cond (b := (false)) (by kernel_rfl) (fun hb => ?_) (fun hb => ?_)
 replace h := h.1 hb
 refine En.seq ?_
 refine En.region ?_
 refine WL.run ht hn 1 ⟨[sl 4 (I 1)], []⟩ (by kernel_rfl) ?_
 refine WL.nil ?_
 refine En.ret ?_
 exact En.back ht 1 h (by kernel_rfl) rfl
 replace h := h.2 hb
 refine En.skip ?_
 refine En.seq ?_
 refine En.seq ?_
 refine En.region ?_
 refine WL.run ht hn 3 ⟨[sl 0 (I x), sl 1 (I y), sl 16 (B (decide (x < y)))], []⟩ (by kernel_rfl) ?_
 refine WL.nil ?_
 refine En.cond (b := (decide (x < y))) (by kernel_rfl) (fun hb => ?_) (fun hb => ?_)
 replace h := h.1 hb
 refine En.seq ?_
 refine En.region ?_
 refine WL.run ht hn 1 ⟨[sl 4 (I (-1))], []⟩ (by kernel_rfl) ?_
 refine WL.nil ?_
 refine En.ret ?_
 exact En.back ht (-1) h (by kernel_rfl) rfl
 replace h := h.2 hb
 refine En.skip ?_
 refine En.seq ?_
 refine En.seq ?_
 refine En.region ?_
 refine WL.run ht hn 3 ⟨[sl 19 (B (decide (x > y)))], []⟩ (by kernel_rfl) ?_
 refine WL.nil ?_
 refine En.cond (b := (decide (x > y))) (by kernel_rfl) (fun hb => ?_) (fun hb => ?_)
 replace h := h.1 hb
 refine En.seq ?_
 refine En.region ?_
 refine WL.run ht hn 1 ⟨[sl 4 (I 1)], []⟩ (by kernel_rfl) ?_
 refine WL.nil ?_
 refine En.ret ?_
 exact En.back ht 1 h (by kernel_rfl) rfl
 replace h := h.2 hb
 refine En.skip ?_
 refine En.seq ?_
 refine En.region ?_
 refine WL.run ht hn 1 ⟨[sl 4 (I 0)], []⟩ (by kernel_rfl) ?_
 refine WL.nil ?_
 refine En.ret ?_
 exact En.back ht 0 h (by kernel_rfl) rfl
theorem en94 : ∀ args w, (callFunc 94 args).run Try.prog w = .ok (.enter 94 args) w := enters_of Try.func94 (by kernel_rfl) rfl
def cmpI (x y : Int) : Int := if x < y then -1 else if x > y then 1 else 0
theorem cmpC_ct (x : Int) (y : Int)  : Ct 94 [.sv (.one (I x)), .sv (.one (I y))] [] (fun (_ : Unit) => True) (fun _ => .sv (.one (I (cmpI x y)))) := by
 refine (cmpC_walk x y (fun res_ => res_ = (cmpI x y)) ?_).fun
 unfold cmpC_vc cmpI
 refine ⟨fun h => Bool.noConfusion h, fun _ => ⟨fun h => Bool.noConfusion h, fun _ => ⟨fun h => ?_, fun h => ⟨fun h2 => ?_, fun h2 => ?_⟩⟩⟩⟩
 ·have h := of_decide_eq_true h; rw [if_pos h]
 ·have h := of_decide_eq_false h; have h2 := of_decide_eq_true h2; rw [if_neg h, if_pos h2]
 ·have h := of_decide_eq_false h; have h2 := of_decide_eq_false h2; rw [if_neg h, if_neg h2]
def cmpOr_vc (l : (List Int)) (Q : Int → Prop) : Prop :=
 l.length ≤ 9223372036854775807 →
 (∃ (Inv : Int → Prop) (mu : Int → Nat), Inv 0 ∧
 ∀ (x8 : Int) , Inv x8 → (IfP (decide (x8 < (l.length : Int))) (∃ e, idx l x8 = some e ∧
 IfP (e != 0) (Q e) ((Inv (wr (x8 + 1)) ∧ mu (wr (x8 + 1)) < mu x8))) (Q 0)))
theorem cmpOr_walk (l : (List Int)) (Q : Int → Prop) (h : cmpOr_vc l Q) : Ct 93 [.sv (.one (LS intT l))] [] Q (fun (r : Int) => .sv (.one (I r))) := by
 have ht := tab_ok
 refine Ct.body Try.func93 rfl rfl rfl rfl (fun c hn => ?_)
 unfold cmpOr_vc at h
 refine En.lenL 0 (by rfl) (fun hl => ?_)
 replace h := h hl
 clear hl
 refine En.seq ?_
 refine En.region ?_
 refine WL.run ht hn 1 ⟨[sl 0 (LS intT l)], []⟩ (by kernel_rfl) ?_
 refine WL.nil ?_
 refine En.seq ?_
 refine En.region ?_
 refine WL.run ht hn 1 ⟨[sl 0 (LS intT l), sl 3 (I 0)], []⟩ (by kernel_rfl) ?_
 refine WL.nil ?_
 refine En.seq ?_
 refine En.seq ?_
 refine En.region ?_
 refine WL.run ht hn 3 ⟨[sl 3 (I 0), sl 6 (LS intT l), sl 7 (I (l.length : Int)), sl 8 (I 0)], []⟩ (by kernel_rfl) ?_
 refine WL.nil ?_
 refine En.block ?_
 obtain ⟨Inv, mu, h0, hI⟩ := h
 refine En.loop (σ := Int) (fun zz => Inv zz) (fun zz => mu zz) (fun zz => ⟨[sl 3 (I 0), sl 6 (LS intT l), sl 7 (I (l.length : Int)), sl 8 (I zz)], []⟩) 0 h0 (sub_ok (by kernel_rfl)) ?_
 intro x8 h
 replace h := hI _ h
 show En c ⟨[sl 3 (I 0), sl 6 (LS intT l), sl 7 (I (l.length : Int)), sl 8 (I x8)], []⟩ _
 refine En.seq ?_
 refine En.region ?_
 refine WL.run ht hn 1 ⟨[sl 3 (I 0), sl 6 (LS intT l), sl 7 (I (l.length : Int)), sl 8 (I x8), sl 9 (B (decide (x8 < (l.length : Int))))], []⟩ (by kernel_rfl) ?_
 refine WL.nil ?_
 refine En.seq ?_
 refine En.cond (b := (decide (x8 < (l.length : Int)))) (by kernel_rfl) (fun hb => ?_) (fun hb => ?_)
 replace h := h.1 hb
 refine En.skip ?_
 refine En.seq ?_
 refine En.block ?_
 refine En.seq ?_
 refine En.region ?_
 obtain ⟨e, he, h⟩ := h
 refine WL.val hn (by rfl) (val_index (T := intT) (l := l) (i := x8) ht rfl (by rfl) (by rfl) (by rfl) (by rfl) (by rfl) (by rfl) he) (by rfl) ?_
 refine WL.val hn (by rfl) (val_load (s := .one (I e)) ht rfl (by rfl) (by rfl) (by rfl) (by rfl) (by rfl)) (by rfl) ?_
 refine WL.run ht hn 1 ⟨[sl 3 (I 0), sl 5 (I e), sl 6 (LS intT l), sl 7 (I (l.length : Int)), sl 8 (I x8)], []⟩ (by kernel_rfl) ?_
 refine WL.nil ?_
 refine En.seq ?_
 refine En.region ?_
 refine WL.run ht hn 3 ⟨[sl 3 (I 0), sl 5 (I e), sl 6 (LS intT l), sl 7 (I (l.length : Int)), sl 8 (I x8), sl 14 (B (e != 0))], []⟩ (by kernel_rfl) ?_
 refine WL.nil ?_
 refine En.cond (b := (e != 0)) (by kernel_rfl) (fun hb => ?_) (fun hb => ?_)
 replace h := h.1 hb
 refine En.seq ?_
 refine En.region ?_
 refine WL.run ht hn 2 ⟨[sl 2 (I e)], []⟩ (by kernel_rfl) ?_
 refine WL.nil ?_
 refine En.ret ?_
 exact En.back ht e h (by kernel_rfl) rfl
 replace h := h.2 hb
 refine En.skip ?_
 refine En.region ?_
 refine WL.run ht hn 2 ⟨[sl 3 (I 0), sl 6 (LS intT l), sl 7 (I (l.length : Int)), sl 8 (I (wr (x8 + 1)))], []⟩ (by kernel_rfl) ?_
 refine WL.nil ?_
 exact En.at (I := fun zz => Inv zz ∧ mu zz < mu x8) (T := fun zz => ⟨[sl 3 (I 0), sl 6 (LS intT l), sl 7 (I (l.length : Int)), sl 8 (I zz)], []⟩) (wr (x8 + 1)) h (by kernel_rfl)
 replace h := h.2 hb
 refine En.exit rfl ?_
 refine En.seq ?_
 refine En.region ?_
 refine WL.run ht hn 2 ⟨[sl 2 (I 0)], []⟩ (by kernel_rfl) ?_
 refine WL.nil ?_
 refine En.ret ?_
 exact En.back ht 0 h (by kernel_rfl) rfl
theorem en93 : ∀ args w, (callFunc 93 args).run Try.prog w = .ok (.enter 93 args) w := enters_of Try.func93 (by kernel_rfl) rfl
def firstNZ : List Int → Int
 | [] => 0
 | x :: l => if x != 0 then x else firstNZ l
theorem firstNZ_drop {l : List Int} {k : Nat} (h : k < l.length) : firstNZ (l.drop k) = if l[k] != 0 then l[k] else firstNZ (l.drop (k + 1)) := by
 rw [List.drop_eq_getElem_cons h, firstNZ]
theorem cmpOr_ct (l : (List Int))  : Ct 93 [.sv (.one (LS intT l))] [] (fun (_ : Unit) => True) (fun _ => .sv (.one (I (firstNZ l)))) := by
 refine (cmpOr_walk l (fun res_ => res_ = (firstNZ l)) ?_).fun
 unfold cmpOr_vc
 intro _
 refine ⟨fun i => ∃ k : Nat, i = k ∧ k ≤ l.length ∧ firstNZ (l.drop k) = firstNZ l, fun i => l.length - i.toNat, ⟨0, rfl, Nat.zero_le _, rfl⟩, ?_⟩
 rintro i ⟨k, rfl, hk, he⟩
 refine ⟨fun hb => ?_, fun hb => ?_⟩
 ·have hlt := dlt hb
  rw [firstNZ_drop hlt] at he
  refine ⟨_, idx_at hlt, fun h => ?_, fun h => ⟨⟨k + 1, wsucc (by omega), hlt, ?_⟩, mu_up hlt (by omega)⟩⟩
  ·rw [if_pos h] at he
   exact he
  ·rw [if_neg (by rw [h]; decide)] at he
   exact he
 ·rw [List.drop_eq_nil_of_le (dge hb)] at he
  exact he
def samOrd_vc (x : ApiArrow) (y : ApiArrow) (Q : Int → Prop) : Prop :=
 Q (firstNZ ([(cmpI x.fFrom y.fFrom), (cmpI x.fLetter y.fLetter), (cmpI x.fTo y.fTo)] : (List Int)))
noncomputable abbrev qsamOrd0 (x : ApiArrow) (y : ApiArrow) := (firstNZ ([(cmpI x.fFrom y.fFrom), (cmpI x.fLetter y.fLetter), (cmpI x.fTo y.fTo)] : (List Int)))
theorem samOrd_walk (x : ApiArrow) (y : ApiArrow) (Q : Int → Prop) (h : samOrd_vc x y Q) : Ct 45 [.sv (.agg [I x.fFrom, I x.fLetter, I x.fTo]), .sv (.agg [I y.fFrom, I y.fLetter, I y.fTo])] [] Q (fun (r : Int) => .sv (.one (I r))) := by
 have ht := tab_ok
 refine Ct.body Try.func45 rfl rfl rfl rfl (fun c hn => ?_)
 unfold samOrd_vc at h
 refine En.seq ?_
 refine En.region ?_
 refine WL.run ht hn 3 ⟨[sl 2 (.ptr 0 0), sl 3 (.ptr 1 0)], [.box (ApiArrow.cl x) 26 false, .box (ApiArrow.cl y) 26 false]⟩ (by kernel_rfl) ?_
 refine WL.nil ?_
 refine En.seq ?_
 refine En.regionA ⟨[sl 2 (.ptr 0 0), sl 3 (.ptr 1 0)], [.sv (.one (.ptr 0 0)), .sv (.one (I x.fFrom)), .sv (.one (.ptr 1 0)), .sv (.one (I y.fFrom)), .sv (.one (I (cmpI x.fFrom y.fFrom))), .sv (.one (.ptr 0 1)), .sv (.one (I x.fLetter)), .sv (.one (.ptr 1 1)), .sv (.one (I y.fLetter)), .sv (.one (I (cmpI x.fLetter y.fLetter))), .sv (.one (.ptr 0 2)), .sv (.one (I x.fTo)), .sv (.one (.ptr 1 2)), .sv (.one (I y.fTo)), .sv (.one (I (cmpI x.fTo y.fTo))), .sv (.one (.own 2)), .sv (.one (I (qsamOrd0 x y))), .sv (.one (I (qsamOrd0 x y)))], [⟨.box (ApiArrow.cl x) 26 false, none, none, none⟩, ⟨.box (ApiArrow.cl y) 26 false, none, none, none⟩, ⟨rowI 3 intT ([(cmpI x.fFrom y.fFrom), (cmpI x.fLetter y.fLetter), (cmpI x.fTo y.fTo)] : (List Int)), some 15, none, none⟩]⟩ ⟨[sl 4 (I (qsamOrd0 x y))], [.gone, .gone, .gone]⟩ (by kernel_rfl) hn (by kernel_rfl) (by rfl) (by kernel_rfl) ?_ (by kernel_rfl) ?_
 ·exact ⟨.mt ⟨[sl 2 (.ptr 0 0)], []⟩ [] none (by kernel_rfl) (by rfl) (mt_ev ht (by kernel_rfl)) rfl rfl rfl rfl,
  .mt ⟨[sl 5 (.ptr 0 0)], [.box (ApiArrow.cl x) 26 false]⟩ [] none (by kernel_rfl) (by rfl) (mt_ev ht (by kernel_rfl)) rfl rfl rfl rfl,
  .mt ⟨[sl 3 (.ptr 1 0)], []⟩ [] none (by kernel_rfl) (by rfl) (mt_ev ht (by kernel_rfl)) rfl rfl rfl rfl,
  .mt ⟨[sl 7 (.ptr 1 0)], [.gone, .box (ApiArrow.cl y) 26 false]⟩ [] none (by kernel_rfl) (by rfl) (mt_ev ht (by kernel_rfl)) rfl rfl rfl rfl,
  .mt ⟨[sl 6 (I x.fFrom), sl 8 (I y.fFrom)], []⟩ [] none (by kernel_rfl) (by rfl) (mt_call (cmpC_ct x.fFrom y.fFrom) en94 (caps := []) [] rfl (by rfl) (by kernel_rfl) (by kernel_rfl) (by rfl) (by rfl) (by rfl)) rfl rfl rfl rfl,
  .mt ⟨[sl 2 (.ptr 0 0)], []⟩ [] none (by kernel_rfl) (by rfl) (mt_ev ht (by kernel_rfl)) rfl rfl rfl rfl,
  .mt ⟨[sl 10 (.ptr 0 1)], [.box (ApiArrow.cl x) 26 false]⟩ [] none (by kernel_rfl) (by rfl) (mt_ev ht (by kernel_rfl)) rfl rfl rfl rfl,
  .mt ⟨[sl 3 (.ptr 1 0)], []⟩ [] none (by kernel_rfl) (by rfl) (mt_ev ht (by kernel_rfl)) rfl rfl rfl rfl,
  .mt ⟨[sl 12 (.ptr 1 1)], [.gone, .box (ApiArrow.cl y) 26 false]⟩ [] none (by kernel_rfl) (by rfl) (mt_ev ht (by kernel_rfl)) rfl rfl rfl rfl,
  .mt ⟨[sl 11 (I x.fLetter), sl 13 (I y.fLetter)], []⟩ [] none (by kernel_rfl) (by rfl) (mt_call (cmpC_ct x.fLetter y.fLetter) en94 (caps := []) [] rfl (by rfl) (by kernel_rfl) (by kernel_rfl) (by rfl) (by rfl) (by rfl)) rfl rfl rfl rfl,
  .mt ⟨[sl 2 (.ptr 0 0)], []⟩ [] none (by kernel_rfl) (by rfl) (mt_ev ht (by kernel_rfl)) rfl rfl rfl rfl,
  .mt ⟨[sl 15 (.ptr 0 2)], [.box (ApiArrow.cl x) 26 false]⟩ [] none (by kernel_rfl) (by rfl) (mt_ev ht (by kernel_rfl)) rfl rfl rfl rfl,
  .mt ⟨[sl 3 (.ptr 1 0)], []⟩ [] none (by kernel_rfl) (by rfl) (mt_ev ht (by kernel_rfl)) rfl rfl rfl rfl,
  .mt ⟨[sl 17 (.ptr 1 2)], [.gone, .box (ApiArrow.cl y) 26 false]⟩ [] none (by kernel_rfl) (by rfl) (mt_ev ht (by kernel_rfl)) rfl rfl rfl rfl,
  .mt ⟨[sl 16 (I x.fTo), sl 18 (I y.fTo)], []⟩ [] none (by kernel_rfl) (by rfl) (mt_call (cmpC_ct x.fTo y.fTo) en94 (caps := []) [] rfl (by rfl) (by kernel_rfl) (by kernel_rfl) (by rfl) (by rfl) (by rfl)) rfl rfl rfl rfl,
  .mt ⟨[sl 9 (I (cmpI x.fFrom y.fFrom)), sl 14 (I (cmpI x.fLetter y.fLetter)), sl 19 (I (cmpI x.fTo y.fTo))], []⟩ [] (some 2) (by kernel_rfl) (by rfl) (mt_lit (T := intT) ([(cmpI x.fFrom y.fFrom), (cmpI x.fLetter y.fLetter), (cmpI x.fTo y.fTo)] : (List Int)) (mt_bsl 2 (r := cellsOf intT ([(cmpI x.fFrom y.fFrom), (cmpI x.fLetter y.fLetter), (cmpI x.fTo y.fTo)] : (List Int))) ht rfl (by rfl) (by rfl) (by rfl) (by kernel_rfl) (by rfl)) (fun _ h => by cases h) (fun _ => rfl) (fun _ => rfl) (by rfl) (Nat.le_of_ble_eq_true rfl)) rfl rfl rfl rfl,
  .mt ⟨[sl 20 (.own 2)], [.gone, .gone, rowI 3 intT ([(cmpI x.fFrom y.fFrom), (cmpI x.fLetter y.fLetter), (cmpI x.fTo y.fTo)] : (List Int))]⟩ [] none (by kernel_rfl) (by rfl) (mt_lend (T := intT) (l := ([(cmpI x.fFrom y.fFrom), (cmpI x.fLetter y.fLetter), (cmpI x.fTo y.fTo)] : (List Int))) 2 (by rfl) (by rfl) (mt_call (cmpOr_ct ([(cmpI x.fFrom y.fFrom), (cmpI x.fLetter y.fLetter), (cmpI x.fTo y.fTo)] : (List Int))) en93 (caps := []) [] rfl (by rfl) (by kernel_rfl) (by kernel_rfl) (by rfl) (by rfl) (by rfl))) rfl rfl rfl rfl,
  .mt ⟨[sl 21 (I (qsamOrd0 x y))], []⟩ [] none (by kernel_rfl) (by rfl) (mt_ev ht (by kernel_rfl)) rfl rfl rfl rfl,
  trivial⟩
 ·refine En.ret ?_
  exact En.back ht (qsamOrd0 x y) h (by kernel_rfl) rfl
theorem en45 : ∀ args w, (callFunc 45 args).run Try.prog w = .ok (.enter 45 args) w := enters_of Try.func45 (by kernel_rfl) rfl
def ordA (x y : ApiArrow) : Int := firstNZ [cmpI x.fFrom y.fFrom, cmpI x.fLetter y.fLetter, cmpI x.fTo y.fTo]
theorem samOrd_ct (x : ApiArrow) (y : ApiArrow)  : Ct 45 [.sv (.agg [I x.fFrom, I x.fLetter, I x.fTo]), .sv (.agg [I y.fFrom, I y.fLetter, I y.fTo])] [] (fun (_ : Unit) => True) (fun _ => .sv (.one (I (ordA x y)))) := by
 refine (samOrd_walk x y (fun res_ => res_ = (ordA x y)) ?_).fun
 unfold samOrd_vc
 rfl
def samC1_vc (p : Int) (g : ApiGraph) (Q : Bool → Prop) : Prop :=
 Q ((decide (p < 0)) || (decide (p ≥ g.fPlaces)))
theorem samC1_walk (p : Int) (g : ApiGraph) (Q : Bool → Prop) (h : samC1_vc p g Q) : Ct 42 [.sv (.one (I p)), .sv (.one (.ptr 0 0))] [.box [I g.fLetters, I g.fPlaces, LS ApiArrow.ty g.fArrows] 24 true] Q (fun (r : Bool) => .sv (.one (B r))) := by
 have ht := tab_ok
 refine Ct.body Try.func42 rfl rfl rfl rfl (fun c hn => ?_)
 unfold samC1_vc at h
 refine En.seq ?_
 refine En.region ?_
 refine WL.run ht hn 1 ⟨[sl 0 (I p), sl 1 (.ptr 0 0)], [.box (ApiGraph.cl g) 24 true]⟩ (by kernel_rfl) ?_
 refine WL.nil ?_
 refine En.seq ?_
 refine En.region ?_
 refine WL.run ht hn 3 ⟨[sl 0 (I p), sl 1 (.ptr 0 0), sl 6 (B (decide (p < 0)))], [.box (ApiGraph.cl g) 24 true]⟩ (by kernel_rfl) ?_
 refine WL.thru ⟨[sl 3 (B ((decide (p < 0)) || (decide (p ≥ g.fPlaces))))], [.gone]⟩ ?_ ?_
 refine splitB (decide (p < 0)) (fun hb0 => ?_) (fun hb0 => ?_)
 refine WL.setB 6 hb0 (by kernel_rfl) ?_
 refine WL.run ht hn 6 ⟨[sl 3 (B true)], [.gone]⟩ (by kernel_rfl) ?_
 exact WL.nil (sub_ok (by simp only [hb0]; kernel_rfl))
 refine WL.setB 6 hb0 (by kernel_rfl) ?_
 refine WL.run ht hn 6 ⟨[sl 3 (B (decide (p ≥ g.fPlaces)))], [.gone]⟩ (by kernel_rfl) ?_
 exact WL.nil (sub_ok (by simp only [hb0]; kernel_rfl))
 refine En.ret ?_
 exact En.back ht ((decide (p < 0)) || (decide (p ≥ g.fPlaces))) h (by kernel_rfl) rfl
theorem en42 : ∀ args w, (callFunc 42 args).run Try.prog w = .ok (.enter 42 args) w := enters_of Try.func42 (by kernel_rfl) rfl
theorem samC1_ct (p : Int) (g : ApiGraph)  : Ct 42 [.sv (.one (I p)), .sv (.one (.ptr 0 0))] [.box [I g.fLetters, I g.fPlaces, LS ApiArrow.ty g.fArrows] 24 true] (fun (_ : Unit) => True) (fun _ => .sv (.one (B ((decide (p < 0)) || (decide (p ≥ g.fPlaces)))))) := by
 refine (samC1_walk p g (fun res_ => res_ = ((decide (p < 0)) || (decide (p ≥ g.fPlaces)))) ?_).fun
 unfold samC1_vc
 rfl
def offG (g : ApiGraph) (p : Int) : Bool := (decide (p < 0)) || (decide (p ≥ g.fPlaces))
def samC2_vc (x : ApiArrow) (domno : (Int → Prop)) (no : (Int → Bool)) (g : ApiGraph) (Q : Bool → Prop) : Prop :=
 ∃ J : Bool → Prop, ((domno x.fFrom) ∧
 IfP (no x.fFrom) (J true) ((domno x.fTo) ∧
 J (((no x.fTo) || (decide (x.fLetter < 0))) || (decide (x.fLetter ≥ g.fLetters))))) ∧
 (∀ (x4 : Bool), J x4 → Q x4)
theorem samC2_walk (x : ApiArrow) (domno : (Int → Prop)) (no : (Int → Bool)) (g : ApiGraph) (Q : Bool → Prop) (h : samC2_vc x domno no g Q) : Ct 44 [.sv (.agg [I x.fFrom, I x.fLetter, I x.fTo]), .sv (.one (.ptr 0 0)), .sv (.one (.ptr 1 0))] [.box [.rd (fvR (fun (x : Int) => [.sv (.one (I x))]) (fun (r : Bool) => .sv (.one (B r))) domno no)] 103 true, .box [I g.fLetters, I g.fPlaces, LS ApiArrow.ty g.fArrows] 24 true] Q (fun (r : Bool) => .sv (.one (B r))) := by
 have ht := tab_ok
 refine Ct.body Try.func44 rfl rfl rfl rfl (fun c hn => ?_)
 unfold samC2_vc at h
 refine En.seq ?_
 refine En.region ?_
 refine WL.run ht hn 2 ⟨[sl 1 (.ptr 0 0), sl 2 (.ptr 1 0), sl 3 (.ptr 2 0)], [.box [.rd (fvR (fun (x : Int) => [.sv (.one (I x))]) (fun (r : Bool) => .sv (.one (B r))) domno no)] 103 true, .box (ApiGraph.cl g) 24 true, .box (ApiArrow.cl x) 26 false]⟩ (by kernel_rfl) ?_
 refine WL.nil ?_
 obtain ⟨J, h, hJ⟩ := h
 refine En.seqJ (σ := Bool) (fun zz => J zz) (fun zz => ⟨[sl 4 (B zz)], [.gone, .gone, .gone]⟩) ?_ ?_
 refine En.region ?_
 refine WL.run ht hn 3 ⟨[sl 1 (.ptr 0 0), sl 2 (.ptr 1 0), sl 3 (.ptr 2 0), sl 5 (.rd (fvR (fun (x : Int) => [.sv (.one (I x))]) (fun (r : Bool) => .sv (.one (B r))) domno no)), sl 7 (I x.fFrom)], [.box [.rd (fvR (fun (x : Int) => [.sv (.one (I x))]) (fun (r : Bool) => .sv (.one (B r))) domno no)] 103 true, .box (ApiGraph.cl g) 24 true, .box (ApiArrow.cl x) 26 false]⟩ (by kernel_rfl) ?_
 have hp := h.1
 replace h := h.2
 refine WL.mt0 (K := []) (p := none) hn (by rfl) (mt_callv x.fFrom hp rfl (by rfl) (by rfl) (by rfl) (by rfl)) (by rfl) (by rfl) (by rfl) ?_
 refine WL.run ht hn 1 ⟨[sl 1 (.ptr 0 0), sl 2 (.ptr 1 0), sl 3 (.ptr 2 0), sl 9 (B (no x.fFrom))], [.box [.rd (fvR (fun (x : Int) => [.sv (.one (I x))]) (fun (r : Bool) => .sv (.one (B r))) domno no)] 103 true, .box (ApiGraph.cl g) 24 true, .box (ApiArrow.cl x) 26 false]⟩ (by kernel_rfl) ?_
 refine splitB (no x.fFrom) (fun hb => ?_) (fun hb => ?_)
 replace h := h.1 hb
 refine WL.setB 9 hb (by kernel_rfl) ?_
 refine WL.run ht hn 18 ⟨[sl 4 (B true)], [.gone, .gone, .gone]⟩ (by kernel_rfl) ?_
 refine WL.nil ?_
 exact En.at (I := fun zz => J zz) (T := fun zz => ⟨[sl 4 (B zz)], [.gone, .gone, .gone]⟩) true h (by kernel_rfl)
 replace h := h.2 hb
 refine WL.setB 9 hb (by kernel_rfl) ?_
 refine WL.run ht hn 3 ⟨[sl 2 (.ptr 1 0), sl 3 (.ptr 2 0), sl 9 (B false), sl 10 (.rd (fvR (fun (x : Int) => [.sv (.one (I x))]) (fun (r : Bool) => .sv (.one (B r))) domno no)), sl 12 (I x.fTo)], [.gone, .box (ApiGraph.cl g) 24 true, .box (ApiArrow.cl x) 26 false]⟩ (by kernel_rfl) ?_
 have hp := h.1
 replace h := h.2
 refine WL.mt0 (K := []) (p := none) hn (by rfl) (mt_callv x.fTo hp rfl (by rfl) (by rfl) (by rfl) (by rfl)) (by rfl) (by rfl) (by rfl) ?_
 refine WL.run ht hn 2 ⟨[sl 2 (.ptr 1 0), sl 3 (.ptr 2 0), sl 15 (B (no x.fTo))], [.gone, .box (ApiGraph.cl g) 24 true, .box (ApiArrow.cl x) 26 false]⟩ (by kernel_rfl) ?_
 refine WL.thru ⟨[sl 4 (B (((no x.fTo) || (decide (x.fLetter < 0))) || (decide (x.fLetter ≥ g.fLetters))))], [.gone, .gone, .gone]⟩ ?_ ?_
 refine splitB (no x.fTo) (fun hb0 => ?_) (fun hb0 => ?_)
 refine WL.setB 15 hb0 (by kernel_rfl) ?_
 refine WL.run ht hn 12 ⟨[sl 4 (B true)], [.gone, .gone, .gone]⟩ (by kernel_rfl) ?_
 exact WL.nil (sub_ok (by simp only [hb0]; kernel_rfl))
 refine WL.setB 15 hb0 (by kernel_rfl) ?_
 refine WL.run ht hn 5 ⟨[sl 2 (.ptr 1 0), sl 3 (.ptr 2 0), sl 20 (B (decide (x.fLetter < 0)))], [.gone, .box (ApiGraph.cl g) 24 true, .box (ApiArrow.cl x) 26 false]⟩ (by kernel_rfl) ?_
 refine splitB (decide (x.fLetter < 0)) (fun hb1 => ?_) (fun hb1 => ?_)
 refine WL.setB 20 hb1 (by kernel_rfl) ?_
 refine WL.run ht hn 7 ⟨[sl 4 (B true)], [.gone, .gone, .gone]⟩ (by kernel_rfl) ?_
 exact WL.nil (sub_ok (by simp only [hb0, hb1]; kernel_rfl))
 refine WL.setB 20 hb1 (by kernel_rfl) ?_
 refine WL.run ht hn 7 ⟨[sl 4 (B (decide (x.fLetter ≥ g.fLetters)))], [.gone, .gone, .gone]⟩ (by kernel_rfl) ?_
 exact WL.nil (sub_ok (by simp only [hb0, hb1]; kernel_rfl))
 exact En.at (I := fun zz => J zz) (T := fun zz => ⟨[sl 4 (B zz)], [.gone, .gone, .gone]⟩) (((no x.fTo) || (decide (x.fLetter < 0))) || (decide (x.fLetter ≥ g.fLetters))) h (by kernel_rfl)
 intro x4 h
 replace h := hJ _ h
 show En c ⟨[sl 4 (B x4)], [.gone, .gone, .gone]⟩ _
 refine En.ret ?_
 exact En.back ht x4 h (by kernel_rfl) rfl
theorem en44 : ∀ args w, (callFunc 44 args).run Try.prog w = .ok (.enter 44 args) w := enters_of Try.func44 (by kernel_rfl) rfl
def offA (no : Int → Bool) (g : ApiGraph) (x : ApiArrow) : Bool := no x.fFrom || ((no x.fTo || (decide (x.fLetter < 0))) || (decide (x.fLetter ≥ g.fLetters)))
theorem samC2_ct (x : ApiArrow) (domno : (Int → Prop)) (no : (Int → Bool)) (g : ApiGraph) (hp : domno x.fFrom ∧ domno x.fTo)  : Ct 44 [.sv (.agg [I x.fFrom, I x.fLetter, I x.fTo]), .sv (.one (.ptr 0 0)), .sv (.one (.ptr 1 0))] [.box [.rd (fvR (fun (x : Int) => [.sv (.one (I x))]) (fun (r : Bool) => .sv (.one (B r))) domno no)] 103 true, .box [I g.fLetters, I g.fPlaces, LS ApiArrow.ty g.fArrows] 24 true] (fun (_ : Unit) => True) (fun _ => .sv (.one (B (offA no g x)))) := by
 refine (samC2_walk x domno no g (fun res_ => res_ = (offA no g x)) ?_).fun
 unfold samC2_vc
 refine ⟨fun b => b = offA no g x, ⟨hp.1, fun h => ?_, fun h => ⟨hp.2, ?_⟩⟩, fun _ h => h⟩
 ·show true = _
  unfold offA
  rw [h]
  rfl
 ·show _ = _
  unfold offA
  rw [h]
  rfl
def indexApiArrow_vc (l : (List ApiArrow)) (dom : (ApiArrow → Prop)) (φ : (ApiArrow → Bool)) (Q : Int → Prop) : Prop :=
 l.length ≤ 9223372036854775807 →
 (∃ (Inv : Int → Prop) (mu : Int → Nat), Inv 0 ∧
 ∀ (x8 : Int) , Inv x8 → (IfP (decide (x8 < (l.length : Int))) (∃ e, idx l x8 = some e ∧
 (dom e) ∧
 IfP (φ e) (Q x8) ((Inv (wr (x8 + 1)) ∧ mu (wr (x8 + 1)) < mu x8))) (Q (-1))))
theorem indexApiArrow_walk (l : (List ApiArrow)) (dom : (ApiArrow → Prop)) (φ : (ApiArrow → Bool)) (Q : Int → Prop) (h : indexApiArrow_vc l dom φ Q) : Ct 92 [.sv (.one (LS ApiArrow.ty l)), .sv (.one (.rd (fvR (fun x => [.sv (.agg [I x.fFrom, I x.fLetter, I x.fTo])]) (fun b => .sv (.one (B b))) dom φ)))] [] Q (fun (r : Int) => .sv (.one (I r))) := by
 have ht := tab_ok
 refine Ct.body Try.func92 rfl rfl rfl rfl (fun c hn => ?_)
 unfold indexApiArrow_vc at h
 refine En.lenL 0 (by rfl) (fun hl => ?_)
 replace h := h hl
 clear hl
 refine En.seq ?_
 refine En.region ?_
 refine WL.run ht hn 1 ⟨[sl 0 (LS ApiArrow.ty l), sl 1 (.rd (fvR (fun x => [.sv (.agg (ApiArrow.cl x))]) (fun b => .sv (.one (B b))) dom φ))], []⟩ (by kernel_rfl) ?_
 refine WL.nil ?_
 refine En.seq ?_
 refine En.seq ?_
 refine En.region ?_
 refine WL.run ht hn 3 ⟨[sl 0 (LS ApiArrow.ty l), sl 1 (.rd (fvR (fun x => [.sv (.agg (ApiArrow.cl x))]) (fun b => .sv (.one (B b))) dom φ)), sl 7 (I (l.length : Int)), sl 8 (I 0)], []⟩ (by kernel_rfl) ?_
 refine WL.nil ?_
 refine En.block ?_
 obtain ⟨Inv, mu, h0, hI⟩ := h
 refine En.loop (σ := Int) (fun zz => Inv zz) (fun zz => mu zz) (fun zz => ⟨[sl 0 (LS ApiArrow.ty l), sl 1 (.rd (fvR (fun x => [.sv (.agg (ApiArrow.cl x))]) (fun b => .sv (.one (B b))) dom φ)), sl 7 (I (l.length : Int)), sl 8 (I zz)], []⟩) 0 h0 (sub_ok (by kernel_rfl)) ?_
 intro x8 h
 replace h := hI _ h
 show En c ⟨[sl 0 (LS ApiArrow.ty l), sl 1 (.rd (fvR (fun x => [.sv (.agg (ApiArrow.cl x))]) (fun b => .sv (.one (B b))) dom φ)), sl 7 (I (l.length : Int)), sl 8 (I x8)], []⟩ _
 refine En.seq ?_
 refine En.region ?_
 refine WL.run ht hn 1 ⟨[sl 0 (LS ApiArrow.ty l), sl 1 (.rd (fvR (fun x => [.sv (.agg (ApiArrow.cl x))]) (fun b => .sv (.one (B b))) dom φ)), sl 7 (I (l.length : Int)), sl 8 (I x8), sl 9 (B (decide (x8 < (l.length : Int))))], []⟩ (by kernel_rfl) ?_
 refine WL.nil ?_
 refine En.seq ?_
 refine En.cond (b := (decide (x8 < (l.length : Int)))) (by kernel_rfl) (fun hb => ?_) (fun hb => ?_)
 replace h := h.1 hb
 refine En.skip ?_
 refine En.seq ?_
 refine En.block ?_
 refine En.seq ?_
 refine En.region ?_
 refine WL.run ht hn 2 ⟨[sl 0 (LS ApiArrow.ty l), sl 1 (.rd (fvR (fun x => [.sv (.agg (ApiArrow.cl x))]) (fun b => .sv (.one (B b))) dom φ)), sl 5 (I x8), sl 7 (I (l.length : Int)), sl 8 (I x8)], []⟩ (by kernel_rfl) ?_
 refine WL.nil ?_
 refine En.seq ?_
 refine En.region ?_
 refine WL.run ht hn 3 ⟨[sl 0 (LS ApiArrow.ty l), sl 1 (.rd (fvR (fun x => [.sv (.agg (ApiArrow.cl x))]) (fun b => .sv (.one (B b))) dom φ)), sl 5 (I x8), sl 7 (I (l.length : Int)), sl 8 (I x8), sl 11 (.rd (fvR (fun x => [.sv (.agg (ApiArrow.cl x))]) (fun b => .sv (.one (B b))) dom φ)), sl 12 (LS ApiArrow.ty l), sl 13 (I x8)], []⟩ (by kernel_rfl) ?_
 obtain ⟨e, he, h⟩ := h
 refine WL.val hn (by rfl) (val_index (T := ApiArrow.ty) (l := l) (i := x8) ht rfl (by rfl) (by rfl) (by rfl) (by rfl) (by rfl) (by rfl) he) (by rfl) ?_
 refine WL.val hn (by rfl) (val_load (s := .agg (ApiArrow.cl e)) ht rfl (by rfl) (by rfl) (by rfl) (by rfl) (by rfl)) (by rfl) ?_
 have hp := h.1
 replace h := h.2
 refine WL.mt0 (K := []) (p := none) hn (by rfl) (mt_callv e hp rfl (by rfl) (by rfl) (by rfl) (by rfl)) (by rfl) (by rfl) (by rfl) ?_
 refine WL.nil ?_
 refine En.cond (b := (φ e)) (by kernel_rfl) (fun hb => ?_) (fun hb => ?_)
 replace h := h.1 hb
 refine En.seq ?_
 refine En.region ?_
 refine WL.run ht hn 2 ⟨[sl 4 (I x8)], []⟩ (by kernel_rfl) ?_
 refine WL.nil ?_
 refine En.ret ?_
 exact En.back ht x8 h (by kernel_rfl) rfl
 replace h := h.2 hb
 refine En.skip ?_
 refine En.region ?_
 refine WL.run ht hn 2 ⟨[sl 0 (LS ApiArrow.ty l), sl 1 (.rd (fvR (fun x => [.sv (.agg (ApiArrow.cl x))]) (fun b => .sv (.one (B b))) dom φ)), sl 7 (I (l.length : Int)), sl 8 (I (wr (x8 + 1)))], []⟩ (by kernel_rfl) ?_
 refine WL.nil ?_
 exact En.at (I := fun zz => Inv zz ∧ mu zz < mu x8) (T := fun zz => ⟨[sl 0 (LS ApiArrow.ty l), sl 1 (.rd (fvR (fun x => [.sv (.agg (ApiArrow.cl x))]) (fun b => .sv (.one (B b))) dom φ)), sl 7 (I (l.length : Int)), sl 8 (I zz)], []⟩) (wr (x8 + 1)) h (by kernel_rfl)
 replace h := h.2 hb
 refine En.exit rfl ?_
 refine En.seq ?_
 refine En.region ?_
 refine WL.run ht hn 1 ⟨[sl 4 (I (-1))], []⟩ (by kernel_rfl) ?_
 refine WL.nil ?_
 refine En.ret ?_
 exact En.back ht (-1) h (by kernel_rfl) rfl
theorem en92 : ∀ args w, (callFunc 92 args).run Try.prog w = .ok (.enter 92 args) w := enters_of Try.func92 (by kernel_rfl) rfl
theorem indexApiArrow_ct (l : List ApiArrow) (dom : ApiArrow → Prop) (φ : ApiArrow → Bool) (hd : ∀ x ∈ l, dom x) : Ct 92 [.sv (.one (LS ApiArrow.ty l)), .sv (.one (.rd (fvR (fun x => [.sv (.agg [I x.fFrom, I x.fLetter, I x.fTo])]) (fun b => .sv (.one (B b))) dom φ)))] [] (fun (_ : Unit) => True) (fun _ => .sv (.one (I (idxTo φ l)))) := by
 refine (indexApiArrow_walk l dom φ (fun r => r = idxTo φ l) ?_).fun
 unfold indexApiArrow_vc
 exact index_plain l dom φ hd
def anyApiArrow_vc (l : (List ApiArrow)) (dom : (ApiArrow → Prop)) (φ : (ApiArrow → Bool)) (Q : Bool → Prop) : Prop :=
 l.length ≤ 9223372036854775807 →
 ((∀ x_ ∈ l, dom x_) ∧
 Q (decide ((idxTo φ l) ≥ 0)))
theorem anyApiArrow_walk (l : (List ApiArrow)) (dom : (ApiArrow → Prop)) (φ : (ApiArrow → Bool)) (Q : Bool → Prop) (h : anyApiArrow_vc l dom φ Q) : Ct 43 [.sv (.one (LS ApiArrow.ty l)), .sv (.one (.rd (fvR (fun x => [.sv (.agg [I x.fFrom, I x.fLetter, I x.fTo])]) (fun b => .sv (.one (B b))) dom φ)))] [] Q (fun (r : Bool) => .sv (.one (B r))) := by
 have ht := tab_ok
 refine Ct.body Try.func43 rfl rfl rfl rfl (fun c hn => ?_)
 unfold anyApiArrow_vc at h
 refine En.lenL 0 (by rfl) (fun hl => ?_)
 replace h := h hl
 clear hl
 refine En.seq ?_
 refine En.region ?_
 refine WL.run ht hn 1 ⟨[sl 0 (LS ApiArrow.ty l), sl 1 (.rd (fvR (fun x => [.sv (.agg (ApiArrow.cl x))]) (fun b => .sv (.one (B b))) dom φ))], []⟩ (by kernel_rfl) ?_
 refine WL.nil ?_
 refine En.seq ?_
 refine En.region ?_
 refine WL.run ht hn 2 ⟨[sl 5 (LS ApiArrow.ty l), sl 6 (.rd (fvR (fun x => [.sv (.agg (ApiArrow.cl x))]) (fun b => .sv (.one (B b))) dom φ))], []⟩ (by kernel_rfl) ?_
 have hp := h.1
 replace h := h.2
 refine WL.mt0 (K := []) (p := none) hn (by rfl) (mt_call (indexApiArrow_ct l dom φ hp) en92 (caps := []) [] rfl (by rfl) (by kernel_rfl) (by kernel_rfl) (by rfl) (by rfl) (by rfl)) (by rfl) (by rfl) (by rfl) ?_
 refine WL.run ht hn 2 ⟨[sl 4 (B (decide ((idxTo φ l) ≥ 0)))], []⟩ (by kernel_rfl) ?_
 refine WL.nil ?_
 refine En.ret ?_
 exact En.back ht (decide ((idxTo φ l) ≥ 0)) h (by kernel_rfl) rfl
theorem en43 : ∀ args w, (callFunc 43 args).run Try.prog w = .ok (.enter 43 args) w := enters_of Try.func43 (by kernel_rfl) rfl
theorem anyApiArrow_ct (l : List ApiArrow) (dom : ApiArrow → Prop) (φ : ApiArrow → Bool) (hd : ∀ x ∈ l, dom x) : Ct 43 [.sv (.one (LS ApiArrow.ty l)), .sv (.one (.rd (fvR (fun x => [.sv (.agg [I x.fFrom, I x.fLetter, I x.fTo])]) (fun b => .sv (.one (B b))) dom φ)))] [] (fun (_ : Unit) => True) (fun _ => .sv (.one (B (l.any φ)))) := by
 refine (anyApiArrow_walk l dom φ (fun r => r = l.any φ) ?_).fun
 unfold anyApiArrow_vc
 exact fun _ => ⟨hd, by rw [← idxTo_nonneg φ l]⟩
def samCheck_vc (g : ApiGraph) (Q : Int → Prop) : Prop :=
 g.fArrows.length ≤ 9223372036854775807 →
 (IfP ((decide (g.fLetters < 1)) || (decide (g.fLetters > 4))) (Q 2) (IfP (((decide (g.fPlaces < 1)) || (decide (g.fPlaces > 12))) || (decide ((g.fArrows.length : Int) > 60))) (Q 1) ((∀ x_ ∈ g.fArrows, (fun x => (fun _ => True) x.fFrom ∧ (fun _ => True) x.fTo) x_) ∧
 IfP (g.fArrows.any (offA (offG g) g)) (Q 2) (∃ (Inv : Int → Prop) (mu : Int → Nat), Inv 0 ∧
 ∀ (x35 : Int) , Inv x35 → (IfP (decide (x35 < (g.fArrows.length : Int))) (∃ J : Bool → Prop, (IfP (decide (x35 > 0)) (∃ e, idx g.fArrows (wr (x35 - 1)) = some e ∧
 ∃ e_2, idx g.fArrows x35 = some e_2 ∧
 J (decide ((ordA e e_2) ≥ 0))) (J false)) ∧
 (∀ (x54 : Bool), J x54 → IfP x54 (Q 3) ((Inv (wr (x35 + 1)) ∧ mu (wr (x35 + 1)) < mu x35)))) (Q 0))))))
theorem samCheck_walk (g : ApiGraph) (Q : Int → Prop) (h : samCheck_vc g Q) : Ct 20 [.sv (.agg [I g.fLetters, I g.fPlaces, LS ApiArrow.ty g.fArrows])] [] Q (fun (r : Int) => .sv (.one (I r))) := by
 have ht := tab_ok
 refine Ct.body Try.func20 rfl rfl rfl rfl (fun c hn => ?_)
 unfold samCheck_vc at h
 refine En.lenA 0 2 (by rfl) (by rfl) (fun hl => ?_)
 replace h := h hl
 clear hl
 refine En.seq ?_
 refine En.region ?_
 refine WL.run ht hn 2 ⟨[sl 1 (.ptr 0 0)], [.box (ApiGraph.cl g) 24 false]⟩ (by kernel_rfl) ?_
 refine WL.nil ?_
 refine En.seq ?_
 refine En.seq ?_
 refine En.region ?_
 refine WL.run ht hn 4 ⟨[sl 1 (.ptr 0 0), sl 8 (B (decide (g.fLetters < 1)))], [.box (ApiGraph.cl g) 24 false]⟩ (by kernel_rfl) ?_
 refine WL.thru ⟨[sl 1 (.ptr 0 0), sl 12 (B ((decide (g.fLetters < 1)) || (decide (g.fLetters > 4))))], [.box (ApiGraph.cl g) 24 false]⟩ ?_ ?_
 refine splitB (decide (g.fLetters < 1)) (fun hb0 => ?_) (fun hb0 => ?_)
 refine WL.setB 8 hb0 (by kernel_rfl) ?_
 refine WL.run ht hn 4 ⟨[sl 1 (.ptr 0 0), sl 12 (B true)], [.box (ApiGraph.cl g) 24 false]⟩ (by kernel_rfl) ?_
 exact WL.nil (sub_ok (by simp only [hb0]; kernel_rfl))
 refine WL.setB 8 hb0 (by kernel_rfl) ?_
 refine WL.run ht hn 4 ⟨[sl 1 (.ptr 0 0), sl 12 (B (decide (g.fLetters > 4)))], [.box (ApiGraph.cl g) 24 false]⟩ (by kernel_rfl) ?_
 exact WL.nil (sub_ok (by simp only [hb0]; kernel_rfl))
 refine En.cond (b := ((decide (g.fLetters < 1)) || (decide (g.fLetters > 4)))) (by kernel_rfl) (fun hb => ?_) (fun hb => ?_)
 replace h := h.1 hb
 refine En.seq ?_
 refine En.region ?_
 refine WL.run ht hn 1 ⟨[sl 2 (I 2)], [.gone]⟩ (by kernel_rfl) ?_
 refine WL.nil ?_
 refine En.ret ?_
 exact En.back ht 2 h (by kernel_rfl) rfl
 replace h := h.2 hb
 refine En.skip ?_
 refine En.seq ?_
 refine En.seq ?_
 refine En.region ?_
 refine WL.run ht hn 4 ⟨[sl 1 (.ptr 0 0), sl 16 (B (decide (g.fPlaces < 1)))], [.box (ApiGraph.cl g) 24 false]⟩ (by kernel_rfl) ?_
 refine WL.thru ⟨[sl 1 (.ptr 0 0), sl 26 (B (((decide (g.fPlaces < 1)) || (decide (g.fPlaces > 12))) || (decide ((g.fArrows.length : Int) > 60))))], [.box (ApiGraph.cl g) 24 false]⟩ ?_ ?_
 refine splitB (decide (g.fPlaces < 1)) (fun hb0 => ?_) (fun hb0 => ?_)
 refine WL.setB 16 hb0 (by kernel_rfl) ?_
 refine WL.run ht hn 10 ⟨[sl 1 (.ptr 0 0), sl 26 (B true)], [.box (ApiGraph.cl g) 24 false]⟩ (by kernel_rfl) ?_
 exact WL.nil (sub_ok (by simp only [hb0]; kernel_rfl))
 refine WL.setB 16 hb0 (by kernel_rfl) ?_
 refine WL.run ht hn 5 ⟨[sl 1 (.ptr 0 0), sl 21 (B (decide (g.fPlaces > 12)))], [.box (ApiGraph.cl g) 24 false]⟩ (by kernel_rfl) ?_
 refine splitB (decide (g.fPlaces > 12)) (fun hb1 => ?_) (fun hb1 => ?_)
 refine WL.setB 21 hb1 (by kernel_rfl) ?_
 refine WL.run ht hn 5 ⟨[sl 1 (.ptr 0 0), sl 26 (B true)], [.box (ApiGraph.cl g) 24 false]⟩ (by kernel_rfl) ?_
 exact WL.nil (sub_ok (by simp only [hb0, hb1]; kernel_rfl))
 refine WL.setB 21 hb1 (by kernel_rfl) ?_
 refine WL.run ht hn 5 ⟨[sl 1 (.ptr 0 0), sl 26 (B (decide ((g.fArrows.length : Int) > 60)))], [.box (ApiGraph.cl g) 24 false]⟩ (by kernel_rfl) ?_
 exact WL.nil (sub_ok (by simp only [hb0, hb1]; kernel_rfl))
 refine En.cond (b := (((decide (g.fPlaces < 1)) || (decide (g.fPlaces > 12))) || (decide ((g.fArrows.length : Int) > 60)))) (by kernel_rfl) (fun hb => ?_) (fun hb => ?_)
 replace h := h.1 hb
 refine En.seq ?_
 refine En.region ?_
 refine WL.run ht hn 1 ⟨[sl 2 (I 1)], [.gone]⟩ (by kernel_rfl) ?_
 refine WL.nil ?_
 refine En.ret ?_
 exact En.back ht 1 h (by kernel_rfl) rfl
 replace h := h.2 hb
 refine En.skip ?_
 refine En.seq ?_
 refine En.region ?_
 refine WL.run ht hn 3 ⟨[sl 1 (.ptr 0 0), sl 3 (.ptr 1 0)], [.box (ApiGraph.cl g) 24 false, .box [.fn 42 [0]] 103 false]⟩ (by kernel_rfl) ?_
 refine WL.nil ?_
 refine En.seq ?_
 refine En.seq ?_
 refine En.region ?_
 refine WL.run ht hn 3 ⟨[sl 1 (.ptr 0 0), sl 29 (LS ApiArrow.ty g.fArrows), sl 30 (.fn 44 [1, 0])], [.box (ApiGraph.cl g) 24 false, .box [.fn 42 [0]] 103 false]⟩ (by kernel_rfl) ?_
 have hp := h.1
 replace h := h.2
 refine WL.mt0 (K := []) (p := none) hn (by rfl) (mt_lendF [0] (by rfl) (by rfl) (mt_lendB (.rd (fvR (fun (x_ : Int) => [.sv (.one (I x_))]) (fun (r : Bool) => .sv (.one (B r))) (fun _ => True) (offG g))) 1 0 (by rfl) (by rfl) (fv_at (fv_of (M := [.box (ApiGraph.cl g) 24 true]) (caps := [0]) (fun x_ _ => samC1_ct x_ g) en42 rfl (by kernel_rfl) (by rfl) (fun _ => rfl))) (mt_lendF [1] (by rfl) (by rfl) (mt_ghost 30 (o1 (.rd (fvR (fun (x_ : ApiArrow) => [.sv (.agg (ApiArrow.cl x_))]) (fun (r : Bool) => .sv (.one (B r))) (fun x => (fun _ => True) x.fFrom ∧ (fun _ => True) x.fTo) (offA (offG g) g)))) (by rfl) (fv_of (M := [.box [.rd (fvR (fun (x_ : Int) => [.sv (.one (I x_))]) (fun (r : Bool) => .sv (.one (B r))) (fun _ => True) (offG g))] 103 true, .box (ApiGraph.cl g) 24 true]) (caps := [1, 0]) (fun x_ hx => samC2_ct x_ (fun _ => True) (offG g) g hx) en44 rfl (by kernel_rfl) (by rfl) (fun _ => rfl)) (mt_call (anyApiArrow_ct g.fArrows (fun x => (fun _ => True) x.fFrom ∧ (fun _ => True) x.fTo) (offA (offG g) g) hp) en43 (caps := []) [] rfl (by rfl) (by kernel_rfl) (by kernel_rfl) (by rfl) (by rfl) (by rfl)))))) (by rfl) (by rfl) (by rfl) ?_
 refine WL.nil ?_
 refine En.cond (b := (g.fArrows.any (offA (offG g) g))) (by kernel_rfl) (fun hb => ?_) (fun hb => ?_)
 replace h := h.1 hb
 refine En.seq ?_
 refine En.region ?_
 refine WL.run ht hn 1 ⟨[sl 2 (I 2)], [.gone, .gone]⟩ (by kernel_rfl) ?_
 refine WL.nil ?_
 refine En.ret ?_
 exact En.back ht 2 h (by kernel_rfl) rfl
 replace h := h.2 hb
 refine En.skip ?_
 refine En.seq ?_
 refine En.seq ?_
 refine En.region ?_
 refine WL.run ht hn 4 ⟨[sl 1 (.ptr 0 0), sl 34 (I (g.fArrows.length : Int)), sl 35 (I 0)], [.box (ApiGraph.cl g) 24 false, .gone]⟩ (by kernel_rfl) ?_
 refine WL.nil ?_
 refine En.block ?_
 obtain ⟨Inv, mu, h0, hI⟩ := h
 refine En.loop (σ := Int) (fun zz => Inv zz) (fun zz => mu zz) (fun zz => ⟨[sl 1 (.ptr 0 0), sl 34 (I (g.fArrows.length : Int)), sl 35 (I zz)], [.box (ApiGraph.cl g) 24 false, .gone]⟩) 0 h0 (sub_ok (by kernel_rfl)) ?_
 intro x35 h
 replace h := hI _ h
 show En c ⟨[sl 1 (.ptr 0 0), sl 34 (I (g.fArrows.length : Int)), sl 35 (I x35)], [.box (ApiGraph.cl g) 24 false, .gone]⟩ _
 refine En.seq ?_
 refine En.region ?_
 refine WL.run ht hn 1 ⟨[sl 1 (.ptr 0 0), sl 34 (I (g.fArrows.length : Int)), sl 35 (I x35), sl 36 (B (decide (x35 < (g.fArrows.length : Int))))], [.box (ApiGraph.cl g) 24 false, .gone]⟩ (by kernel_rfl) ?_
 refine WL.nil ?_
 refine En.seq ?_
 refine En.cond (b := (decide (x35 < (g.fArrows.length : Int)))) (by kernel_rfl) (fun hb => ?_) (fun hb => ?_)
 replace h := h.1 hb
 refine En.skip ?_
 refine En.seq ?_
 refine En.block ?_
 refine En.seq ?_
 refine En.region ?_
 refine WL.run ht hn 2 ⟨[sl 1 (.ptr 0 0), sl 4 (I x35), sl 34 (I (g.fArrows.length : Int)), sl 35 (I x35)], [.box (ApiGraph.cl g) 24 false, .gone]⟩ (by kernel_rfl) ?_
 refine WL.nil ?_
 obtain ⟨J, h, hJ⟩ := h
 refine En.seqJ (σ := Bool) (fun zz => J zz) (fun zz => ⟨[sl 1 (.ptr 0 0), sl 34 (I (g.fArrows.length : Int)), sl 35 (I x35), sl 54 (B zz)], [.box (ApiGraph.cl g) 24 false, .gone]⟩) ?_ ?_
 refine splitB (decide (x35 > 0)) (fun hb_2 => ?_) (fun hb_2 => ?_)
 replace h := h.1 hb_2
 obtain ⟨e, he, h⟩ := h
 obtain ⟨e_2, he_2, h⟩ := h
 refine En.regionA ⟨[sl 1 (.ptr 0 0), sl 4 (I x35), sl 34 (I (g.fArrows.length : Int)), sl 35 (I x35)], [.sv (.one (I x35)), .sv (.one (B true)), .sv (.one (B true)), .sv (.one (.ptr 0 2)), .sv (.one (LS ApiArrow.ty g.fArrows)), .sv (.one (I x35)), .sv (.one (I (wr (x35 - 1)))), .sv (.one (.pe (svR (.agg (ApiArrow.cl e))) 3)), .sv (.agg (ApiArrow.cl e)), .sv (.one (.ptr 0 2)), .sv (.one (LS ApiArrow.ty g.fArrows)), .sv (.one (I x35)), .sv (.one (.pe (svR (.agg (ApiArrow.cl e_2))) 3)), .sv (.agg (ApiArrow.cl e_2)), .sv (.one (I (ordA e e_2))), .sv (.one (B (decide ((ordA e e_2) ≥ 0)))), .sv (.one (B (decide ((ordA e e_2) ≥ 0))))], [⟨.box (ApiGraph.cl g) 24 false, none, none, none⟩, ⟨.gone, none, none, none⟩]⟩ ⟨[sl 1 (.ptr 0 0), sl 34 (I (g.fArrows.length : Int)), sl 35 (I x35), sl 54 (B (decide ((ordA e e_2) ≥ 0)))], [.box (ApiGraph.cl g) 24 false, .gone]⟩ (by kernel_rfl) hn (by kernel_rfl) (by rfl) (by kernel_rfl) ?_ (by kernel_rfl) ?_
 exact ⟨.mt ⟨[sl 4 (I x35)], []⟩ [] none (by kernel_rfl) (by rfl) (mt_ev ht (by kernel_rfl)) rfl rfl rfl rfl,
 .mt ⟨[sl 38 (I x35)], []⟩ [] none (by kernel_rfl) (by rfl) (mt_castB hb_2 (mt_ev ht (by kernel_rfl))) rfl rfl rfl rfl,
 .mt ⟨[sl 39 (B true)], []⟩ [] none (by kernel_rfl) (by rfl) (mt_ev ht (by kernel_rfl)) rfl rfl rfl rfl,
 .mt ⟨[sl 1 (.ptr 0 0), sl 40 (B true)], []⟩ [] none (by kernel_rfl) (by rfl) (mt_ev ht (by kernel_rfl)) rfl rfl rfl rfl,
 .mt ⟨[sl 40 (B true), sl 41 (.ptr 0 2)], [.box (ApiGraph.cl g) 24 false]⟩ [] none (by kernel_rfl) (by rfl) (mt_ev ht (by kernel_rfl)) rfl rfl rfl rfl,
 .mt ⟨[sl 4 (I x35), sl 40 (B true)], []⟩ [] none (by kernel_rfl) (by rfl) (mt_ev ht (by kernel_rfl)) rfl rfl rfl rfl,
 .mt ⟨[sl 40 (B true), sl 43 (I x35)], []⟩ [] none (by kernel_rfl) (by rfl) (mt_ev ht (by kernel_rfl)) rfl rfl rfl rfl,
 .mt ⟨[sl 40 (B true), sl 42 (LS ApiArrow.ty g.fArrows), sl 44 (I (wr (x35 - 1)))], []⟩ [] none (by kernel_rfl) (by rfl) (mt_val (val_index (T := ApiArrow.ty) (l := g.fArrows) (i := (wr (x35 - 1))) ht rfl (by rfl) (by rfl) (by rfl) (by rfl) (by rfl) (by rfl) he)) rfl rfl rfl rfl,
 .mt ⟨[sl 40 (B true), sl 45 (.pe (svR (.agg (ApiArrow.cl e))) 3)], []⟩ [] none (by kernel_rfl) (by rfl) (mt_val (val_load (s := .agg (ApiArrow.cl e)) ht rfl (by rfl) (by rfl) (by rfl) (by rfl) (by rfl))) rfl rfl rfl rfl,
 .mt ⟨[sl 1 (.ptr 0 0), sl 40 (B true)], []⟩ [] none (by kernel_rfl) (by rfl) (mt_ev ht (by kernel_rfl)) rfl rfl rfl rfl,
 .mt ⟨[sl 40 (B true), sl 47 (.ptr 0 2)], [.box (ApiGraph.cl g) 24 false]⟩ [] none (by kernel_rfl) (by rfl) (mt_ev ht (by kernel_rfl)) rfl rfl rfl rfl,
 .mt ⟨[sl 4 (I x35), sl 40 (B true)], []⟩ [] none (by kernel_rfl) (by rfl) (mt_ev ht (by kernel_rfl)) rfl rfl rfl rfl,
 .mt ⟨[sl 40 (B true), sl 48 (LS ApiArrow.ty g.fArrows), sl 49 (I x35)], []⟩ [] none (by kernel_rfl) (by rfl) (mt_val (val_index (T := ApiArrow.ty) (l := g.fArrows) (i := x35) ht rfl (by rfl) (by rfl) (by rfl) (by rfl) (by rfl) (by rfl) he_2)) rfl rfl rfl rfl,
 .mt ⟨[sl 40 (B true), sl 50 (.pe (svR (.agg (ApiArrow.cl e_2))) 3)], []⟩ [] none (by kernel_rfl) (by rfl) (mt_val (val_load (s := .agg (ApiArrow.cl e_2)) ht rfl (by rfl) (by rfl) (by rfl) (by rfl) (by rfl))) rfl rfl rfl rfl,
 .mt ⟨[sl 40 (B true), (46, .sv (.agg (ApiArrow.cl e))), (51, .sv (.agg (ApiArrow.cl e_2)))], []⟩ [] none (by kernel_rfl) (by rfl) (mt_call (samOrd_ct e e_2) en45 (caps := []) [] rfl (by rfl) (by kernel_rfl) (by kernel_rfl) (by rfl) (by rfl) (by rfl)) rfl rfl rfl rfl,
 .mt ⟨[sl 40 (B true), sl 52 (I (ordA e e_2))], []⟩ [] none (by kernel_rfl) (by rfl) (mt_ev ht (by kernel_rfl)) rfl rfl rfl rfl,
 .mt ⟨[sl 40 (B true), sl 53 (B (decide ((ordA e e_2) ≥ 0)))], []⟩ [] none (by kernel_rfl) (by rfl) (mt_ev ht (by kernel_rfl)) rfl rfl rfl rfl,
 trivial⟩
 exact En.at (I := fun zz => J zz) (T := fun zz => ⟨[sl 1 (.ptr 0 0), sl 34 (I (g.fArrows.length : Int)), sl 35 (I x35), sl 54 (B zz)], [.box (ApiGraph.cl g) 24 false, .gone]⟩) (decide ((ordA e e_2) ≥ 0)) h (by kernel_rfl)
 replace h := h.2 hb_2
 refine En.regionA ⟨[sl 1 (.ptr 0 0), sl 4 (I x35), sl 34 (I (g.fArrows.length : Int)), sl 35 (I x35)], [.sv (.one (I x35)), .sv (.one (B false)), .sv (.one (B false)), .tup [], .tup [], .tup [], .tup [], .tup [], .tup [], .tup [], .tup [], .tup [], .tup [], .tup [], .tup [], .tup [], .sv (.one (B false))], [⟨.box (ApiGraph.cl g) 24 false, none, none, none⟩, ⟨.gone, none, none, none⟩]⟩ ⟨[sl 1 (.ptr 0 0), sl 34 (I (g.fArrows.length : Int)), sl 35 (I x35), sl 54 (B false)], [.box (ApiGraph.cl g) 24 false, .gone]⟩ (by kernel_rfl) hn (by kernel_rfl) (by rfl) (by kernel_rfl) ?_ (by kernel_rfl) ?_
 exact ⟨.mt ⟨[sl 4 (I x35)], []⟩ [] none (by kernel_rfl) (by rfl) (mt_ev ht (by kernel_rfl)) rfl rfl rfl rfl,
 .mt ⟨[sl 38 (I x35)], []⟩ [] none (by kernel_rfl) (by rfl) (mt_castB hb_2 (mt_ev ht (by kernel_rfl))) rfl rfl rfl rfl,
 .mt ⟨[sl 39 (B false)], []⟩ [] none (by kernel_rfl) (by rfl) (mt_ev ht (by kernel_rfl)) rfl rfl rfl rfl,
 .skip ⟨[sl 40 (B false)], []⟩ (by kernel_rfl) (by rfl) rfl rfl rfl rfl,
 .skip ⟨[sl 40 (B false)], []⟩ (by kernel_rfl) (by rfl) rfl rfl rfl rfl,
 .skip ⟨[sl 40 (B false)], []⟩ (by kernel_rfl) (by rfl) rfl rfl rfl rfl,
 .skip ⟨[sl 40 (B false)], []⟩ (by kernel_rfl) (by rfl) rfl rfl rfl rfl,
 .skip ⟨[sl 40 (B false)], []⟩ (by kernel_rfl) (by rfl) rfl rfl rfl rfl,
 .skip ⟨[sl 40 (B false)], []⟩ (by kernel_rfl) (by rfl) rfl rfl rfl rfl,
 .skip ⟨[sl 40 (B false)], []⟩ (by kernel_rfl) (by rfl) rfl rfl rfl rfl,
 .skip ⟨[sl 40 (B false)], []⟩ (by kernel_rfl) (by rfl) rfl rfl rfl rfl,
 .skip ⟨[sl 40 (B false)], []⟩ (by kernel_rfl) (by rfl) rfl rfl rfl rfl,
 .skip ⟨[sl 40 (B false)], []⟩ (by kernel_rfl) (by rfl) rfl rfl rfl rfl,
 .skip ⟨[sl 40 (B false)], []⟩ (by kernel_rfl) (by rfl) rfl rfl rfl rfl,
 .skip ⟨[sl 40 (B false)], []⟩ (by kernel_rfl) (by rfl) rfl rfl rfl rfl,
 .skip ⟨[sl 40 (B false)], []⟩ (by kernel_rfl) (by rfl) rfl rfl rfl rfl,
 .mt ⟨[sl 40 (B false), (53, .tup [])], []⟩ [] none (by kernel_rfl) (by rfl) (mt_ev ht (by kernel_rfl)) rfl rfl rfl rfl,
 trivial⟩
 exact En.at (I := fun zz => J zz) (T := fun zz => ⟨[sl 1 (.ptr 0 0), sl 34 (I (g.fArrows.length : Int)), sl 35 (I x35), sl 54 (B zz)], [.box (ApiGraph.cl g) 24 false, .gone]⟩) false h (by kernel_rfl)
 intro x54 h
 replace h := hJ _ h
 show En c ⟨[sl 1 (.ptr 0 0), sl 34 (I (g.fArrows.length : Int)), sl 35 (I x35), sl 54 (B x54)], [.box (ApiGraph.cl g) 24 false, .gone]⟩ _
 refine En.cond (b := x54) (by kernel_rfl) (fun hb => ?_) (fun hb => ?_)
 replace h := h.1 hb
 refine En.seq ?_
 refine En.region ?_
 refine WL.run ht hn 1 ⟨[sl 2 (I 3)], [.gone, .gone]⟩ (by kernel_rfl) ?_
 refine WL.nil ?_
 refine En.ret ?_
 exact En.back ht 3 h (by kernel_rfl) rfl
 replace h := h.2 hb
 refine En.skip ?_
 refine En.region ?_
 refine WL.run ht hn 2 ⟨[sl 1 (.ptr 0 0), sl 34 (I (g.fArrows.length : Int)), sl 35 (I (wr (x35 + 1)))], [.box (ApiGraph.cl g) 24 false, .gone]⟩ (by kernel_rfl) ?_
 refine WL.nil ?_
 exact En.at (I := fun zz => Inv zz ∧ mu zz < mu x35) (T := fun zz => ⟨[sl 1 (.ptr 0 0), sl 34 (I (g.fArrows.length : Int)), sl 35 (I zz)], [.box (ApiGraph.cl g) 24 false, .gone]⟩) (wr (x35 + 1)) h (by kernel_rfl)
 replace h := h.2 hb
 refine En.exit rfl ?_
 refine En.seq ?_
 refine En.region ?_
 refine WL.run ht hn 1 ⟨[sl 2 (I 0)], [.gone, .gone]⟩ (by kernel_rfl) ?_
 refine WL.nil ?_
 refine En.ret ?_
 exact En.back ht 0 h (by kernel_rfl) rfl
theorem en20 : ∀ args w, (callFunc 20 args).run Try.prog w = .ok (.enter 20 args) w := enters_of Try.func20 (by kernel_rfl) rfl
def samLate (g : ApiGraph) : Bool := (List.range g.fArrows.length).any fun i => decide (0 < i) && decide (ordA (g.fArrows.getD (i - 1) default) (g.fArrows.getD i default) ≥ 0)
def samErr (g : ApiGraph) : Int := if (decide (g.fLetters < 1)) || (decide (g.fLetters > 4)) then 2 else if ((decide (g.fPlaces < 1)) || (decide (g.fPlaces > 12))) || (decide ((g.fArrows.length : Int) > 60)) then 1 else if g.fArrows.any (offA (offG g) g) then 2 else if samLate g then 3 else 0
structure GraphOk (g : ApiGraph) : Prop where
 let_ : 1 ≤ g.fLetters ∧ g.fLetters ≤ 4
 pl : 1 ≤ g.fPlaces ∧ g.fPlaces ≤ 12
 len : g.fArrows.length ≤ 60
 arr : ∀ x ∈ g.fArrows, (0 ≤ x.fFrom ∧ x.fFrom < g.fPlaces) ∧ (0 ≤ x.fTo ∧ x.fTo < g.fPlaces) ∧ 0 ≤ x.fLetter ∧ x.fLetter < g.fLetters
theorem samErr_ok {g : ApiGraph} (h : samErr g = 0) : GraphOk g := by
 unfold samErr at h
 by_cases h1 : ((decide (g.fLetters < 1)) || (decide (g.fLetters > 4))) = true
 ·rw [if_pos h1] at h; cases h
 rw [if_neg h1] at h
 by_cases h2 : (((decide (g.fPlaces < 1)) || (decide (g.fPlaces > 12))) || (decide ((g.fArrows.length : Int) > 60))) = true
 ·rw [if_pos h2] at h; cases h
 rw [if_neg h2] at h
 by_cases h3 : g.fArrows.any (offA (offG g) g) = true
 ·rw [if_pos h3] at h; cases h
 simp only [Bool.not_eq_true, Bool.or_eq_false_iff, decide_eq_false_iff_not] at h1 h2
 rw [Bool.not_eq_true, List.any_eq_false] at h3
 refine ⟨by omega, by omega, by omega, fun x hx => ?_⟩
 have := h3 x hx
 unfold offA offG at this
 simp at this
 omega
theorem idx_getS {α : Type} {l : List α} {s : Nat} (z : α) (h : s < l.length) : idx l (s : Int) = some (l.getD s z) := by
 have := idx_of (l := l) (i := (s : Int)) z (by omega) (by omega)
 rwa [Int.toNat_natCast] at this
theorem samCheck_ct (g : ApiGraph)  : Ct 20 [.sv (.agg [I g.fLetters, I g.fPlaces, LS ApiArrow.ty g.fArrows])] [] (fun (_ : Unit) => True) (fun _ => .sv (.one (I (samErr g)))) := by
 refine (samCheck_walk g (fun res_ => res_ = (samErr g)) ?_).fun
 unfold samCheck_vc
 intro _
 refine ⟨fun h => ?_, fun h1 => ⟨fun h => ?_, fun h2 => ⟨fun _ _ => ⟨trivial, trivial⟩, fun h => ?_, fun h3 => ?_⟩⟩⟩
 ·show 2 = _; unfold samErr; rw [if_pos h]
 ·show 1 = _; unfold samErr; rw [if_neg (by rw [h1]; decide), if_pos h]
 ·show 2 = _; unfold samErr; rw [if_neg (by rw [h1]; decide), if_neg (by rw [h2]; decide), if_pos h]
 have he : samErr g = if samLate g then 3 else 0 := by unfold samErr; rw [if_neg (by rw [h1]; decide), if_neg (by rw [h2]; decide), if_neg (by rw [h3]; decide)]
 rw [he]
 refine ⟨fun i => ∃ k : Nat, i = k ∧ k ≤ g.fArrows.length ∧ ∀ j, j < k → (decide (0 < j) && decide (ordA (g.fArrows.getD (j - 1) default) (g.fArrows.getD j default) ≥ 0)) = false, fun i => g.fArrows.length - i.toNat, ⟨0, rfl, Nat.zero_le _, fun j hj => absurd hj (Nat.not_lt_zero _)⟩, ?_⟩
 rintro i ⟨k, rfl, hk, hf⟩
 simp only [Bool.or_eq_false_iff, decide_eq_false_iff_not] at h2
 refine ⟨fun hb => ?_, fun hb => ?_⟩
 ·have hlt := dlt hb
  refine ⟨fun b => b = (decide (0 < k) && decide (ordA (g.fArrows.getD (k - 1) default) (g.fArrows.getD k default) ≥ 0)), ⟨fun hc => ?_, fun hc => ?_⟩, ?_⟩
  ·have hc : (k : Int) > 0 := of_decide_eq_true hc
   have hw : wr ((k : Int) - 1) = ((k - 1 : Nat) : Int) := by rw [wr_in (by omega) (by omega)]; omega
   refine ⟨_, by rw [hw]; exact idx_getS default (by omega), _, idx_getS default hlt, ?_⟩
   show decide _ = (_ && _)
   rw [decide_eq_true (show 0 < k by omega), Bool.true_and]
  ·have hc := of_decide_eq_false hc
   show false = (_ && _)
   rw [decide_eq_false (show ¬ 0 < k by omega)]
   rfl
  ·rintro b rfl
   refine ⟨fun hc => ?_, fun hc => ⟨⟨k + 1, wsucc (by omega), hlt, fun j hj => ?_⟩, mu_up hlt (by omega)⟩⟩
   ·have : samLate g = true := by
     unfold samLate
     exact List.any_eq_true.2 ⟨k, List.mem_range.2 hlt, hc⟩
    rw [if_pos this]
   ·by_cases e : j = k
    ·rw [e]; exact hc
    ·exact hf j (by omega)
 ·have : samLate g = false := by
   unfold samLate
   rw [List.any_eq_false]
   intro j hj
   rw [hf j (by have := List.mem_range.1 hj; have := dge hb; omega)]
   decide
  rw [this]
  rfl
def ansOne (q : Int) (x : ApiArrow) (ok : Int × Int → Bool) (y : ApiArrow) : Bool := (y.fFrom == q) && ((y.fLetter == x.fLetter) && ok (x.fTo, y.fTo))
def ansB (g : ApiGraph) (p q : Int) (ok : Int × Int → Bool) : Bool := g.fArrows.all fun x => !(x.fFrom == p && !(g.fArrows.any (ansOne q x ok)))
def alikeC (c : List Int) (y : Int × Int) : Bool := c.getD y.1.toNat 0 == c.getD y.2.toNat 0
def r2B (cl : List Int) (p : Int) (g : ApiGraph) (al : Int × Int → Bool) (q : Int) : Bool := (cl.getD p.toNat 0 == cl.getD q.toNat 0) && (ansB g p q al && ansB g q p al)
theorem alikeC_iff {c : List Int} {y : Int × Int} : alikeC c y = true ↔ c.getD y.1.toNat 0 = c.getD y.2.toNat 0 := beq_iff_eq
theorem ansB_iff {g : ApiGraph} {p q : Int} {ok : Int × Int → Bool} : ansB g p q ok = true ↔ ∀ x ∈ g.fArrows, x.fFrom = p → ∃ y ∈ g.fArrows, y.fFrom = q ∧ y.fLetter = x.fLetter ∧ ok (x.fTo, y.fTo) = true := by
 unfold ansB
 rw [List.all_eq_true]
 refine ⟨fun h x hx hp => ?_, fun h x hx => ?_⟩
 ·have := h x hx
  rw [show (x.fFrom == p) = true from beq_iff_eq.2 hp, Bool.true_and, Bool.not_not] at this
  obtain ⟨y, hy, h2⟩ := List.any_eq_true.1 this
  unfold ansOne at h2
  rw [Bool.and_eq_true, Bool.and_eq_true, beq_iff_eq, beq_iff_eq] at h2
  exact ⟨y, hy, h2⟩
 ·by_cases hp : x.fFrom = p
  ·obtain ⟨y, hy, h2⟩ := h x hx hp
   have : g.fArrows.any (ansOne q x ok) = true := List.any_eq_true.2 ⟨y, hy, by unfold ansOne; rw [Bool.and_eq_true, Bool.and_eq_true, beq_iff_eq, beq_iff_eq]; exact h2⟩
   rw [this]
   simp
  ·rw [show (x.fFrom == p) = false from beq_eq_false_iff_ne.2 hp]
   rfl
def StepS (g : ApiGraph) (cl : List Int) (p q : Nat) : Prop := r2B cl (p : Int) g (alikeC cl) (q : Int) = true
theorem StepS.iff {g : ApiGraph} {cl : List Int} {p q : Nat} : StepS g cl p q ↔ cl.getD p 0 = cl.getD q 0 ∧ ansB g p q (alikeC cl) = true ∧ ansB g q p (alikeC cl) = true := by
 unfold StepS r2B
 rw [Bool.and_eq_true, Bool.and_eq_true, beq_iff_eq]
 rfl
theorem ans_refl {g : ApiGraph} {cl : List Int} (p : Int) : ansB g p p (alikeC cl) = true := ansB_iff.2 fun x hx e => ⟨x, hx, e, rfl, alikeC_iff.2 rfl⟩
theorem ans_trans {g : ApiGraph} {cl : List Int} {p q r : Int} (h1 : ansB g p q (alikeC cl) = true) (h2 : ansB g q r (alikeC cl) = true) : ansB g p r (alikeC cl) = true := ansB_iff.2 fun x hx e => by
 obtain ⟨y, hy, e1, e2, e3⟩ := ansB_iff.1 h1 x hx e
 obtain ⟨z, hz, e4, e5, e6⟩ := ansB_iff.1 h2 y hy e1
 exact ⟨z, hz, e4, e5.trans e2, alikeC_iff.2 ((alikeC_iff.1 e3).trans (alikeC_iff.1 e6))⟩
theorem StepS.refl {g : ApiGraph} {cl : List Int} (p : Nat) : StepS g cl p p := StepS.iff.2 ⟨rfl, ans_refl _, ans_refl _⟩
theorem StepS.symm {g : ApiGraph} {cl : List Int} {p q : Nat} (h : StepS g cl p q) : StepS g cl q p := by
 obtain ⟨h1, h2, h3⟩ := StepS.iff.1 h
 exact StepS.iff.2 ⟨h1.symm, h3, h2⟩
theorem StepS.trans {g : ApiGraph} {cl : List Int} {p q r : Nat} (h : StepS g cl p q) (h' : StepS g cl q r) : StepS g cl p r := by
 obtain ⟨h1, h2, h3⟩ := StepS.iff.1 h
 obtain ⟨k1, k2, k3⟩ := StepS.iff.1 h'
 exact StepS.iff.2 ⟨h1.trans k1, ans_trans h2 k2, ans_trans k3 h3⟩
def BisR (g : ApiGraph) (R : Nat → Nat → Prop) : Prop := ∀ p q, R p q → R q p ∧ ∀ x ∈ g.fArrows, x.fFrom = (p : Int) → ∃ y ∈ g.fArrows, y.fFrom = (q : Int) ∧ y.fLetter = x.fLetter ∧ R x.fTo.toNat y.fTo.toNat
def CoarseC (g : ApiGraph) (cl : List Int) : Prop := ∀ R, BisR g R → ∀ p q, p < g.fPlaces.toNat → q < g.fPlaces.toNat → R p q → cl.getD p 0 = cl.getD q 0
theorem bis_ans {g : ApiGraph} {cl : List Int} (hg : GraphOk g) {R : Nat → Nat → Prop} (hR : BisR g R) (hc : CoarseC g cl) {p q : Nat} (h : R p q) : ansB g p q (alikeC cl) = true := ansB_iff.2 fun x hx e => by
 obtain ⟨y, hy, h1, h2, h3⟩ := (hR p q h).2 x hx e
 have ax := hg.arr x hx
 have ay := hg.arr y hy
 exact ⟨y, hy, h1, h2, alikeC_iff.2 (hc R hR _ _ (by omega) (by omega) h3)⟩
theorem CoarseC.step {g : ApiGraph} {cl next : List Int} {m : Nat} (hg : GraphOk g) (h : CoarseC g cl) (hR : RoundR g.fPlaces.toNat (StepS g cl) next m) : CoarseC g next := fun R hB p q hp hq e => (hR.same p q hp hq).2 (StepS.iff.2 ⟨h R hB p q hp hq e, bis_ans hg hB h e, bis_ans hg hB h (hB p q e).1⟩)
structure StableC (g : ApiGraph) (cl : List Int) : Prop where
 coarse : CoarseC g cl
 len : cl.length = g.fPlaces.toNat
 same : ∀ p q, p < g.fPlaces.toNat → q < g.fPlaces.toNat → cl.getD p 0 = cl.getD q 0 → StepS g cl p q
end Go.Proofs.Ytiejmeedkhkfgaa


namespace Go.Proofs.Ytiejmeedkhkfgaa
open Go.RowKit Go.MapKept
set_option linter.unusedSimpArgs false
set_option linter.unusedVariables false
set_option maxRecDepth 100000
def mul64_vc (x : Int) (y : Int) (Q : (Int × Int) → Prop) : Prop :=
 Q ((IntKind.wrap .u64 ((IntKind.wrap .u64 ((IntKind.wrap .u64 ((Int.fdiv x (2 ^ (min 32 64))) * (Int.fdiv y (2 ^ (min 32 64))))) + (Int.fdiv (IntKind.wrap .u64 ((IntKind.wrap .u64 ((Int.fdiv x (2 ^ (min 32 64))) * (bitsI .and .u64 y 4294967295))) + (Int.fdiv (IntKind.wrap .u64 ((bitsI .and .u64 x 4294967295) * (bitsI .and .u64 y 4294967295))) (2 ^ (min 32 64))))) (2 ^ (min 32 64))))) + (Int.fdiv (IntKind.wrap .u64 ((bitsI .and .u64 (IntKind.wrap .u64 ((IntKind.wrap .u64 ((Int.fdiv x (2 ^ (min 32 64))) * (bitsI .and .u64 y 4294967295))) + (Int.fdiv (IntKind.wrap .u64 ((bitsI .and .u64 x 4294967295) * (bitsI .and .u64 y 4294967295))) (2 ^ (min 32 64))))) 4294967295) + (IntKind.wrap .u64 ((bitsI .and .u64 x 4294967295) * (Int.fdiv y (2 ^ (min 32 64))))))) (2 ^ (min 32 64))))), (IntKind.wrap .u64 (x * y)))
noncomputable abbrev qmul640 (x : Int) (y : Int) := (IntKind.wrap .u64 ((IntKind.wrap .u64 ((Int.fdiv x (2 ^ (min 32 64))) * (bitsI .and .u64 y 4294967295))) + (Int.fdiv (IntKind.wrap .u64 ((bitsI .and .u64 x 4294967295) * (bitsI .and .u64 y 4294967295))) (2 ^ (min 32 64)))))
noncomputable abbrev qmul641 (x : Int) (y : Int) := (IntKind.wrap .u64 ((IntKind.wrap .u64 ((IntKind.wrap .u64 ((Int.fdiv x (2 ^ (min 32 64))) * (Int.fdiv y (2 ^ (min 32 64))))) + (Int.fdiv (qmul640 x y) (2 ^ (min 32 64))))) + (Int.fdiv (IntKind.wrap .u64 ((bitsI .and .u64 (qmul640 x y) 4294967295) + (IntKind.wrap .u64 ((bitsI .and .u64 x 4294967295) * (Int.fdiv y (2 ^ (min 32 64))))))) (2 ^ (min 32 64)))))
noncomputable abbrev qmul642 (x : Int) := (bitsI .and .u64 x 4294967295)
noncomputable abbrev qmul643 (x : Int) := (Int.fdiv x (2 ^ (min 32 64)))
noncomputable abbrev qmul644 (y : Int) := (Int.fdiv y (2 ^ (min 32 64)))
theorem mul64_walk (x : Int) (y : Int) (Q : (Int × Int) → Prop) (h : mul64_vc x y Q) : Ct 138 [.sv (.one (.v (.int .u64 x))), .sv (.one (.v (.int .u64 y)))] [] Q (fun (r : (Int × Int)) => .tup [.one (.v (.int .u64 r.1)), .one (.v (.int .u64 r.2))]) := by
 have ht := tab_ok
 refine Ct.body Try.func138 rfl rfl rfl rfl (fun c hn => ?_)
 unfold mul64_vc at h
 refine En.seq ?_
 refine En.region ?_
 refine WL.run ht hn 2 ⟨[sl 0 (.v (.int .u64 x)), sl 1 (.v (.int .u64 y))], []⟩ (by kernel_rfl) ?_
 refine WL.nil ?_
 refine En.seq ?_
 refine En.region ?_
 refine WL.run ht hn 3 ⟨[sl 0 (.v (.int .u64 x)), sl 1 (.v (.int .u64 y)), sl 6 (.v (.int .u64 (qmul642 x)))], []⟩ (by kernel_rfl) ?_
 refine WL.nil ?_
 refine En.seq ?_
 refine En.region ?_
 refine WL.run ht hn 3 ⟨[sl 0 (.v (.int .u64 x)), sl 1 (.v (.int .u64 y)), sl 6 (.v (.int .u64 (qmul642 x))), sl 7 (.v (.int .u64 (qmul643 x)))], []⟩ (by kernel_rfl) ?_
 refine WL.nil ?_
 refine En.seq ?_
 refine En.region ?_
 refine WL.run ht hn 3 ⟨[sl 0 (.v (.int .u64 x)), sl 1 (.v (.int .u64 y)), sl 6 (.v (.int .u64 (qmul642 x))), sl 7 (.v (.int .u64 (qmul643 x))), sl 8 (.v (.int .u64 (bitsI .and .u64 y 4294967295)))], []⟩ (by kernel_rfl) ?_
 refine WL.nil ?_
 refine En.seq ?_
 refine En.region ?_
 refine WL.run ht hn 3 ⟨[sl 0 (.v (.int .u64 x)), sl 1 (.v (.int .u64 y)), sl 6 (.v (.int .u64 (qmul642 x))), sl 7 (.v (.int .u64 (qmul643 x))), sl 8 (.v (.int .u64 (bitsI .and .u64 y 4294967295))), sl 9 (.v (.int .u64 (qmul644 y)))], []⟩ (by kernel_rfl) ?_
 refine WL.nil ?_
 refine En.seq ?_
 refine En.region ?_
 refine WL.run ht hn 4 ⟨[sl 0 (.v (.int .u64 x)), sl 1 (.v (.int .u64 y)), sl 6 (.v (.int .u64 (qmul642 x))), sl 7 (.v (.int .u64 (qmul643 x))), sl 8 (.v (.int .u64 (bitsI .and .u64 y 4294967295))), sl 9 (.v (.int .u64 (qmul644 y))), sl 10 (.v (.int .u64 (IntKind.wrap .u64 ((qmul642 x) * (bitsI .and .u64 y 4294967295)))))], []⟩ (by kernel_rfl) ?_
 refine WL.nil ?_
 refine En.seq ?_
 refine En.region ?_
 refine WL.run ht hn 7 ⟨[sl 0 (.v (.int .u64 x)), sl 1 (.v (.int .u64 y)), sl 6 (.v (.int .u64 (qmul642 x))), sl 7 (.v (.int .u64 (qmul643 x))), sl 9 (.v (.int .u64 (qmul644 y))), sl 11 (.v (.int .u64 (qmul640 x y)))], []⟩ (by kernel_rfl) ?_
 refine WL.nil ?_
 refine En.seq ?_
 refine En.region ?_
 refine WL.run ht hn 3 ⟨[sl 0 (.v (.int .u64 x)), sl 1 (.v (.int .u64 y)), sl 6 (.v (.int .u64 (qmul642 x))), sl 7 (.v (.int .u64 (qmul643 x))), sl 9 (.v (.int .u64 (qmul644 y))), sl 11 (.v (.int .u64 (qmul640 x y))), sl 12 (.v (.int .u64 (bitsI .and .u64 (qmul640 x y) 4294967295)))], []⟩ (by kernel_rfl) ?_
 refine WL.nil ?_
 refine En.seq ?_
 refine En.region ?_
 refine WL.run ht hn 3 ⟨[sl 0 (.v (.int .u64 x)), sl 1 (.v (.int .u64 y)), sl 6 (.v (.int .u64 (qmul642 x))), sl 7 (.v (.int .u64 (qmul643 x))), sl 9 (.v (.int .u64 (qmul644 y))), sl 12 (.v (.int .u64 (bitsI .and .u64 (qmul640 x y) 4294967295))), sl 13 (.v (.int .u64 (Int.fdiv (qmul640 x y) (2 ^ (min 32 64)))))], []⟩ (by kernel_rfl) ?_
 refine WL.nil ?_
 refine En.seq ?_
 refine En.region ?_
 refine WL.run ht hn 6 ⟨[sl 0 (.v (.int .u64 x)), sl 1 (.v (.int .u64 y)), sl 7 (.v (.int .u64 (qmul643 x))), sl 9 (.v (.int .u64 (qmul644 y))), sl 12 (.v (.int .u64 (IntKind.wrap .u64 ((bitsI .and .u64 (qmul640 x y) 4294967295) + (IntKind.wrap .u64 ((qmul642 x) * (qmul644 y))))))), sl 13 (.v (.int .u64 (Int.fdiv (qmul640 x y) (2 ^ (min 32 64)))))], []⟩ (by kernel_rfl) ?_
 refine WL.nil ?_
 refine En.seq ?_
 refine En.region ?_
 refine WL.run ht hn 9 ⟨[sl 0 (.v (.int .u64 x)), sl 1 (.v (.int .u64 y)), sl 4 (.v (.int .u64 (qmul641 x y)))], []⟩ (by kernel_rfl) ?_
 refine WL.nil ?_
 refine En.seq ?_
 refine En.region ?_
 refine WL.run ht hn 4 ⟨[sl 4 (.v (.int .u64 (qmul641 x y))), sl 5 (.v (.int .u64 (IntKind.wrap .u64 (x * y))))], []⟩ (by kernel_rfl) ?_
 refine WL.nil ?_
 refine En.ret ?_
 exact En.back ht ((qmul641 x y), (IntKind.wrap .u64 (x * y))) h (by kernel_rfl) rfl
theorem en138 : ∀ args w, (callFunc 138 args).run Try.prog w = .ok (.enter 138 args) w := enters_of Try.func138 (by kernel_rfl) rfl
theorem wr_u64 {a : Int} (h1 : 0 ≤ a) (h2 : a < 18446744073709551616) : IntKind.wrap .u64 a = a := by
 show a % 18446744073709551616 = a
 exact Int.emod_eq_of_lt h1 h2
theorem and_mask {x : Int} (h1 : 0 ≤ x) (h2 : x < 4294967296) : bitsI .and .u64 x 4294967295 = x := by
 obtain ⟨m, rfl⟩ : ∃ m : Nat, x = m := ⟨x.toNat, by omega⟩
 have h := (bits_nat .u64 63 (by decide) (fun a h0 ha => wr_u64 h0 (by omega)) m 4294967295 (by omega) (by decide)).1
 have h3 : m &&& 4294967295 = m % 2 ^ 32 := Nat.and_two_pow_sub_one_eq_mod m 32
 rw [h3, Nat.mod_eq_of_lt (by omega)] at h
 exact h
theorem shr_small {x : Int} (h1 : 0 ≤ x) (h2 : x < 4294967296) : Int.fdiv x (2 ^ (min 32 64)) = 0 := by
 rw [show ((2 : Int) ^ (min 32 64)) = 4294967296 from rfl, Int.fdiv_eq_ediv_of_nonneg _ (by omega)]
 exact Int.ediv_eq_zero_of_lt h1 h2
theorem mul64_ct (x : Int) (y : Int) (hp : (0 ≤ x ∧ x < 4294967296) ∧ 0 ≤ y ∧ y < 4294967296) (hq : x * y < 4294967296) : Ct 138 [.sv (.one (.v (.int .u64 x))), .sv (.one (.v (.int .u64 y)))] [] (fun (_ : Unit) => True) (fun _ => .tup [.one (.v (.int .u64 ((0, IntKind.wrap .u64 (x * y))).1)), .one (.v (.int .u64 ((0, IntKind.wrap .u64 (x * y))).2))]) := by
 refine (mul64_walk x y (fun res_ => res_ = ((0, IntKind.wrap .u64 (x * y)))) ?_).fun
 unfold mul64_vc
 obtain ⟨⟨h1, h2⟩, h3, h4⟩ := hp
 have hxy : 0 ≤ x * y := Int.mul_nonneg h1 h3
 have hle : x * y < 4294967296 := hq
 rw [and_mask h1 h2, and_mask h3 (by omega), shr_small h1 h2, shr_small h3 (by omega)]
 simp only [Int.zero_mul, Int.mul_zero, Int.zero_add, Int.add_zero]
 rw [show IntKind.wrap .u64 0 = 0 from rfl]
 simp only [Int.zero_add, Int.add_zero]
 rw [wr_u64 hxy (by omega), shr_small hxy hle]
 rfl
theorem mul64_ct2 (x y : Int) (hp : ((0 ≤ x ∧ x < 4294967296) ∧ 0 ≤ y ∧ y < 4294967296) ∧ x * y < 4294967296) : Ct 138 [.sv (.one (.v (.int .u64 x))), .sv (.one (.v (.int .u64 y)))] [] (fun (_ : Unit) => True) (fun _ => .tup [.one (.v (.int .u64 0)), .one (.v (.int .u64 (IntKind.wrap .u64 (x * y))))]) := mul64_ct x y hp.1 hp.2
def mulU_vc (x : Int) (y : Int) (Q : (Int × Int) → Prop) : Prop :=
 (((0 ≤ x ∧ x < 4294967296) ∧ 0 ≤ y ∧ y < 4294967296) ∧ x * y < 4294967296) ∧
 Q ((((0 : Int), IntKind.wrap .u64 (x * y))).1, (((0 : Int), IntKind.wrap .u64 (x * y))).2)
theorem mulU_walk (x : Int) (y : Int) (Q : (Int × Int) → Prop) (h : mulU_vc x y Q) : Ct 112 [.sv (.one (.v (.int .u64 x))), .sv (.one (.v (.int .u64 y)))] [] Q (fun (r : (Int × Int)) => .tup [.one (.v (.int .u64 r.1)), .one (.v (.int .u64 r.2))]) := by
 have ht := tab_ok
 refine Ct.body Try.func112 rfl rfl rfl rfl (fun c hn => ?_)
 unfold mulU_vc at h
 refine En.seq ?_
 refine En.region ?_
 refine WL.run ht hn 2 ⟨[sl 0 (.v (.int .u64 x)), sl 1 (.v (.int .u64 y))], []⟩ (by kernel_rfl) ?_
 refine WL.nil ?_
 refine En.seq ?_
 refine En.cond (b := false) (by kernel_rfl) (fun hb => ?_) (fun hb => ?_)
 cases hb
 refine En.skip ?_
 refine En.seq ?_
 refine En.region ?_
 refine WL.run ht hn 2 ⟨[sl 23 (.v (.int .u64 x)), sl 24 (.v (.int .u64 y))], []⟩ (by kernel_rfl) ?_
 have hp := h.1
 replace h := h.2
 refine WL.mt0 (K := []) (p := none) hn (by rfl) (mt_call (mul64_ct2 x y hp) en138 (caps := []) [] rfl (by rfl) (by kernel_rfl) (by kernel_rfl) (by rfl) (by rfl) (by rfl)) (by rfl) (by rfl) (by rfl) ?_
 refine WL.run ht hn 5 ⟨[sl 8 (.v (.int .u64 (((0 : Int), IntKind.wrap .u64 (x * y))).1)), sl 9 (.v (.int .u64 (((0 : Int), IntKind.wrap .u64 (x * y))).2))], []⟩ (by kernel_rfl) ?_
 refine WL.nil ?_
 refine En.seq ?_
 refine En.region ?_
 refine WL.run ht hn 4 ⟨[sl 4 (.v (.int .u64 (((0 : Int), IntKind.wrap .u64 (x * y))).1)), sl 5 (.v (.int .u64 (((0 : Int), IntKind.wrap .u64 (x * y))).2))], []⟩ (by kernel_rfl) ?_
 refine WL.nil ?_
 refine En.ret ?_
 exact En.back ht ((((0 : Int), IntKind.wrap .u64 (x * y))).1, (((0 : Int), IntKind.wrap .u64 (x * y))).2) h (by kernel_rfl) rfl
theorem en112 : ∀ args w, (callFunc 112 args).run Try.prog w = .ok (.enter 112 args) w := enters_of Try.func112 (by kernel_rfl) rfl
theorem mulU_ct (x : Int) (y : Int) (hp : ((0 ≤ x ∧ x < 4294967296) ∧ 0 ≤ y ∧ y < 4294967296) ∧ x * y < 4294967296) : Ct 112 [.sv (.one (.v (.int .u64 x))), .sv (.one (.v (.int .u64 y)))] [] (fun (_ : Unit) => True) (fun _ => .tup [.one (.v (.int .u64 ((0, IntKind.wrap .u64 (x * y))).1)), .one (.v (.int .u64 ((0, IntKind.wrap .u64 (x * y))).2))]) := by
 refine (mulU_walk x y (fun res_ => res_ = ((0, IntKind.wrap .u64 (x * y)))) ?_).fun
 unfold mulU_vc
 exact ⟨hp, rfl⟩
def repB_vc (l : (List Bool)) (n : Int) (Q : (List Bool) → Prop) : Prop :=
 l.length ≤ 9223372036854775807 →
 (IfP (decide (n < 0)) (False) ((((0 ≤ (IntKind.wrap .u64 (l.length : Int)) ∧ (IntKind.wrap .u64 (l.length : Int)) < 4294967296) ∧ 0 ≤ (IntKind.wrap .u64 n) ∧ (IntKind.wrap .u64 n) < 4294967296) ∧ (IntKind.wrap .u64 (l.length : Int)) * (IntKind.wrap .u64 n) < 4294967296) ∧
 IfP ((decide ((((0 : Int), IntKind.wrap .u64 ((IntKind.wrap .u64 (l.length : Int)) * (IntKind.wrap .u64 n)))).1 > 0)) || (decide ((((0 : Int), IntKind.wrap .u64 ((IntKind.wrap .u64 (l.length : Int)) * (IntKind.wrap .u64 n)))).2 > 9223372036854775807))) (False) (makeOk (wr (((0 : Int), IntKind.wrap .u64 ((IntKind.wrap .u64 (l.length : Int)) * (IntKind.wrap .u64 n)))).2) (wr (((0 : Int), IntKind.wrap .u64 ((IntKind.wrap .u64 (l.length : Int)) * (IntKind.wrap .u64 n)))).2) 1 ∧
 ∃ (Inv : Int → (List Bool) → Prop) (mu : Int → (List Bool) → Nat), Inv (((min l.length (List.replicate ((wr (((0 : Int), IntKind.wrap .u64 ((IntKind.wrap .u64 (l.length : Int)) * (IntKind.wrap .u64 n)))).2)).toNat false).length) : Nat) : Int) ((List.replicate ((wr (((0 : Int), IntKind.wrap .u64 ((IntKind.wrap .u64 (l.length : Int)) * (IntKind.wrap .u64 n)))).2)).toNat false).take 0 ++ l.take (min l.length (List.replicate ((wr (((0 : Int), IntKind.wrap .u64 ((IntKind.wrap .u64 (l.length : Int)) * (IntKind.wrap .u64 n)))).2)).toNat false).length) ++ (List.replicate ((wr (((0 : Int), IntKind.wrap .u64 ((IntKind.wrap .u64 (l.length : Int)) * (IntKind.wrap .u64 n)))).2)).toNat false).drop (0 + (min l.length (List.replicate ((wr (((0 : Int), IntKind.wrap .u64 ((IntKind.wrap .u64 (l.length : Int)) * (IntKind.wrap .u64 n)))).2)).toNat false).length))) ∧
 ∀ (x8 : Int) (l0 : (List Bool)) , Inv x8 l0 → (IfP (decide (x8 < (l0.length : Int))) (partOk x8 (l0.length : Int) l0.length ∧
 partOk 0 x8 l0.length ∧
 (Inv (wr (x8 + (((min ((l0.drop ((0 : Int).toNat)).take ((x8 : Int).toNat - (0 : Int).toNat)).length (((l0.length : Int) : Int).toNat - (x8 : Int).toNat)) : Nat) : Int))) (l0.take ((x8 : Int).toNat) ++ ((l0.drop ((0 : Int).toNat)).take ((x8 : Int).toNat - (0 : Int).toNat)).take (min ((l0.drop ((0 : Int).toNat)).take ((x8 : Int).toNat - (0 : Int).toNat)).length (((l0.length : Int) : Int).toNat - (x8 : Int).toNat)) ++ l0.drop (((x8 : Int).toNat) + (min ((l0.drop ((0 : Int).toNat)).take ((x8 : Int).toNat - (0 : Int).toNat)).length (((l0.length : Int) : Int).toNat - (x8 : Int).toNat)))) ∧ mu (wr (x8 + (((min ((l0.drop ((0 : Int).toNat)).take ((x8 : Int).toNat - (0 : Int).toNat)).length (((l0.length : Int) : Int).toNat - (x8 : Int).toNat)) : Nat) : Int))) (l0.take ((x8 : Int).toNat) ++ ((l0.drop ((0 : Int).toNat)).take ((x8 : Int).toNat - (0 : Int).toNat)).take (min ((l0.drop ((0 : Int).toNat)).take ((x8 : Int).toNat - (0 : Int).toNat)).length (((l0.length : Int) : Int).toNat - (x8 : Int).toNat)) ++ l0.drop (((x8 : Int).toNat) + (min ((l0.drop ((0 : Int).toNat)).take ((x8 : Int).toNat - (0 : Int).toNat)).length (((l0.length : Int) : Int).toNat - (x8 : Int).toNat)))) < mu x8 l0)) (Q l0)))))
noncomputable abbrev qrepB0 (l : (List Bool)) (n : Int) := (List.replicate ((wr (((0 : Int), IntKind.wrap .u64 ((IntKind.wrap .u64 (l.length : Int)) * (IntKind.wrap .u64 n)))).2)).toNat false)
noncomputable abbrev qrepB1 (l : (List Bool)) := (IntKind.wrap .u64 (l.length : Int))
noncomputable abbrev qrepB2 (l : (List Bool)) (n : Int) := (decide ((((0 : Int), IntKind.wrap .u64 ((qrepB1 l) * (IntKind.wrap .u64 n)))).1 > 0))
noncomputable abbrev qrepB3 (l : (List Bool)) (n : Int) := (decide ((((0 : Int), IntKind.wrap .u64 ((qrepB1 l) * (IntKind.wrap .u64 n)))).2 > 9223372036854775807))
noncomputable abbrev qrepB4 (l : (List Bool)) (n : Int) := (min l.length (qrepB0 l n).length)
theorem repB_walk (l : (List Bool)) (n : Int) (Q : (List Bool) → Prop) (h : repB_vc l n Q) : CtJ 77 [.sv (.one (LS boolT l)), .sv (.one (I n))] [] Q (fun (r : (List Bool)) => rowI 4 boolT r) := by
 have ht := tab_ok
 refine CtJ.body Try.func77 rfl rfl rfl rfl (fun c hn hmay => ?_)
 unfold repB_vc at h
 refine En.lenL 0 (by rfl) (fun hl => ?_)
 replace h := h hl
 clear hl
 refine En.seq ?_
 refine En.region ?_
 refine WL.run ht hn 1 ⟨[sl 0 (LS boolT l), sl 1 (I n)], []⟩ (by kernel_rfl) ?_
 refine WL.nil ?_
 refine En.seq ?_
 refine En.seq ?_
 refine En.region ?_
 refine WL.run ht hn 2 ⟨[sl 0 (LS boolT l), sl 1 (I n), sl 10 (B (decide (n < 0)))], []⟩ (by kernel_rfl) ?_
 refine WL.nil ?_
 refine En.cond (b := (decide (n < 0))) (by kernel_rfl) (fun hb => ?_) (fun hb => ?_)
 replace h := h.1 hb
 exact h.elim
 replace h := h.2 hb
 refine En.skip ?_
 refine En.seq ?_
 refine En.region ?_
 refine WL.run ht hn 5 ⟨[sl 0 (LS boolT l), sl 15 (.v (.int .u64 (qrepB1 l))), sl 17 (.v (.int .u64 (IntKind.wrap .u64 n)))], []⟩ (by kernel_rfl) ?_
 have hp := h.1
 replace h := h.2
 refine WL.mt0 (K := []) (p := none) hn (by rfl) (mt_call (mulU_ct (qrepB1 l) (IntKind.wrap .u64 n) hp) en112 (caps := []) [] rfl (by rfl) (by kernel_rfl) (by kernel_rfl) (by rfl) (by rfl) (by rfl)) (by rfl) (by rfl) (by rfl) ?_
 refine WL.run ht hn 5 ⟨[sl 0 (LS boolT l), sl 5 (.v (.int .u64 (((0 : Int), IntKind.wrap .u64 ((qrepB1 l) * (IntKind.wrap .u64 n)))).1)), sl 6 (.v (.int .u64 (((0 : Int), IntKind.wrap .u64 ((qrepB1 l) * (IntKind.wrap .u64 n)))).2))], []⟩ (by kernel_rfl) ?_
 refine WL.nil ?_
 refine En.seq ?_
 refine En.seq ?_
 refine En.region ?_
 refine WL.run ht hn 3 ⟨[sl 0 (LS boolT l), sl 6 (.v (.int .u64 (((0 : Int), IntKind.wrap .u64 ((qrepB1 l) * (IntKind.wrap .u64 n)))).2)), sl 23 (B (qrepB2 l n))], []⟩ (by kernel_rfl) ?_
 refine WL.thru ⟨[sl 0 (LS boolT l), sl 6 (.v (.int .u64 (((0 : Int), IntKind.wrap .u64 ((qrepB1 l) * (IntKind.wrap .u64 n)))).2)), sl 26 (B ((qrepB2 l n) || (qrepB3 l n)))], []⟩ ?_ ?_
 refine splitB (qrepB2 l n) (fun hb0 => ?_) (fun hb0 => ?_)
 refine WL.setB 23 hb0 (by kernel_rfl) ?_
 refine WL.run ht hn 3 ⟨[sl 0 (LS boolT l), sl 6 (.v (.int .u64 (((0 : Int), IntKind.wrap .u64 ((qrepB1 l) * (IntKind.wrap .u64 n)))).2)), sl 26 (B true)], []⟩ (by kernel_rfl) ?_
 exact WL.nil (sub_ok (by simp only [hb0]; kernel_rfl))
 refine WL.setB 23 hb0 (by kernel_rfl) ?_
 refine WL.run ht hn 3 ⟨[sl 0 (LS boolT l), sl 6 (.v (.int .u64 (((0 : Int), IntKind.wrap .u64 ((qrepB1 l) * (IntKind.wrap .u64 n)))).2)), sl 26 (B (qrepB3 l n))], []⟩ (by kernel_rfl) ?_
 exact WL.nil (sub_ok (by simp only [hb0]; kernel_rfl))
 refine En.cond (b := ((qrepB2 l n) || (qrepB3 l n))) (by kernel_rfl) (fun hb => ?_) (fun hb => ?_)
 replace h := h.1 hb
 exact h.elim
 replace h := h.2 hb
 refine En.skip ?_
 refine En.seq ?_
 refine En.region ?_
 refine WL.run ht hn 2 ⟨[sl 0 (LS boolT l), sl 29 (I (wr (((0 : Int), IntKind.wrap .u64 ((qrepB1 l) * (IntKind.wrap .u64 n)))).2))], []⟩ (by kernel_rfl) ?_
 have hp := h.1
 replace h := h.2
 refine WL.mt0 (K := []) (p := some (0, rowI 4 boolT (qrepB0 l n))) hn (by rfl) (mt_make (T := boolT) false (zv := (.bool false)) 0 (l := (wr (((0 : Int), IntKind.wrap .u64 ((qrepB1 l) * (IntKind.wrap .u64 n)))).2)) (cp := (wr (((0 : Int), IntKind.wrap .u64 ((qrepB1 l) * (IntKind.wrap .u64 n)))).2)) ht rfl (by rfl) (by rfl) (by rfl) (by rfl) (by decide) (by rfl) (by rfl) hp.1 hp.2.1 hp.2.2 (hp.le (by decide)) rfl (fun _ => ⟨rfl, trivial⟩)) (by rfl) (by rfl) (by rfl) ?_
 refine WL.run ht hn 1 ⟨[sl 0 (LS boolT l), sl 7 (.own 0)], [rowI 4 boolT (qrepB0 l n)]⟩ (by kernel_rfl) ?_
 refine WL.nil ?_
 refine En.seq ?_
 refine En.region ?_
 refine WL.run ht hn 2 ⟨[sl 7 (.own 0), sl 31 (.own 0), sl 32 (LS boolT l)], [rowI 4 boolT (qrepB0 l n)]⟩ (by kernel_rfl) ?_
 refine WL.me hn (by rfl) (me_copy (T := boolT) (L := (qrepB0 l n)) (es := l) (i := 0) (lo := 0) (m := (qrepB0 l n).length) rfl (fun _ h => by cases h) ht rfl (by rfl) (by rfl) (by rfl) (by rfl) (by rfl) (dstOwn (T := boolT) (l := (qrepB0 l n)) (by rfl) (by rfl)) (srcLS (T := boolT) (es := l) (fun _ h => by cases h) (by decide) (by rfl)) (Nat.le_of_eq (Nat.zero_add _))) (by rfl) rfl rfl (by rfl) ?_
 refine WL.sub ⟨[sl 7 (.own 0), sl 31 (.own 0), sl 32 (LS boolT l), sl 33 (I (((qrepB4 l n) : Nat) : Int))], [rowI 4 boolT ((qrepB0 l n).take 0 ++ l.take (qrepB4 l n) ++ (qrepB0 l n).drop (0 + (qrepB4 l n)))]⟩ (by kernel_rfl) ?_
 refine WL.run ht hn 1 ⟨[sl 7 (.own 0), sl 8 (I (((qrepB4 l n) : Nat) : Int))], [rowI 4 boolT ((qrepB0 l n).take 0 ++ l.take (qrepB4 l n) ++ (qrepB0 l n).drop (0 + (qrepB4 l n)))]⟩ (by kernel_rfl) ?_
 refine WL.nil ?_
 refine En.seq ?_
 refine En.block ?_
 obtain ⟨Inv, mu, h0, hI⟩ := h
 refine En.loop (σ := Int × (List Bool)) (fun zz => Inv zz.1 zz.2) (fun zz => mu zz.1 zz.2) (fun zz => ⟨[sl 7 (.own 0), sl 8 (I zz.1)], [rowI 4 boolT zz.2]⟩) ((((qrepB4 l n) : Nat) : Int), ((qrepB0 l n).take 0 ++ l.take (qrepB4 l n) ++ (qrepB0 l n).drop (0 + (qrepB4 l n)))) h0 (sub_ok (by kernel_rfl)) ?_
 rintro ⟨x8, l0⟩ h
 replace h := hI _ _ h
 show En c ⟨[sl 7 (.own 0), sl 8 (I x8)], [rowI 4 boolT l0]⟩ _
 refine En.seq ?_
 refine En.seq ?_
 refine En.region ?_
 refine WL.run ht hn 4 ⟨[sl 7 (.own 0), sl 8 (I x8), sl 37 (B (decide (x8 < (l0.length : Int))))], [rowI 4 boolT l0]⟩ (by kernel_rfl) ?_
 refine WL.nil ?_
 refine En.cond (b := (decide (x8 < (l0.length : Int)))) (by kernel_rfl) (fun hb => ?_) (fun hb => ?_)
 replace h := h.1 hb
 refine En.skip ?_
 refine En.block ?_
 have hp_2 := h.1
 replace h := h.2
 have hp_3 := h.1
 replace h := h.2
 refine En.regionA ⟨[sl 7 (.own 0), sl 8 (I x8)], [.sv (.one (I x8)), .sv (.one (.own 0)), .sv (.one (I x8)), .sv (.one (.vw 0 ((x8 : Int).toNat) (((l0.length : Int) : Int).toNat - (x8 : Int).toNat) 1)), .sv (.one (.own 0)), .sv (.one (I x8)), .sv (.one (.vw 0 ((0 : Int).toNat) ((x8 : Int).toNat - (0 : Int).toNat) 1)), .sv (.one (I (((min ((l0.drop ((0 : Int).toNat)).take ((x8 : Int).toNat - (0 : Int).toNat)).length (((l0.length : Int) : Int).toNat - (x8 : Int).toNat)) : Nat) : Int))), .sv (.one (I (wr (x8 + (((min ((l0.drop ((0 : Int).toNat)).take ((x8 : Int).toNat - (0 : Int).toNat)).length (((l0.length : Int) : Int).toNat - (x8 : Int).toNat)) : Nat) : Int))))), .sv (.one (I (wr (x8 + (((min ((l0.drop ((0 : Int).toNat)).take ((x8 : Int).toNat - (0 : Int).toNat)).length (((l0.length : Int) : Int).toNat - (x8 : Int).toNat)) : Nat) : Int)))))], [⟨rowI 4 boolT l0, none, none, some (7, rowI 4 boolT (l0.take ((x8 : Int).toNat) ++ ((l0.drop ((0 : Int).toNat)).take ((x8 : Int).toNat - (0 : Int).toNat)).take (min ((l0.drop ((0 : Int).toNat)).take ((x8 : Int).toNat - (0 : Int).toNat)).length (((l0.length : Int) : Int).toNat - (x8 : Int).toNat)) ++ l0.drop (((x8 : Int).toNat) + (min ((l0.drop ((0 : Int).toNat)).take ((x8 : Int).toNat - (0 : Int).toNat)).length (((l0.length : Int) : Int).toNat - (x8 : Int).toNat)))))⟩]⟩ ⟨[sl 7 (.own 0), sl 8 (I (wr (x8 + (((min ((l0.drop ((0 : Int).toNat)).take ((x8 : Int).toNat - (0 : Int).toNat)).length (((l0.length : Int) : Int).toNat - (x8 : Int).toNat)) : Nat) : Int))))], [rowI 4 boolT (l0.take ((x8 : Int).toNat) ++ ((l0.drop ((0 : Int).toNat)).take ((x8 : Int).toNat - (0 : Int).toNat)).take (min ((l0.drop ((0 : Int).toNat)).take ((x8 : Int).toNat - (0 : Int).toNat)).length (((l0.length : Int) : Int).toNat - (x8 : Int).toNat)) ++ l0.drop (((x8 : Int).toNat) + (min ((l0.drop ((0 : Int).toNat)).take ((x8 : Int).toNat - (0 : Int).toNat)).length (((l0.length : Int) : Int).toNat - (x8 : Int).toNat))))]⟩ (by kernel_rfl) hn (by kernel_rfl) (by rfl) (by kernel_rfl) ?_ (by kernel_rfl) ?_
 exact ⟨.mt ⟨[sl 8 (I x8)], []⟩ [] none (by kernel_rfl) (by rfl) (mt_ev ht (by kernel_rfl)) rfl rfl rfl rfl,
 .mt ⟨[sl 7 (.own 0)], []⟩ [] none (by kernel_rfl) (by rfl) (mt_ev ht (by kernel_rfl)) rfl rfl rfl rfl,
 .mt ⟨[sl 8 (I x8)], []⟩ [] none (by kernel_rfl) (by rfl) (mt_ev ht (by kernel_rfl)) rfl rfl rfl rfl,
 .mt ⟨[sl 39 (.own 0), sl 40 (I x8)], [rowI 4 boolT l0]⟩ [] none (by kernel_rfl) (by rfl) (mt_val (val_view (T := boolT) (l := l0) (lv := x8) (hv := (l0.length : Int)) ht rfl (by rfl) (by rfl) (by rfl) (by rfl) (by rfl) (by rfl) (by rfl) (by rfl) hp_2)) rfl rfl rfl rfl,
 .mt ⟨[sl 7 (.own 0)], []⟩ [] none (by kernel_rfl) (by rfl) (mt_ev ht (by kernel_rfl)) rfl rfl rfl rfl,
 .mt ⟨[sl 8 (I x8)], []⟩ [] none (by kernel_rfl) (by rfl) (mt_ev ht (by kernel_rfl)) rfl rfl rfl rfl,
 .mt ⟨[sl 42 (.own 0), sl 43 (I x8)], [rowI 4 boolT l0]⟩ [] none (by kernel_rfl) (by rfl) (mt_val (val_view (T := boolT) (l := l0) (lv := 0) (hv := x8) ht rfl (by rfl) (by rfl) (by rfl) (by rfl) (by rfl) (by rfl) (by rfl) (by rfl) hp_3)) rfl rfl rfl rfl,
 .me ⟨[sl 41 (.vw 0 ((x8 : Int).toNat) (((l0.length : Int) : Int).toNat - (x8 : Int).toNat) 1), sl 44 (.vw 0 ((0 : Int).toNat) ((x8 : Int).toNat - (0 : Int).toNat) 1)], [rowI 4 boolT l0]⟩ [(0, rowI 4 boolT (l0.take ((x8 : Int).toNat) ++ ((l0.drop ((0 : Int).toNat)).take ((x8 : Int).toNat - (0 : Int).toNat)).take (min ((l0.drop ((0 : Int).toNat)).take ((x8 : Int).toNat - (0 : Int).toNat)).length (((l0.length : Int) : Int).toNat - (x8 : Int).toNat)) ++ l0.drop (((x8 : Int).toNat) + (min ((l0.drop ((0 : Int).toNat)).take ((x8 : Int).toNat - (0 : Int).toNat)).length (((l0.length : Int) : Int).toNat - (x8 : Int).toNat)))))] (by kernel_rfl) (by rfl) (me_copy (T := boolT) (L := l0) (es := ((l0.drop ((0 : Int).toNat)).take ((x8 : Int).toNat - (0 : Int).toNat))) (i := 0) (lo := ((x8 : Int).toNat)) (m := (((l0.length : Int) : Int).toNat - (x8 : Int).toNat)) rfl (fun _ h => by cases h) ht rfl (by rfl) (by rfl) (by rfl) (by rfl) (by rfl) (dstVw (by rfl)) (srcVw (T := boolT) (l := l0) rfl (fun _ h => by cases h) (by rfl) (by rfl) (view_le hp_3)) (view_le hp_2)) rfl rfl rfl ⟨⟨_, rfl, rfl, rfl, rfl, rfl⟩, trivial⟩,
 .mt ⟨[sl 38 (I x8), sl 45 (I (((min ((l0.drop ((0 : Int).toNat)).take ((x8 : Int).toNat - (0 : Int).toNat)).length (((l0.length : Int) : Int).toNat - (x8 : Int).toNat)) : Nat) : Int))], []⟩ [] none (by kernel_rfl) (by rfl) (mt_ev ht (by kernel_rfl)) rfl rfl rfl rfl,
 .mt ⟨[sl 46 (I (wr (x8 + (((min ((l0.drop ((0 : Int).toNat)).take ((x8 : Int).toNat - (0 : Int).toNat)).length (((l0.length : Int) : Int).toNat - (x8 : Int).toNat)) : Nat) : Int))))], []⟩ [] none (by kernel_rfl) (by rfl) (mt_ev ht (by kernel_rfl)) rfl rfl rfl rfl,
 trivial⟩
 exact En.at (I := fun zz => Inv zz.1 zz.2 ∧ mu zz.1 zz.2 < mu x8 l0) (T := fun zz => ⟨[sl 7 (.own 0), sl 8 (I zz.1)], [rowI 4 boolT zz.2]⟩) ((wr (x8 + (((min ((l0.drop ((0 : Int).toNat)).take ((x8 : Int).toNat - (0 : Int).toNat)).length (((l0.length : Int) : Int).toNat - (x8 : Int).toNat)) : Nat) : Int))), (l0.take ((x8 : Int).toNat) ++ ((l0.drop ((0 : Int).toNat)).take ((x8 : Int).toNat - (0 : Int).toNat)).take (min ((l0.drop ((0 : Int).toNat)).take ((x8 : Int).toNat - (0 : Int).toNat)).length (((l0.length : Int) : Int).toNat - (x8 : Int).toNat)) ++ l0.drop (((x8 : Int).toNat) + (min ((l0.drop ((0 : Int).toNat)).take ((x8 : Int).toNat - (0 : Int).toNat)).length (((l0.length : Int) : Int).toNat - (x8 : Int).toNat))))) h (by kernel_rfl)
 replace h := h.2 hb
 refine En.exit rfl ?_
 refine En.seq ?_
 refine En.region ?_
 refine WL.run ht hn 2 ⟨[sl 4 (.own 0)], [rowI 4 boolT l0]⟩ (by kernel_rfl) ?_
 refine WL.nil ?_
 refine En.ret ?_
 exact En.backJ (itf := fun l => rowI 4 boolT l) hmay (by rfl) (by rfl) rfl rfl h
theorem en77 : ∀ args w, (callFunc 77 args).run Try.prog w = .ok (.enter 77 args) w := enters_of Try.func77 (by kernel_rfl) rfl
theorem rep_step {k m : Nat} (b : Bool) (hk : k < m) : (List.replicate k b ++ List.replicate (m - k) false).take k ++ (List.replicate k b).take (min k (m - k)) ++ (List.replicate k b ++ List.replicate (m - k) false).drop (k + min k (m - k)) = List.replicate (k + min k (m - k)) b ++ List.replicate (m - (k + min k (m - k))) false := by
 rw [List.take_left' (by simp), List.take_replicate, List.drop_append, List.drop_eq_nil_of_le (by simp), List.nil_append, List.drop_replicate, List.length_replicate, Nat.min_eq_left (Nat.min_le_left _ _), List.replicate_append_replicate]
 congr 2
 omega
theorem repB_ct (l : List Bool) (n : Int) (hp : l.length = 1 ∧ 0 ≤ n ∧ n < 2147483648) : CtI 77 [.sv (.one (LS boolT l)), .sv (.one (I n))] [] (rowI 4 boolT (List.replicate n.toNat (l.headD false))) := by
 refine (repB_walk l n (fun r => r = List.replicate n.toNat (l.headD false)) ?_).fun
 obtain ⟨h1, h0, h2⟩ := hp
 obtain ⟨b, rfl⟩ : ∃ b, l = [b] := by
  match l, h1 with
  | [b], _ => exact ⟨b, rfl⟩
 unfold repB_vc
 intro _
 obtain ⟨m, rfl⟩ : ∃ m : Nat, n = m := ⟨n.toNat, by omega⟩
 have hw : IntKind.wrap .u64 (((1 : Nat) : Int)) = 1 := rfl
 have hu : IntKind.wrap .u64 (m : Int) = m := wr_u64 h0 (by omega)
 simp only [List.length_cons, List.length_nil, Nat.zero_add, hw, hu, Int.one_mul, wr_in (show -9223372036854775808 ≤ (m : Int) by omega) (show (m : Int) ≤ 9223372036854775807 by omega), List.headD_cons, List.length_replicate, Int.toNat_natCast]
 refine ⟨fun h => absurd (of_decide_eq_true h) (by omega), fun _ => ⟨⟨⟨⟨by omega, by omega⟩, by omega, by omega⟩, by omega⟩, fun h => ?_, fun _ => ⟨⟨by omega, by omega, by omega⟩, ?_⟩⟩⟩
 ·simp at h
  omega
 refine ⟨fun x l0 => ∃ k : Nat, x = k ∧ k ≤ m ∧ (0 < k ∨ m = 0) ∧ l0 = List.replicate k b ++ List.replicate (m - k) false, fun x _ => m - x.toNat, ⟨min 1 m, rfl, by omega, by omega, ?_⟩, ?_⟩
 ·by_cases hm : m = 0
  ·subst hm; rfl
  ·rw [Nat.min_eq_left (show 1 ≤ m by omega), List.take_zero, List.nil_append]
   simp
 ·rintro x l0 ⟨k, rfl, hk, hk0, rfl⟩
  have hlen : (List.replicate k b ++ List.replicate (m - k) false).length = m := by simp; omega
  refine ⟨fun hb => ?_, fun hb => ?_⟩
  ·have hlt : k < m := by have := of_decide_eq_true hb; rw [hlen] at this; omega
   simp only [hlen, Int.toNat_natCast, Int.toNat_zero, Nat.sub_zero, List.drop_zero]
   refine ⟨⟨by omega, by omega, by omega⟩, ⟨by omega, by omega, by omega⟩, ?_⟩
   have ht : (List.replicate k b ++ List.replicate (m - k) false).take k = List.replicate k b := List.take_left' (by simp)
   rw [ht, List.length_replicate]
   have hs := rep_step b hlt
   rw [ht] at hs
   rw [hs]
   refine ⟨⟨k + min k (m - k), ?_, by omega, by omega, rfl⟩, ?_⟩
   ·rw [wr_in (by omega) (by omega)]
    omega
   ·rw [wr_in (by omega) (by omega)]
    omega
  ·have : k = m := by have := of_decide_eq_false hb; rw [hlen] at this; omega
   subst this
   simp
end Go.Proofs.Ytiejmeedkhkfgaa


namespace Go.Proofs.Ytiejmeedkhkfgaa
open Go.RowKit Go.MapKept
set_option linter.unusedSimpArgs false
set_option linter.unusedVariables false
set_option maxRecDepth 100000
def slcR {α : Type} (T : Ty α) (l : List α) : Rd := ⟨fun g v => slRead T l g v ∧ ∃ ao, v = .slice ao l.length l.length, fun g g' v hg ⟨h1, h2⟩ => ⟨(slR T l).mono g g' v hg h1, h2⟩⟩
theorem run_append_lim {w : World} {t ty e : Nat} {ti te : TI} (hu : Try.prog.underlying t = some (.slice e)) (hte : TI.ok e te) (hs : 0 < te.size) {v : Value} {n : Nat} {xs : List Value} (hx : SrcRow w te.size v n xs) (hcap : ∃ ao, v = .slice ao n n)
  {vx : Value} {m : Nat} {news : List Value} (hm : 0 < m) (hsrc : SrcRow w te.size vx m news) (h63 : n + m ≤ maxLen) (hbytes : (n + m) * te.bytes ≤ 140737488355328) :
  ∃ v' w', (Builtin.append_ #[t, t] ty #[v, vx]).run Try.prog w = .ok v' w' ∧ w'.ownsAt e te.size v' (n + m) (xs ++ news) ∧ w.grownBy w' none ∧ ∀ b, v'.ownBlock = some b → w.heap.size ≤ b := by
 obtain ⟨ao, cp, rfl, hnil, hlx, hcx, h1x⟩ := hx
 obtain ⟨_, hc⟩ := hcap
 cases hc
 cases ao with
 | none =>
  obtain ⟨rfl, _⟩ := hnil rfl
  obtain rfl : xs = [] := List.eq_nil_of_length_eq_zero (by simpa using hlx)
  obtain ⟨v', w', r1, r2, r3, r4⟩ := run_append_src (w := w) (ty := ty) (ti := ti) hu hte hs (World.ownsAt_nil w e te.size) hsrc h63 hbytes
  refine ⟨v', w', r1, r2, by simpa [Value.ownBlock] using r3, fun b hb => ?_⟩
  rcases r4 with r4 | r4
  ·rw [r4] at hb
   cases hb
  ·rw [r4] at hb
   cases hb
   exact Nat.le_refl _
 | some a0 =>
  obtain ⟨x, z, h1, h2, h3, h4, h5⟩ := hte.parts
  have hzs : z.cells.size = te.size := by rw [← Array.length_toList, h5, hte.zs]
  obtain ⟨ao, c, rfl, hnil2, hl, hcells, hone⟩ := hsrc
  cases ao with
  | none =>
   obtain ⟨_, rfl⟩ := hnil2 rfl
   cases hm
  | some ad =>
   have fix : ∀ {a0 : Addr} {l : List Value}, (∀ j u, l[j]? = some u → ∃ b o, some a0 = some ⟨b, o, none⟩ ∧ w.cell? ⟨b, o + j, none⟩ = some u) → ∀ j u, l[j]? = some u → w.cell? (a0.add j) = some u := fun h j u hj => by
    obtain ⟨b, o, e1, e2⟩ := h j u hj
    cases e1
    rw [svs_add]
    exact e2
   obtain ⟨v', w', r1, r2, r3⟩ := run_append_arg_grows (P := Try.prog) w t ty e x z te.size te.bytes hu h1 h2 h3 h4 hzs hs a0 n n xs hlx (fix hcx) ad m c news hl (fix hcells) (by omega) h63 hbytes
   refine ⟨v', w', r1, r2.at, r3, fun b hb => ?_⟩
   rcases r2.2 with ⟨rfl, _⟩ | ⟨gb, cap, cur, rfl, hg, _⟩
   ·cases hb
   ·cases hb
    exact hg
section
variable {c : Cfg} {S S1 : St} {a : Act} {w : World} {g : Gh} {hs : Nat → Value} {tab : Tab} {n : Nat} {o : Oper} {ops : Array Oper} {rest L : List Oper} {N : Po}
theorem val_sliceC {α : Type} {T : Ty α} {l : List α} {t el m : Nat} {ti te : TI} {x q r : Operand} (ht : tab.ok) (ho : o.op = .slice t x none (some q) (some r)) (h1 : tab t = some ti) (h2 : ti.sl = some el) (h3 : tab el = some te) (h4 : te.size = T.s)
  (hx : evX S.F x = some (.sv (.one (.sl (slR T l) m)))) (hq : evK S.F q = some (.int .i64 l.length)) (hr : evK S.F r = some (.int .i64 l.length)) : Val c S o (.sv (.one (.sl (slcR T l) l.length))) := fun a w g hs h => by
 have hu := slT_some ((ht t ti h1).sl.trans h2)
 obtain ⟨⟨hrd, ao, cap, e1⟩, _⟩ := evX_ok h hx
 have hr' : slRead T l g (a.eval x) := hrd
 rw [e1] at hr'
 have hr2 := hr'
 obtain ⟨ao', n'', cap', k1, k2, k3, k4, k5, k6⟩ := hr2
 cases k1
 subst k2
 have htk := hr'.take (lo := 0) (hi := l.length) (by omega) (by omega)
 have hb : (Instr.sliceBounds true l.length cap none (some (a.eval q)) (some (a.eval r))).run Try.prog w = .ok (0, l.length, l.length) w := by
  unfold Instr.sliceBounds
  simp only [Sem.run_bind, Sem.run_pure, Result.andThen_ok, Instr.sliceBound, evK_ok h hq, evK_ok h hr, asIntOf]
  rw [if_pos (by omega)]
  simp
 have hrun : ∃ ao2, (execOp a.eval o).run Try.prog w = .ok (.value (.slice ao2 l.length l.length)) w ∧ (∀ b of, ao = some ⟨b, of, none⟩ → ao2 = some ⟨b, of, none⟩) ∧ (ao = none → ao2 = none) := by
  have : execOp a.eval o = (do pure (.value (← Instr.sliceAt t (a.eval x) none (some (a.eval q)) (some (a.eval r)))) : Sem Next) := by unfold execOp; rw [ho]; rfl
  rw [this]
  cases ao with
  | none =>
   refine ⟨none, run_val ?_, fun _ _ e => (by cases e), fun _ => rfl⟩
   simp only [Instr.sliceAt, Instr.slice, Sem.run_bind, run_underlying hu, Result.andThen_ok, e1, hb, (ht el te h3).run_size, Sem.run_pure]
   simp
  | some b0 =>
   refine ⟨if l.length = 0 then some b0 else (some b0).map (·.add (0 * te.size)), run_val ?_, fun b of e => ?_, fun e => (by cases e)⟩
   ·simp only [Instr.sliceAt, Instr.slice, Sem.run_bind, run_underlying hu, Result.andThen_ok, e1, hb, (ht el te h3).run_size, Sem.run_pure, Nat.sub_zero]
   ·cases e
    split
    ·rfl
    ·simp [Addr.add]
 obtain ⟨ao2, hrun, hs1, hs2⟩ := hrun
 refine ⟨_, hrun, ⟨⟨⟨ao2, l.length, l.length, rfl, rfl, Nat.le_refl _, by omega, fun e => ?_, fun q y hy => ?_⟩, ao2, rfl⟩, ao2, l.length, rfl⟩, trivial⟩
 ·cases ao with
  | none => have := k5 rfl; omega
  | some b0 =>
   by_cases hl : l = []
   ·rw [hl]; rfl
   ·obtain ⟨b, of, u, j1, _⟩ := k6 0 (l[0]'(by have := List.length_pos_iff.2 hl; omega)) (by simp)
    have := (hs1 b of j1).symm.trans e
    cases this
 ·obtain ⟨b, of, u, j1, j2⟩ := k6 q y hy
  exact ⟨b, of, u, hs1 b of j1, j2⟩
theorem mt_appendC {α : Type} {T : Ty α} {l es : List α} {p m : Nat} {x y : Operand} {t e : Nat} {ti te : TI} (ht : tab.ok) (ho : o.op = .call ⟨.builtin .append, #[x, y], #[t, t]⟩) (h1 : tab t = some ti) (h2 : ti.sl = some e) (h3 : tab e = some te) (h4 : te.size = T.s) (h5 : 0 < T.s) (hT : T.solid)
  (hx : evX S.F x = some (.sv (.one (.sl (slcR T l) m)))) (hsrc : SrcOk c S y T es) (he : 0 < es.length) (hb : (l.length + es.length) * te.bytes ≤ 140737488355328) (hb2 : l.length + es.length ≤ 140737488355328) : MT c S o (.sv (.one (.own p))) [] (some (p, rowI e T (l ++ es))) := fun a w g hs h N Z hN => by
 have hu := slT_some ((ht t ti h1).sl.trans h2)
 obtain ⟨⟨⟨hrd, hcap⟩, _⟩, _⟩ := evX_ok h hx
 obtain ⟨cs, r1, r2⟩ := src_LS hT h5 h.base.pers hrd
 obtain ⟨cs', r3, r4⟩ := hsrc a w g hs h
 rw [← h4] at r1 r3 h5
 obtain ⟨v', w', k1, k2, k3, k4⟩ := run_append_lim (w := w) (ty := o.type) (ti := ti) hu (ht e te h3) h5 r1 hcap he r3 (by simp only [maxLen]; omega) hb
 unfold Oper.wp
 have hrun : (execOp a.eval o).run Try.prog w = .ok (.value v') w' := by
  have : execOp a.eval o = (do pure (.value (← Builtin.append_ #[t, t] o.type #[a.eval x, a.eval y])) : Sem Next) := by
   unfold execOp
   rw [ho]
   simp [resolve, invoke, builtin]
  rw [this]
  exact run_valW k1
 rw [hrun]
 have hsl' := ownsRow_slice k2
 have k3' : ∀ b, b < w.heap.size → w'.heap[b]? = w.heap[b]? := fun b hb => k3.block b hb (by simp)
 refine hN v' w' g v' ⟨k3.os, k3.tape, k3.output, k3.size, fun b hb _ => k3' b hb, Gh.le.refl g, fun b o e => .inl e, fun b o e => (k3' b (h.base.pers.lt e)).trans (h.base.pers b o e)⟩ ⟨?_, ?_⟩ ⟨⟨cs ++ cs', ?_, r2.append r4⟩, fun b hb => ?_⟩
 ·show v' = (if p = p then v' else hs p)
  rw [if_pos rfl]
 ·obtain ⟨ao, m, cap, rfl⟩ := hsl'
  trivial
 ·rw [List.length_append, ← h4]
  exact k2
 ·rw [Blk_slice hsl'] at hb
  have hge := k4 b hb
  have := k2.lt b hb
  refine ⟨this.2, fun _ => ?_, .inl hge⟩
  cases hgb : g b with
  | none => rfl
  | some o => have := h.base.pers.lt hgb; omega
end
end Go.Proofs.Ytiejmeedkhkfgaa

