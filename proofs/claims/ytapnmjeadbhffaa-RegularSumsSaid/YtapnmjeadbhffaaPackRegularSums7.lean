/- Lemmas towards the statement: mirrors of functions, and plain laws. No condition. -/
import Derived.Test.YtapnmjeadbhffaaPackRegularSums6


namespace Go.Proofs.Ytapnmjeadbhffaa
open Go.RowKit Go.MapKept
set_option linter.unusedSimpArgs false
set_option linter.unusedVariables false
set_option maxRecDepth 100000
def fullS (text : ByteArray) : Option RTr := if 4000 < text.size then none else match pW text (text.size + 1) 0 0 with
 | none => none
 | some r => if r.2 < text.size then none else some r.1
def ParsedQ (text : ByteArray) (r : Option RTr × ApiFault) : Prop := match fullS text with
 | some t => r = (some t, ⟨0, 0⟩)
 | none => r.1 = none ∧ r.2.fCode ≠ 0
theorem rParsed_ct (text : ByteArray) : Ct 70 [.sv (.one (.v (.string text)))] [] (ParsedQ text) (fun (r : (Option (Tr RLab) × ApiFault)) => .tup [.one (.rd (optR rLab r.1)), .agg [I r.2.fCode, I r.2.fAt]]) := by
 refine rParsed_walk text (ParsedQ text) ?_
 unfold rParsed_vc ParsedQ fullS
 refine ⟨fun hb => ?_, fun hb => ⟨⟨?_, ⟨by decide, ?_, ?_⟩, by decide, by decide⟩, fun hN code at_ hc => ?_, fun r hr => ⟨fun hb2 => ⟨by decide, fun code at_ hc => ?_⟩, fun hb2 => ?_⟩⟩⟩
 ·have : 4000 < text.size := by have := of_decide_eq_true hb; omega
  rw [if_pos this]
  exact ⟨rfl, by show (1 : Int) ≠ 0; decide⟩
 ·have := of_decide_eq_false hb
  omega
 ·omega
 ·push_cast
  omega
 ·have : ¬ 4000 < text.size := by have := of_decide_eq_false hb; omega
  rw [if_neg this, hN]
  exact ⟨rfl, hc⟩
 ·have : ¬ 4000 < text.size := by have := of_decide_eq_false hb; omega
  have h2 : r.2 < text.size := of_decide_eq_true hb2
  rw [if_neg this, hr]
  simp only [if_pos h2]
  exact ⟨trivial, hc⟩
 ·have : ¬ 4000 < text.size := by have := of_decide_eq_false hb; omega
  have h2 : ¬ r.2 < text.size := of_decide_eq_false hb2
  rw [if_neg this, hr]
  simp only [if_neg h2]
def strIdx (f : Int → Bool) (truth : Bool) (s : ByteArray) : Nat → Nat → Int
 | 0, _ => -1
 | n + 1, q => if q < s.size then if (f (((Utf8.decode s q).1 : Nat) : Int) == truth) = true then (q : Int) else strIdx f truth s n (q + (Utf8.decode s q).2) else -1
def sIdxF_vc (s : ByteArray) (domf : (Int → Prop)) (f : (Int → Bool)) (truth : Bool) (Q : Int → Prop) : Prop :=
 ∃ (Inv : Nat → Prop) (mu : Nat → Nat), Inv 0 ∧
 ∀ (q0 : Nat) , Inv q0 → (IfP (decide (q0 < s.size)) ((domf (((Utf8.decode s q0).1 : Nat) : Int)) ∧
 IfP ((f (((Utf8.decode s q0).1 : Nat) : Int)) == truth) (Q ((q0 : Nat) : Int)) ((Inv (q0 + (Utf8.decode s q0).2) ∧ mu (q0 + (Utf8.decode s q0).2) < mu q0))) (Q (-1)))
theorem sIdxF_walk (s : ByteArray) (domf : (Int → Prop)) (f : (Int → Bool)) (truth : Bool) (Q : Int → Prop) (h : sIdxF_vc s domf f truth Q) : Ct 210 [.sv (.one (.v (.string s))), .sv (.one (.rd (fvR (fun (x : Int) => [.sv (.one (.v (.int .i32 x)))]) (fun (r : Bool) => .sv (.one (B r))) domf f))), .sv (.one (B truth))] [] Q (fun (r : Int) => .sv (.one (I r))) := by
 have ht := tab_ok
 refine Ct.body Try.func210 rfl rfl rfl rfl (fun c hn => ?_)
 unfold sIdxF_vc at h
 refine En.seq ?_
 refine En.region ?_
 refine WL.run ht hn 1 ⟨[sl 0 (.v (.string s)), sl 1 (.rd (fvR (fun (x : Int) => [.sv (.one (.v (.int .i32 x)))]) (fun (r : Bool) => .sv (.one (B r))) domf f)), sl 2 (B truth)], []⟩ (by kernel_rfl) ?_
 refine WL.nil ?_
 refine En.seq ?_
 refine En.seq ?_
 refine En.region ?_
 refine WL.run ht hn 1 ⟨[sl 1 (.rd (fvR (fun (x : Int) => [.sv (.one (.v (.int .i32 x)))]) (fun (r : Bool) => .sv (.one (B r))) domf f)), sl 2 (B truth), sl 9 (.v (.string s))], []⟩ (by kernel_rfl) ?_
 refine WL.mt0 (K := []) (p := some (0, .siter s 0)) hn (by rfl) (mt_rangeS 0 rfl Try.underlying9 (by rfl)) (by rfl) (by rfl) (by rfl) ?_
 refine WL.nil ?_
 refine En.block ?_
 obtain ⟨Inv, mu, h0, hI⟩ := h
 refine En.loop (σ := Nat) (fun zz => Inv zz) (fun zz => mu zz) (fun zz => ⟨[sl 1 (.rd (fvR (fun (x : Int) => [.sv (.one (.v (.int .i32 x)))]) (fun (r : Bool) => .sv (.one (B r))) domf f)), sl 2 (B truth), sl 10 (.own 0)], [.siter s zz]⟩) 0 h0 (sub_ok (by kernel_rfl)) ?_
 intro q0 h
 replace h := hI _ h
 show En c ⟨[sl 1 (.rd (fvR (fun (x : Int) => [.sv (.one (.v (.int .i32 x)))]) (fun (r : Bool) => .sv (.one (B r))) domf f)), sl 2 (B truth), sl 10 (.own 0)], [.siter s q0]⟩ _
 refine En.seq ?_
 refine En.region ?_
 refine WL.nextS (r := 0) (s := s) (pos := q0) hn (by rfl) rfl (by rfl) (by rfl) (fun hl => ⟨_, by rfl, ?_⟩) (fun hl => ⟨_, by rfl, ?_⟩)
 replace h := h.2 hl
 refine WL.run ht hn 1 ⟨[sl 1 (.rd (fvR (fun (x : Int) => [.sv (.one (.v (.int .i32 x)))]) (fun (r : Bool) => .sv (.one (B r))) domf f)), sl 2 (B truth), sl 10 (.own 0), (11, .tup [.one (B false)]), sl 12 (B false)], [.siter s q0]⟩ (by kernel_rfl) ?_
 refine WL.nil ?_
 refine En.seq ?_
 refine En.cond (b := false) (by kernel_rfl) (fun hb => ?_) (fun hb => ?_)
 cases hb
 refine En.exit rfl ?_
 refine En.seq ?_
 refine En.region ?_
 refine WL.run ht hn 1 ⟨[sl 6 (I (-1))], [.gone]⟩ (by kernel_rfl) ?_
 refine WL.nil ?_
 refine En.ret ?_
 exact En.back ht (-1) h (by kernel_rfl) rfl
 replace h := h.1 hl
 refine WL.run ht hn 1 ⟨[sl 1 (.rd (fvR (fun (x : Int) => [.sv (.one (.v (.int .i32 x)))]) (fun (r : Bool) => .sv (.one (B r))) domf f)), sl 2 (B truth), sl 10 (.own 0), (11, .tup [.one (B true), .one (I ((q0 : Nat) : Int)), .one (.v (.int .i32 (((Utf8.decode s q0).1 : Nat) : Int)))]), sl 12 (B true)], [.siter s (q0 + (Utf8.decode s q0).2)]⟩ (by kernel_rfl) ?_
 refine WL.nil ?_
 refine En.seq ?_
 refine En.cond (b := true) (by kernel_rfl) (fun hb => ?_) (fun hb => ?_)
 refine En.skip ?_
 refine En.block ?_
 refine En.seq ?_
 refine En.region ?_
 refine WL.run ht hn 4 ⟨[sl 1 (.rd (fvR (fun (x : Int) => [.sv (.one (.v (.int .i32 x)))]) (fun (r : Bool) => .sv (.one (B r))) domf f)), sl 2 (B truth), sl 7 (I ((q0 : Nat) : Int)), sl 8 (.v (.int .i32 (((Utf8.decode s q0).1 : Nat) : Int))), sl 10 (.own 0)], [.siter s (q0 + (Utf8.decode s q0).2)]⟩ (by kernel_rfl) ?_
 refine WL.nil ?_
 refine En.seq ?_
 refine En.region ?_
 refine WL.run ht hn 2 ⟨[sl 1 (.rd (fvR (fun (x : Int) => [.sv (.one (.v (.int .i32 x)))]) (fun (r : Bool) => .sv (.one (B r))) domf f)), sl 2 (B truth), sl 7 (I ((q0 : Nat) : Int)), sl 10 (.own 0), sl 15 (.rd (fvR (fun (x : Int) => [.sv (.one (.v (.int .i32 x)))]) (fun (r : Bool) => .sv (.one (B r))) domf f)), sl 16 (.v (.int .i32 (((Utf8.decode s q0).1 : Nat) : Int)))], [.siter s (q0 + (Utf8.decode s q0).2)]⟩ (by kernel_rfl) ?_
 have hp := h.1
 replace h := h.2
 refine WL.mt0 (K := []) (p := none) hn (by rfl) (mt_callv (((Utf8.decode s q0).1 : Nat) : Int) hp rfl (by rfl) (by rfl) (by rfl) (by rfl)) (by rfl) (by rfl) (by rfl) ?_
 refine WL.run ht hn 1 ⟨[sl 1 (.rd (fvR (fun (x : Int) => [.sv (.one (.v (.int .i32 x)))]) (fun (r : Bool) => .sv (.one (B r))) domf f)), sl 2 (B truth), sl 7 (I ((q0 : Nat) : Int)), sl 10 (.own 0), sl 17 (B (f (((Utf8.decode s q0).1 : Nat) : Int))), sl 18 (B truth)], [.siter s (q0 + (Utf8.decode s q0).2)]⟩ (by kernel_rfl) ?_
 refine WL.val hn (by rfl) (val_eqB (u := (f (((Utf8.decode s q0).1 : Nat) : Int))) (v := truth) rfl Try.underlying4 (by rfl) (by rfl) (.inl ⟨rfl, rfl⟩)) (by rfl) ?_
 refine WL.nil ?_
 refine En.cond (b := ((f (((Utf8.decode s q0).1 : Nat) : Int)) == truth)) (by kernel_rfl) (fun hb => ?_) (fun hb => ?_)
 replace h := h.1 hb
 refine En.seq ?_
 refine En.region ?_
 refine WL.run ht hn 2 ⟨[sl 6 (I ((q0 : Nat) : Int))], [.gone]⟩ (by kernel_rfl) ?_
 refine WL.nil ?_
 refine En.ret ?_
 exact En.back ht ((q0 : Nat) : Int) h (by kernel_rfl) rfl
 replace h := h.2 hb
 refine En.skip ?_
 exact En.at (I := fun zz => Inv zz ∧ mu zz < mu q0) (T := fun zz => ⟨[sl 1 (.rd (fvR (fun (x : Int) => [.sv (.one (.v (.int .i32 x)))]) (fun (r : Bool) => .sv (.one (B r))) domf f)), sl 2 (B truth), sl 10 (.own 0)], [.siter s zz]⟩) (q0 + (Utf8.decode s q0).2) h (by kernel_rfl)
 cases hb
theorem en210 : ∀ args w, (callFunc 210 args).run Try.prog w = .ok (.enter 210 args) w := enters_of Try.func210 (by kernel_rfl) rfl
theorem sIdxF_ct (s : ByteArray) (domf : (Int → Prop)) (f : (Int → Bool)) (truth : Bool) (hd : ∀ x, domf x)  : Ct 210 [.sv (.one (.v (.string s))), .sv (.one (.rd (fvR (fun (x : Int) => [.sv (.one (.v (.int .i32 x)))]) (fun (r : Bool) => .sv (.one (B r))) domf f))), .sv (.one (B truth))] [] (fun (_ : Unit) => True) (fun _ => .sv (.one (I (strIdx f truth s (s.size + 1) 0)))) := by
 refine (sIdxF_walk s domf f truth (fun res_ => res_ = (strIdx f truth s (s.size + 1) 0)) ?_).fun
 unfold sIdxF_vc
 refine ⟨fun q => ∃ n : Nat, s.size < n + q ∧ strIdx f truth s n q = strIdx f truth s (s.size + 1) 0, fun q => s.size - q, ⟨s.size + 1, by omega, rfl⟩, ?_⟩
 rintro q ⟨n, hn, he⟩
 refine ⟨fun hb => ⟨hd _, ?_⟩, fun hb => ?_⟩
 ·have hlt : q < s.size := of_decide_eq_true hb
  have hw := dec_width s q hlt
  cases n with
  | zero => omega
  | succ n =>
   rw [strIdx, if_pos hlt] at he
   refine ⟨fun hb2 => ?_, fun hb2 => ⟨⟨n, by omega, ?_⟩, ?_⟩⟩
   ·rw [if_pos hb2] at he
    exact he
   ·rw [if_neg (by rw [hb2]; decide)] at he
    exact he
   ·show s.size - (q + _) < s.size - q
    omega
 ·have hge : ¬ q < s.size := of_decide_eq_false hb
  cases n with
  | zero => rw [strIdx] at he; exact he
  | succ n => rw [strIdx, if_neg hge] at he; exact he
def sIdx_vc (s : ByteArray) (domf : (Int → Prop)) (f : (Int → Bool)) (Q : Int → Prop) : Prop :=
 (∀ x_ : Int, domf x_) ∧
 Q (strIdx f true s ((s).size + 1) 0)
theorem sIdx_walk (s : ByteArray) (domf : (Int → Prop)) (f : (Int → Bool)) (Q : Int → Prop) (h : sIdx_vc s domf f Q) : Ct 157 [.sv (.one (.v (.string s))), .sv (.one (.rd (fvR (fun (x : Int) => [.sv (.one (.v (.int .i32 x)))]) (fun (r : Bool) => .sv (.one (B r))) domf f)))] [] Q (fun (r : Int) => .sv (.one (I r))) := by
 have ht := tab_ok
 refine Ct.body Try.func157 rfl rfl rfl rfl (fun c hn => ?_)
 unfold sIdx_vc at h
 refine En.seq ?_
 refine En.region ?_
 refine WL.run ht hn 1 ⟨[sl 0 (.v (.string s)), sl 1 (.rd (fvR (fun (x : Int) => [.sv (.one (.v (.int .i32 x)))]) (fun (r : Bool) => .sv (.one (B r))) domf f))], []⟩ (by kernel_rfl) ?_
 refine WL.nil ?_
 refine En.seq ?_
 refine En.region ?_
 refine WL.run ht hn 2 ⟨[sl 5 (.v (.string s)), sl 6 (.rd (fvR (fun (x : Int) => [.sv (.one (.v (.int .i32 x)))]) (fun (r : Bool) => .sv (.one (B r))) domf f))], []⟩ (by kernel_rfl) ?_
 have hp := h.1
 replace h := h.2
 refine WL.mt0 (K := []) (p := none) hn (by rfl) (mt_call (sIdxF_ct s domf f true hp) en210 (caps := []) [] rfl (by rfl) (by kernel_rfl) (by kernel_rfl) (by rfl) (by rfl) (by rfl)) (by rfl) (by rfl) (by rfl) ?_
 refine WL.run ht hn 1 ⟨[sl 4 (I (strIdx f true s ((s).size + 1) 0))], []⟩ (by kernel_rfl) ?_
 refine WL.nil ?_
 refine En.ret ?_
 exact En.back ht (strIdx f true s ((s).size + 1) 0) h (by kernel_rfl) rfl
theorem en157 : ∀ args w, (callFunc 157 args).run Try.prog w = .ok (.enter 157 args) w := enters_of Try.func157 (by kernel_rfl) rfl
theorem sIdx_ct (s : ByteArray) (domf : (Int → Prop)) (f : (Int → Bool)) (hd : ∀ x, domf x)  : Ct 157 [.sv (.one (.v (.string s))), .sv (.one (.rd (fvR (fun (x : Int) => [.sv (.one (.v (.int .i32 x)))]) (fun (r : Bool) => .sv (.one (B r))) domf f)))] [] (fun (_ : Unit) => True) (fun _ => .sv (.one (I (strIdx f true s (s.size + 1) 0)))) := by
 refine (sIdx_walk s domf f (fun res_ => res_ = (strIdx f true s (s.size + 1) 0)) ?_).fun
 exact ⟨hd, rfl⟩
def sHas_vc (s : ByteArray) (domf : (Int → Prop)) (f : (Int → Bool)) (Q : Bool → Prop) : Prop :=
 (∀ x_ : Int, domf x_) ∧
 Q (decide ((strIdx f true s ((s).size + 1) 0) ≥ 0))
theorem sHas_walk (s : ByteArray) (domf : (Int → Prop)) (f : (Int → Bool)) (Q : Bool → Prop) (h : sHas_vc s domf f Q) : Ct 71 [.sv (.one (.v (.string s))), .sv (.one (.rd (fvR (fun (x : Int) => [.sv (.one (.v (.int .i32 x)))]) (fun (r : Bool) => .sv (.one (B r))) domf f)))] [] Q (fun (r : Bool) => .sv (.one (B r))) := by
 have ht := tab_ok
 refine Ct.body Try.func71 rfl rfl rfl rfl (fun c hn => ?_)
 unfold sHas_vc at h
 refine En.seq ?_
 refine En.region ?_
 refine WL.run ht hn 1 ⟨[sl 0 (.v (.string s)), sl 1 (.rd (fvR (fun (x : Int) => [.sv (.one (.v (.int .i32 x)))]) (fun (r : Bool) => .sv (.one (B r))) domf f))], []⟩ (by kernel_rfl) ?_
 refine WL.nil ?_
 refine En.seq ?_
 refine En.region ?_
 refine WL.run ht hn 2 ⟨[sl 5 (.v (.string s)), sl 6 (.rd (fvR (fun (x : Int) => [.sv (.one (.v (.int .i32 x)))]) (fun (r : Bool) => .sv (.one (B r))) domf f))], []⟩ (by kernel_rfl) ?_
 have hp := h.1
 replace h := h.2
 refine WL.mt0 (K := []) (p := none) hn (by rfl) (mt_call (sIdx_ct s domf f hp) en157 (caps := []) [] rfl (by rfl) (by kernel_rfl) (by kernel_rfl) (by rfl) (by rfl) (by rfl)) (by rfl) (by rfl) (by rfl) ?_
 refine WL.run ht hn 2 ⟨[sl 4 (B (decide ((strIdx f true s ((s).size + 1) 0) ≥ 0)))], []⟩ (by kernel_rfl) ?_
 refine WL.nil ?_
 refine En.ret ?_
 exact En.back ht (decide ((strIdx f true s ((s).size + 1) 0) ≥ 0)) h (by kernel_rfl) rfl
theorem en71 : ∀ args w, (callFunc 71 args).run Try.prog w = .ok (.enter 71 args) w := enters_of Try.func71 (by kernel_rfl) rfl
theorem sHas_ct (s : ByteArray) (domf : (Int → Prop)) (f : (Int → Bool)) (hd : ∀ x, domf x)  : Ct 71 [.sv (.one (.v (.string s))), .sv (.one (.rd (fvR (fun (x : Int) => [.sv (.one (.v (.int .i32 x)))]) (fun (r : Bool) => .sv (.one (B r))) domf f)))] [] (fun (_ : Unit) => True) (fun _ => .sv (.one (B (decide (0 ≤ strIdx f true s (s.size + 1) 0))))) := by
 refine (sHas_walk s domf f (fun res_ => res_ = (decide (0 ≤ strIdx f true s (s.size + 1) 0))) ?_).fun
 exact ⟨hd, rfl⟩
def rgD1_vc (ch : Int) (m : Int) (Q : Bool → Prop) : Prop :=
 Q ((decide (ch ≥ (IntKind.wrap .i32 (97 + (IntKind.wrap .i32 m))))) && (decide (ch ≤ 100)))
noncomputable abbrev qrgD10 (ch : Int) (m : Int) := (decide (ch ≥ (IntKind.wrap .i32 (97 + (IntKind.wrap .i32 m)))))
theorem rgD1_walk (ch : Int) (m : Int) (Q : Bool → Prop) (h : rgD1_vc ch m Q) : Ct 72 [.sv (.one (.v (.int .i32 ch))), .sv (.one (.ptr 0 0))] [.box [I m] 3 true] Q (fun (r : Bool) => .sv (.one (B r))) := by
 have ht := tab_ok
 refine Ct.body Try.func72 rfl rfl rfl rfl (fun c hn => ?_)
 unfold rgD1_vc at h
 refine En.seq ?_
 refine En.region ?_
 refine WL.run ht hn 1 ⟨[sl 0 (.v (.int .i32 ch)), sl 1 (.ptr 0 0)], [.box [I m] 3 true]⟩ (by kernel_rfl) ?_
 refine WL.nil ?_
 refine En.seq ?_
 refine En.region ?_
 refine WL.run ht hn 6 ⟨[sl 0 (.v (.int .i32 ch)), sl 9 (B (qrgD10 ch m))], [.gone]⟩ (by kernel_rfl) ?_
 refine WL.thru ⟨[sl 3 (B ((qrgD10 ch m) && (decide (ch ≤ 100))))], [.gone]⟩ ?_ ?_
 refine splitB (qrgD10 ch m) (fun hb0 => ?_) (fun hb0 => ?_)
 refine WL.setB 9 hb0 (by kernel_rfl) ?_
 refine WL.run ht hn 4 ⟨[sl 3 (B (decide (ch ≤ 100)))], [.gone]⟩ (by kernel_rfl) ?_
 exact WL.nil (sub_ok (by simp only [hb0]; kernel_rfl))
 refine WL.setB 9 hb0 (by kernel_rfl) ?_
 refine WL.run ht hn 4 ⟨[sl 3 (B false)], [.gone]⟩ (by kernel_rfl) ?_
 exact WL.nil (sub_ok (by simp only [hb0]; kernel_rfl))
 refine En.ret ?_
 exact En.back ht ((qrgD10 ch m) && (decide (ch ≤ 100))) h (by kernel_rfl) rfl
theorem en72 : ∀ args w, (callFunc 72 args).run Try.prog w = .ok (.enter 72 args) w := enters_of Try.func72 (by kernel_rfl) rfl
def rgD2_vc (st : Int) (a : Int) (good : (List Bool)) (p : RegularPlaces) (Q : Int → Prop) : Prop :=
 ∃ (Inv : Int → Int → Prop) (mu : Int → Int → Nat), Inv 0 0 ∧
 ∀ (x7 : Int) (x13 : Int) , Inv x7 x13 → (IfP (decide (x13 < (good.length : Int))) (∃ J : Int → Prop, ((0 ≤ x13) ∧
 IfP ((bitsI .and .i64 (Int.fdiv st (2 ^ (min (x13).toNat 64))) 1) == 0) (J x7) (∃ e, idx p.fNext x13 = some e ∧
 ∃ (Inv_2 : Int → Int → Prop) (mu_2 : Int → Int → Nat), Inv_2 x7 0 ∧
 ∀ (x7_3 : Int) (x29 : Int) , Inv_2 x7_3 x29 → (IfP (decide (x29 < (e.length : Int))) (∃ J_2 : Int → Prop, (∃ e_2, idx e x29 = some e_2 ∧
 ∃ e_3, idx p.fLetters e_2 = some e_3 ∧
 IfP (e_3 == a) ((0 ≤ e_2) ∧
 J_2 (bitsI .or .i64 x7_3 (wr (1 * (2 ^ (min (e_2).toNat 64)))))) (J_2 x7_3)) ∧
 (∀ (x7_4 : Int), J_2 x7_4 → (Inv_2 x7_4 (wr (x29 + 1)) ∧ mu_2 x7_4 (wr (x29 + 1)) < mu_2 x7_3 x29))) (J x7_3)))) ∧
 (∀ (x7_2 : Int), J x7_2 → (Inv x7_2 (wr (x13 + 1)) ∧ mu x7_2 (wr (x13 + 1)) < mu x7 x13))) (Q x7))
noncomputable abbrev qrgD20 (p : RegularPlaces) := (svR (.agg (RegularPlaces.cl p)))
noncomputable abbrev qrgD21 (good : (List Bool)) := (I (good.length : Int))
theorem rgD2_walk (st : Int) (a : Int) (good : (List Bool)) (p : RegularPlaces) (Q : Int → Prop) (h : rgD2_vc st a good p Q) : Ct 75 [.sv (.one (I st)), .sv (.one (I a)), .sv (.one (.ptr 0 0)), .sv (.one (.ptr 1 0))] [.box [LS boolT good] 56 true, .box [.pe (svR (.agg [LS intT p.fLetters, LS (lsT intT) p.fNext])) 2] 157 true] Q (fun (r : Int) => .sv (.one (I r))) := by
 have ht := tab_ok
 refine Ct.body Try.func75 rfl rfl rfl rfl (fun c hn => ?_)
 unfold rgD2_vc at h
 refine En.seq ?_
 refine En.region ?_
 refine WL.run ht hn 1 ⟨[sl 0 (I st), sl 1 (I a), sl 2 (.ptr 0 0), sl 3 (.ptr 1 0)], [.box [LS boolT good] 56 true, .box [.pe (qrgD20 p) 2] 157 true]⟩ (by kernel_rfl) ?_
 refine WL.nil ?_
 refine En.seq ?_
 refine En.region ?_
 refine WL.run ht hn 1 ⟨[sl 0 (I st), sl 1 (I a), sl 2 (.ptr 0 0), sl 3 (.ptr 1 0), sl 7 (I 0)], [.box [LS boolT good] 56 true, .box [.pe (qrgD20 p) 2] 157 true]⟩ (by kernel_rfl) ?_
 refine WL.nil ?_
 refine En.seq ?_
 refine En.seq ?_
 refine En.region ?_
 refine WL.run ht hn 3 ⟨[sl 0 (I st), sl 1 (I a), sl 3 (.ptr 1 0), sl 7 (I 0), sl 12 (qrgD21 good), sl 13 (I 0)], [.gone, .box [.pe (qrgD20 p) 2] 157 true]⟩ (by kernel_rfl) ?_
 refine WL.nil ?_
 refine En.block ?_
 obtain ⟨Inv, mu, h0_2, hI_2⟩ := h
 refine En.loop (σ := Int × Int) (fun zz => Inv zz.1 zz.2) (fun zz => mu zz.1 zz.2) (fun zz => ⟨[sl 0 (I st), sl 1 (I a), sl 3 (.ptr 1 0), sl 7 (I zz.1), sl 12 (qrgD21 good), sl 13 (I zz.2)], [.gone, .box [.pe (qrgD20 p) 2] 157 true]⟩) (0, 0) h0_2 (sub_ok (by kernel_rfl)) ?_
 rintro ⟨x7, x13⟩ h
 replace h := hI_2 _ _ h
 show En c ⟨[sl 0 (I st), sl 1 (I a), sl 3 (.ptr 1 0), sl 7 (I x7), sl 12 (qrgD21 good), sl 13 (I x13)], [.gone, .box [.pe (qrgD20 p) 2] 157 true]⟩ _
 refine En.seq ?_
 refine En.region ?_
 refine WL.run ht hn 1 ⟨[sl 0 (I st), sl 1 (I a), sl 3 (.ptr 1 0), sl 7 (I x7), sl 12 (qrgD21 good), sl 13 (I x13), sl 14 (B (decide (x13 < (good.length : Int))))], [.gone, .box [.pe (qrgD20 p) 2] 157 true]⟩ (by kernel_rfl) ?_
 refine WL.nil ?_
 refine En.seq ?_
 refine En.cond (b := (decide (x13 < (good.length : Int)))) (by kernel_rfl) (fun hb => ?_) (fun hb => ?_)
 replace h := h.1 hb
 refine En.skip ?_
 obtain ⟨J, h, hJ⟩ := h
 refine En.seqJ (σ := Int) (fun zz => J zz) (fun zz => ⟨[sl 0 (I st), sl 1 (I a), sl 3 (.ptr 1 0), sl 7 (I zz), sl 12 (qrgD21 good), sl 13 (I x13)], [.gone, .box [.pe (qrgD20 p) 2] 157 true]⟩) ?_ ?_
 refine En.block ?_
 refine En.seq ?_
 refine En.region ?_
 refine WL.run ht hn 2 ⟨[sl 0 (I st), sl 1 (I a), sl 3 (.ptr 1 0), sl 7 (I x7), sl 8 (I x13), sl 12 (qrgD21 good), sl 13 (I x13)], [.gone, .box [.pe (qrgD20 p) 2] 157 true]⟩ (by kernel_rfl) ?_
 refine WL.nil ?_
 refine En.seq ?_
 refine En.seq ?_
 refine En.region ?_
 refine WL.run ht hn 2 ⟨[sl 0 (I st), sl 1 (I a), sl 3 (.ptr 1 0), sl 7 (I x7), sl 8 (I x13), sl 12 (qrgD21 good), sl 13 (I x13), sl 16 (I st), sl 17 (I x13)], [.gone, .box [.pe (qrgD20 p) 2] 157 true]⟩ (by kernel_rfl) ?_
 have hz := h.1
 replace h := h.2
 refine WL.val hn (by rfl) (val_shift (u := st) (v := x13) rfl (by rfl) (by rfl) hz (.inr ⟨rfl, rfl⟩)) (by rfl) ?_
 refine WL.run ht hn 2 ⟨[sl 0 (I st), sl 1 (I a), sl 3 (.ptr 1 0), sl 7 (I x7), sl 8 (I x13), sl 12 (qrgD21 good), sl 13 (I x13), sl 20 (B ((bitsI .and .i64 (Int.fdiv st (2 ^ (min (x13).toNat 64))) 1) == 0))], [.gone, .box [.pe (qrgD20 p) 2] 157 true]⟩ (by kernel_rfl) ?_
 refine WL.nil ?_
 refine En.cond (b := ((bitsI .and .i64 (Int.fdiv st (2 ^ (min (x13).toNat 64))) 1) == 0)) (by kernel_rfl) (fun hb => ?_) (fun hb => ?_)
 replace h := h.1 hb
 refine En.exit rfl ?_
 exact En.at (I := fun zz => J zz) (T := fun zz => ⟨[sl 0 (I st), sl 1 (I a), sl 3 (.ptr 1 0), sl 7 (I zz), sl 12 (qrgD21 good), sl 13 (I x13)], [.gone, .box [.pe (qrgD20 p) 2] 157 true]⟩) x7 h (by kernel_rfl)
 replace h := h.2 hb
 refine En.skip ?_
 refine En.seq ?_
 refine En.region ?_
 refine WL.run ht hn 2 ⟨[sl 0 (I st), sl 1 (I a), sl 3 (.ptr 1 0), sl 7 (I x7), sl 8 (I x13), sl 12 (qrgD21 good), sl 13 (I x13), sl 22 (.pe (qrgD20 p) 2)], [.gone, .box [.pe (qrgD20 p) 2] 157 true]⟩ (by kernel_rfl) ?_
 refine WL.val hn (by rfl) (val_field (l := (RegularPlaces.cl p)) (r := .one (LS (lsT intT) p.fNext)) ht rfl (by rfl) (by rfl) (by rfl) (by rfl) (by rfl) (by rfl)) (by rfl) ?_
 refine WL.val hn (by rfl) (val_load (s := .one (LS (lsT intT) p.fNext)) ht rfl (by rfl) (by rfl) (by rfl) (by rfl) (by rfl)) (by rfl) ?_
 refine WL.run ht hn 1 ⟨[sl 0 (I st), sl 1 (I a), sl 3 (.ptr 1 0), sl 7 (I x7), sl 12 (qrgD21 good), sl 13 (I x13), sl 24 (LS (lsT intT) p.fNext), sl 25 (I x13)], [.gone, .box [.pe (qrgD20 p) 2] 157 true]⟩ (by kernel_rfl) ?_
 obtain ⟨e, he, h⟩ := h
 refine WL.val hn (by rfl) (val_index (T := (lsT intT)) (l := p.fNext) (i := x13) ht rfl (by rfl) (by rfl) (by rfl) (by rfl) (by rfl) (by rfl) he) (by rfl) ?_
 refine WL.val hn (by rfl) (val_load (s := .one (LS intT e)) ht rfl (by rfl) (by rfl) (by rfl) (by rfl) (by rfl)) (by rfl) ?_
 refine WL.run ht hn 2 ⟨[sl 0 (I st), sl 1 (I a), sl 3 (.ptr 1 0), sl 7 (I x7), sl 12 (qrgD21 good), sl 13 (I x13), sl 27 (LS intT e), sl 28 (I (e.length : Int)), sl 29 (I 0)], [.gone, .box [.pe (qrgD20 p) 2] 157 true]⟩ (by kernel_rfl) ?_
 refine WL.nil ?_
 refine En.block ?_
 obtain ⟨Inv_2, mu_2, h0, hI⟩ := h
 refine En.loop (σ := Int × Int) (fun zz => Inv_2 zz.1 zz.2) (fun zz => mu_2 zz.1 zz.2) (fun zz => ⟨[sl 0 (I st), sl 1 (I a), sl 3 (.ptr 1 0), sl 7 (I zz.1), sl 12 (qrgD21 good), sl 13 (I x13), sl 27 (LS intT e), sl 28 (I (e.length : Int)), sl 29 (I zz.2)], [.gone, .box [.pe (qrgD20 p) 2] 157 true]⟩) (x7, 0) h0 (sub_ok (by kernel_rfl)) ?_
 rintro ⟨x7_3, x29⟩ h
 replace h := hI _ _ h
 show En c ⟨[sl 0 (I st), sl 1 (I a), sl 3 (.ptr 1 0), sl 7 (I x7_3), sl 12 (qrgD21 good), sl 13 (I x13), sl 27 (LS intT e), sl 28 (I (e.length : Int)), sl 29 (I x29)], [.gone, .box [.pe (qrgD20 p) 2] 157 true]⟩ _
 refine En.seq ?_
 refine En.region ?_
 refine WL.run ht hn 1 ⟨[sl 0 (I st), sl 1 (I a), sl 3 (.ptr 1 0), sl 7 (I x7_3), sl 12 (qrgD21 good), sl 13 (I x13), sl 27 (LS intT e), sl 28 (I (e.length : Int)), sl 29 (I x29), sl 30 (B (decide (x29 < (e.length : Int))))], [.gone, .box [.pe (qrgD20 p) 2] 157 true]⟩ (by kernel_rfl) ?_
 refine WL.nil ?_
 refine En.seq ?_
 refine En.cond (b := (decide (x29 < (e.length : Int)))) (by kernel_rfl) (fun hb => ?_) (fun hb => ?_)
 replace h := h.1 hb
 refine En.skip ?_
 obtain ⟨J_2, h, hJ_2⟩ := h
 refine En.seqJ (σ := Int) (fun zz => J_2 zz) (fun zz => ⟨[sl 0 (I st), sl 1 (I a), sl 3 (.ptr 1 0), sl 7 (I zz), sl 12 (qrgD21 good), sl 13 (I x13), sl 27 (LS intT e), sl 28 (I (e.length : Int)), sl 29 (I x29)], [.gone, .box [.pe (qrgD20 p) 2] 157 true]⟩) ?_ ?_
 refine En.block ?_
 refine En.seq ?_
 refine En.region ?_
 obtain ⟨e_2, he_2, h⟩ := h
 refine WL.val hn (by rfl) (val_index (T := intT) (l := e) (i := x29) ht rfl (by rfl) (by rfl) (by rfl) (by rfl) (by rfl) (by rfl) he_2) (by rfl) ?_
 refine WL.val hn (by rfl) (val_load (s := .one (I e_2)) ht rfl (by rfl) (by rfl) (by rfl) (by rfl) (by rfl)) (by rfl) ?_
 refine WL.run ht hn 1 ⟨[sl 0 (I st), sl 1 (I a), sl 3 (.ptr 1 0), sl 7 (I x7_3), sl 10 (I e_2), sl 12 (qrgD21 good), sl 13 (I x13), sl 27 (LS intT e), sl 28 (I (e.length : Int)), sl 29 (I x29)], [.gone, .box [.pe (qrgD20 p) 2] 157 true]⟩ (by kernel_rfl) ?_
 refine WL.nil ?_
 refine En.seq ?_
 refine En.region ?_
 refine WL.run ht hn 2 ⟨[sl 0 (I st), sl 1 (I a), sl 3 (.ptr 1 0), sl 7 (I x7_3), sl 10 (I e_2), sl 12 (qrgD21 good), sl 13 (I x13), sl 27 (LS intT e), sl 28 (I (e.length : Int)), sl 29 (I x29), sl 34 (.pe (qrgD20 p) 2)], [.gone, .box [.pe (qrgD20 p) 2] 157 true]⟩ (by kernel_rfl) ?_
 refine WL.val hn (by rfl) (val_field (l := (RegularPlaces.cl p)) (r := .one (LS intT p.fLetters)) ht rfl (by rfl) (by rfl) (by rfl) (by rfl) (by rfl) (by rfl)) (by rfl) ?_
 refine WL.val hn (by rfl) (val_load (s := .one (LS intT p.fLetters)) ht rfl (by rfl) (by rfl) (by rfl) (by rfl) (by rfl)) (by rfl) ?_
 refine WL.run ht hn 1 ⟨[sl 0 (I st), sl 1 (I a), sl 3 (.ptr 1 0), sl 7 (I x7_3), sl 10 (I e_2), sl 12 (qrgD21 good), sl 13 (I x13), sl 27 (LS intT e), sl 28 (I (e.length : Int)), sl 29 (I x29), sl 36 (LS intT p.fLetters), sl 37 (I e_2)], [.gone, .box [.pe (qrgD20 p) 2] 157 true]⟩ (by kernel_rfl) ?_
 obtain ⟨e_3, he_3, h⟩ := h
 refine WL.val hn (by rfl) (val_index (T := intT) (l := p.fLetters) (i := e_2) ht rfl (by rfl) (by rfl) (by rfl) (by rfl) (by rfl) (by rfl) he_3) (by rfl) ?_
 refine WL.val hn (by rfl) (val_load (s := .one (I e_3)) ht rfl (by rfl) (by rfl) (by rfl) (by rfl) (by rfl)) (by rfl) ?_
 refine WL.run ht hn 2 ⟨[sl 0 (I st), sl 1 (I a), sl 3 (.ptr 1 0), sl 7 (I x7_3), sl 10 (I e_2), sl 12 (qrgD21 good), sl 13 (I x13), sl 27 (LS intT e), sl 28 (I (e.length : Int)), sl 29 (I x29), sl 41 (B (e_3 == a))], [.gone, .box [.pe (qrgD20 p) 2] 157 true]⟩ (by kernel_rfl) ?_
 refine WL.nil ?_
 refine En.cond (b := (e_3 == a)) (by kernel_rfl) (fun hb => ?_) (fun hb => ?_)
 replace h := h.1 hb
 refine En.region ?_
 refine WL.run ht hn 2 ⟨[sl 0 (I st), sl 1 (I a), sl 3 (.ptr 1 0), sl 12 (qrgD21 good), sl 13 (I x13), sl 27 (LS intT e), sl 28 (I (e.length : Int)), sl 29 (I x29), sl 42 (I x7_3), sl 43 (I e_2)], [.gone, .box [.pe (qrgD20 p) 2] 157 true]⟩ (by kernel_rfl) ?_
 have hz_2 := h.1
 replace h := h.2
 refine WL.val hn (by rfl) (val_shift (u := 1) (v := e_2) rfl (by rfl) (by rfl) hz_2 (.inl ⟨rfl, rfl⟩)) (by rfl) ?_
 refine WL.run ht hn 2 ⟨[sl 0 (I st), sl 1 (I a), sl 3 (.ptr 1 0), sl 7 (I (bitsI .or .i64 x7_3 (wr (1 * (2 ^ (min (e_2).toNat 64)))))), sl 12 (qrgD21 good), sl 13 (I x13), sl 27 (LS intT e), sl 28 (I (e.length : Int)), sl 29 (I x29)], [.gone, .box [.pe (qrgD20 p) 2] 157 true]⟩ (by kernel_rfl) ?_
 refine WL.nil ?_
 exact En.at (I := fun zz => J_2 zz) (T := fun zz => ⟨[sl 0 (I st), sl 1 (I a), sl 3 (.ptr 1 0), sl 7 (I zz), sl 12 (qrgD21 good), sl 13 (I x13), sl 27 (LS intT e), sl 28 (I (e.length : Int)), sl 29 (I x29)], [.gone, .box [.pe (qrgD20 p) 2] 157 true]⟩) (bitsI .or .i64 x7_3 (wr (1 * (2 ^ (min (e_2).toNat 64))))) h (by kernel_rfl)
 replace h := h.2 hb
 refine En.skip ?_
 exact En.at (I := fun zz => J_2 zz) (T := fun zz => ⟨[sl 0 (I st), sl 1 (I a), sl 3 (.ptr 1 0), sl 7 (I zz), sl 12 (qrgD21 good), sl 13 (I x13), sl 27 (LS intT e), sl 28 (I (e.length : Int)), sl 29 (I x29)], [.gone, .box [.pe (qrgD20 p) 2] 157 true]⟩) x7_3 h (by kernel_rfl)
 intro x7_4 h
 replace h := hJ_2 _ h
 show En c ⟨[sl 0 (I st), sl 1 (I a), sl 3 (.ptr 1 0), sl 7 (I x7_4), sl 12 (qrgD21 good), sl 13 (I x13), sl 27 (LS intT e), sl 28 (I (e.length : Int)), sl 29 (I x29)], [.gone, .box [.pe (qrgD20 p) 2] 157 true]⟩ _
 refine En.region ?_
 refine WL.run ht hn 2 ⟨[sl 0 (I st), sl 1 (I a), sl 3 (.ptr 1 0), sl 7 (I x7_4), sl 12 (qrgD21 good), sl 13 (I x13), sl 27 (LS intT e), sl 28 (I (e.length : Int)), sl 29 (I (wr (x29 + 1)))], [.gone, .box [.pe (qrgD20 p) 2] 157 true]⟩ (by kernel_rfl) ?_
 refine WL.nil ?_
 exact En.at (I := fun zz => Inv_2 zz.1 zz.2 ∧ mu_2 zz.1 zz.2 < mu_2 x7_3 x29) (T := fun zz => ⟨[sl 0 (I st), sl 1 (I a), sl 3 (.ptr 1 0), sl 7 (I zz.1), sl 12 (qrgD21 good), sl 13 (I x13), sl 27 (LS intT e), sl 28 (I (e.length : Int)), sl 29 (I zz.2)], [.gone, .box [.pe (qrgD20 p) 2] 157 true]⟩) (x7_4, (wr (x29 + 1))) h (by kernel_rfl)
 replace h := h.2 hb
 refine En.exit rfl ?_
 exact En.at (I := fun zz => J zz) (T := fun zz => ⟨[sl 0 (I st), sl 1 (I a), sl 3 (.ptr 1 0), sl 7 (I zz), sl 12 (qrgD21 good), sl 13 (I x13)], [.gone, .box [.pe (qrgD20 p) 2] 157 true]⟩) x7_3 h (by kernel_rfl)
 intro x7_2 h
 replace h := hJ _ h
 show En c ⟨[sl 0 (I st), sl 1 (I a), sl 3 (.ptr 1 0), sl 7 (I x7_2), sl 12 (qrgD21 good), sl 13 (I x13)], [.gone, .box [.pe (qrgD20 p) 2] 157 true]⟩ _
 refine En.region ?_
 refine WL.run ht hn 2 ⟨[sl 0 (I st), sl 1 (I a), sl 3 (.ptr 1 0), sl 7 (I x7_2), sl 12 (qrgD21 good), sl 13 (I (wr (x13 + 1)))], [.gone, .box [.pe (qrgD20 p) 2] 157 true]⟩ (by kernel_rfl) ?_
 refine WL.nil ?_
 exact En.at (I := fun zz => Inv zz.1 zz.2 ∧ mu zz.1 zz.2 < mu x7 x13) (T := fun zz => ⟨[sl 0 (I st), sl 1 (I a), sl 3 (.ptr 1 0), sl 7 (I zz.1), sl 12 (qrgD21 good), sl 13 (I zz.2)], [.gone, .box [.pe (qrgD20 p) 2] 157 true]⟩) (x7_2, (wr (x13 + 1))) h (by kernel_rfl)
 replace h := h.2 hb
 refine En.exit rfl ?_
 refine En.seq ?_
 refine En.region ?_
 refine WL.run ht hn 2 ⟨[sl 6 (I x7)], [.gone, .gone]⟩ (by kernel_rfl) ?_
 refine WL.nil ?_
 refine En.ret ?_
 exact En.back ht x7 h (by kernel_rfl) rfl
theorem en75 : ∀ args w, (callFunc 75 args).run Try.prog w = .ok (.enter 75 args) w := enters_of Try.func75 (by kernel_rfl) rfl
def rgD3_vc (st : Int) (last : Int) (Q : Int → Prop) : Prop :=
 IfP ((bitsI .and .i64 st last) != 0) (Q 1) (Q 0)
theorem rgD3_walk (st : Int) (last : Int) (Q : Int → Prop) (h : rgD3_vc st last Q) : Ct 76 [.sv (.one (I st)), .sv (.one (.ptr 0 0))] [.box [I last] 3 true] Q (fun (r : Int) => .sv (.one (I r))) := by
 have ht := tab_ok
 refine Ct.body Try.func76 rfl rfl rfl rfl (fun c hn => ?_)
 unfold rgD3_vc at h
 refine En.seq ?_
 refine En.region ?_
 refine WL.run ht hn 1 ⟨[sl 0 (I st), sl 1 (.ptr 0 0)], [.box [I last] 3 true]⟩ (by kernel_rfl) ?_
 refine WL.nil ?_
 refine En.seq ?_
 refine En.seq ?_
 refine En.region ?_
 refine WL.run ht hn 4 ⟨[sl 7 (B ((bitsI .and .i64 st last) != 0))], [.gone]⟩ (by kernel_rfl) ?_
 refine WL.nil ?_
 refine En.cond (b := ((bitsI .and .i64 st last) != 0)) (by kernel_rfl) (fun hb => ?_) (fun hb => ?_)
 replace h := h.1 hb
 refine En.seq ?_
 refine En.region ?_
 refine WL.run ht hn 1 ⟨[sl 3 (I 1)], [.gone]⟩ (by kernel_rfl) ?_
 refine WL.nil ?_
 refine En.ret ?_
 exact En.back ht 1 h (by kernel_rfl) rfl
 replace h := h.2 hb
 refine En.skip ?_
 refine En.seq ?_
 refine En.region ?_
 refine WL.run ht hn 1 ⟨[sl 3 (I 0)], [.gone]⟩ (by kernel_rfl) ?_
 refine WL.nil ?_
 refine En.ret ?_
 exact En.back ht 0 h (by kernel_rfl) rfl
theorem en76 : ∀ args w, (callFunc 76 args).run Try.prog w = .ok (.enter 76 args) w := enters_of Try.func76 (by kernel_rfl) rfl
def d1R (m ch : Int) : Bool := (decide (ch ≥ (IntKind.wrap .i32 (97 + (IntKind.wrap .i32 m))))) && (decide (ch ≤ 100))
def gone1 (p : RegularPlaces) (a : Int) : List Int → Int → Option Int
 | [], tt => some tt
 | n :: l, tt => match idx p.fLetters n with
  | none => none
  | some b => if (b == a) = true then gone1 p a l (bitsI .or .i64 tt (wr (1 * (2 ^ (min n.toNat 64))))) else gone1 p a l tt
def gone2 (p : RegularPlaces) (st a : Int) : Nat → Nat → Int → Option Int
 | 0, _, tt => some tt
 | m + 1, x, tt => if ((bitsI .and .i64 (Int.fdiv st (2 ^ (min ((x : Int)).toNat 64))) 1) == 0) = true then gone2 p st a m (x + 1) tt
  else match idx p.fNext (x : Int) with
   | none => none
   | some e => if 4611686018427387904 < e.length then none else match gone1 p a e tt with
    | none => none
    | some t => gone2 p st a m (x + 1) t
def goS (good : List Bool) (p : RegularPlaces) (st a : Int) : Option Int := if 1048576 < good.length then none else gone2 p st a good.length 0 0
def goR (good : List Bool) (p : RegularPlaces) (st a : Int) : Int := (goS good p st a).getD 0
def goDom (good : List Bool) (p : RegularPlaces) (st a : Int) : Prop := (goS good p st a).isSome
def mkR (last st : Int) : Int := if ((bitsI .and .i64 st last) != 0) = true then 1 else 0
theorem rgD1_ct (ch : Int) (m : Int)  : Ct 72 [.sv (.one (.v (.int .i32 ch))), .sv (.one (.ptr 0 0))] [.box [I m] 3 true] (fun (_ : Unit) => True) (fun _ => .sv (.one (B (d1R m ch)))) := by
 refine (rgD1_walk ch m (fun res_ => res_ = (d1R m ch)) ?_).fun
 rfl
theorem rgD2_ct (st : Int) (a : Int) (good : (List Bool)) (p : RegularPlaces) (hd : goDom good p st a)  : Ct 75 [.sv (.one (I st)), .sv (.one (I a)), .sv (.one (.ptr 0 0)), .sv (.one (.ptr 1 0))] [.box [LS boolT good] 56 true, .box [.pe (svR (.agg [LS intT p.fLetters, LS (lsT intT) p.fNext])) 2] 157 true] (fun (_ : Unit) => True) (fun _ => .sv (.one (I (goR good p st a)))) := by
 refine (rgD2_walk st a good p (fun res_ => res_ = (goR good p st a)) ?_).fun
 obtain ⟨R, hR⟩ := Option.isSome_iff_exists.1 hd
 have hz : goR good p st a = R := by
  unfold goR
  rw [hR]
  rfl
 rw [hz]
 unfold goS at hR
 split at hR
 ·cases hR
 rename_i hlen
 unfold rgD2_vc
 refine ⟨fun tt x => ∃ n : Nat, x = n ∧ n ≤ good.length ∧ gone2 p st a (good.length - n) n tt = some R, fun _ x => good.length - x.toNat, ⟨0, rfl, Nat.zero_le _, hR⟩, ?_⟩
 rintro tt _ ⟨n, rfl, hn, he⟩
 refine ⟨fun hb => ?_, fun hb => ?_⟩
 ·have hlt : n < good.length := by have := of_decide_eq_true hb; exact Int.ofNat_lt.1 this
  obtain ⟨m, hm⟩ : ∃ m, good.length - n = m + 1 := ⟨good.length - n - 1, by omega⟩
  have hm2 : good.length - (n + 1) = m := by omega
  rw [hm, gone2] at he
  refine ⟨fun t => gone2 p st a m (n + 1) t = some R, ⟨Int.natCast_nonneg n, fun hb2 => ?_, fun hb2 => ?_⟩, fun t ht => ⟨⟨n + 1, wr_len (n := good.length) (by omega) hlt, hlt, by rw [hm2]; exact ht⟩, ?_⟩⟩
  ·rw [if_pos hb2] at he
   exact he
  ·rw [if_neg (by rw [hb2]; decide)] at he
   split at he
   ·cases he
   rename_i e hx
   split at he
   ·cases he
   rename_i hel
   split at he
   ·cases he
   rename_i t ht
   refine ⟨e, hx, fun to2 x => ∃ i : Nat, x = i ∧ i ≤ e.length ∧ gone1 p a (e.drop i) to2 = some t, fun _ x => e.length - x.toNat, ⟨0, rfl, Nat.zero_le _, ht⟩, ?_⟩
   rintro to2 _ ⟨i, rfl, hi, hg⟩
   refine ⟨fun hb3 => ?_, fun hb3 => ?_⟩
   ·have hlt2 : i < e.length := by have := of_decide_eq_true hb3; exact Int.ofNat_lt.1 this
    rw [List.drop_eq_getElem_cons hlt2, gone1] at hg
    split at hg
    ·cases hg
    rename_i b hbx
    refine ⟨fun t2 => gone1 p a (e.drop (i + 1)) t2 = some t, ⟨e[i], by simp [idx, hlt2], b, hbx, fun hb4 => ⟨(idx_some hbx).1, ?_⟩, fun hb4 => ?_⟩, fun t2 h2 => ⟨⟨i + 1, wr_len (n := e.length) (by omega) hlt2, hlt2, h2⟩, ?_⟩⟩
    ·rw [if_pos hb4] at hg
     exact hg
    ·rw [if_neg (by rw [hb4]; decide)] at hg
     exact hg
    ·rw [wr_len (n := e.length) (by omega) hlt2]
     show e.length - (i + 1) < e.length - i
     omega
   ·have hge : e.length ≤ i := by have := of_decide_eq_false hb3; exact Nat.le_of_not_lt fun h => this (Int.ofNat_lt.2 h)
    rw [List.drop_eq_nil_of_le hge, gone1] at hg
    cases hg
    exact he
  ·rw [wr_len (n := good.length) (by omega) hlt]
   show good.length - (n + 1) < good.length - n
   omega
 ·have hge : good.length - n = 0 := by have := of_decide_eq_false hb; have : ¬ n < good.length := fun h => this (Int.ofNat_lt.2 h); omega
  rw [hge, gone2] at he
  cases he
  rfl
theorem rgD3_ct (st : Int) (last : Int)  : Ct 76 [.sv (.one (I st)), .sv (.one (.ptr 0 0))] [.box [I last] 3 true] (fun (_ : Unit) => True) (fun _ => .sv (.one (I (mkR last st)))) := by
 refine (rgD3_walk st last (fun res_ => res_ = (mkR last st)) ?_).fun
 unfold rgD3_vc mkR
 exact ⟨fun hb => by rw [if_pos hb], fun hb => by rw [if_neg (by rw [hb]; decide)]⟩
def rDet_vc (fu : Nat) (letters : Int) (text : ByteArray) (Q : (ApiDet × Int) → Prop) : Prop :=
 ∀ r : (Option RTr × ApiFault), (ParsedQ text) r →
 (IfP (r.2.fCode != 0) (Q ((ApiDet.mk 0 0 [] []), 4)) (∃ J : Bool → Prop, (IfP (decide (letters < 1)) (J true) (IfP (decide (letters > 4)) (J true) ((∀ x_ : Int, (fun _ => True) x_) ∧
 J (decide (0 ≤ strIdx (fun (x : Int) => d1R letters x) true text ((text).size + 1) 0))))) ∧
 (∀ (x34 : Bool), J x34 → IfP x34 (Q ((ApiDet.mk 0 0 [] []), 2)) (∃ t, r.1 = some t ∧
 ((machS fu t).isSome) ∧
 IfP (decide (((machR fu t).1.fLetters.length : Int) > 10)) (Q ((ApiDet.mk 0 0 [] []), 7)) (∃ (Inv : Int → Int → Prop) (mu : Int → Int → Nat), Inv 0 0 ∧
 ∀ (x50 : Int) (y5 : Int) , Inv x50 y5 → (IfP (decide (x50 < ((machR fu t).2.length : Int))) (∃ J_2 : Int → Prop, (∃ e, idx (machR fu t).2 x50 = some e ∧
 IfP e ((0 ≤ x50) ∧
 J_2 (bitsI .or .i64 y5 (wr (1 * (2 ^ (min (x50).toNat 64)))))) (J_2 y5)) ∧
 (∀ (y5_2 : Int), J_2 y5_2 → (Inv (wr (x50 + 1)) y5_2 ∧ mu (wr (x50 + 1)) y5_2 < mu x50 y5))) ((0 ≤ ((machR fu t).1.fLetters.length : Int)) ∧
 (ExplPre letters (wr (1 * (2 ^ (min (((machR fu t).1.fLetters.length : Int)).toNat 64)))) (fun (x : Int × Int) => goDom (machR fu t).2 (machR fu t).1 x.1 x.2) (fun (x : Int × Int) => goR (machR fu t).2 (machR fu t).1 x.1 x.2) (fun _ => True) 3000) ∧
 (ClsOk (explR (fun k (a : Nat) => (fun (x : Int × Int) => goR (machR fu t).2 (machR fu t).1 x.1 x.2) (k, (a : Int))) (fun (x : Int) => mkR y5 x) (letters).toNat (wr (1 * (2 ^ (min (((machR fu t).1.fLetters.length : Int)).toNat 64)))) 3000).1) ∧
 Q ((canon ((explR (fun k (a : Nat) => (fun (x : Int × Int) => goR (machR fu t).2 (machR fu t).1 x.1 x.2) (k, (a : Int))) (fun (x : Int) => mkR y5 x) (letters).toNat (wr (1 * (2 ^ (min (((machR fu t).1.fLetters.length : Int)).toNat 64)))) 3000).1).fLetters.toNat (langD (explR (fun k (a : Nat) => (fun (x : Int × Int) => goR (machR fu t).2 (machR fu t).1 x.1 x.2) (k, (a : Int))) (fun (x : Int) => mkR y5 x) (letters).toNat (wr (1 * (2 ^ (min (((machR fu t).1.fLetters.length : Int)).toNat 64)))) 3000).1 ((explR (fun k (a : Nat) => (fun (x : Int × Int) => goR (machR fu t).2 (machR fu t).1 x.1 x.2) (k, (a : Int))) (fun (x : Int) => mkR y5 x) (letters).toNat (wr (1 * (2 ^ (min (((machR fu t).1.fLetters.length : Int)).toNat 64)))) 3000).1).fStart.toNat)), 0))))))))
theorem rDet_walk (fu : Nat) (letters : Int) (text : ByteArray) (Q : (ApiDet × Int) → Prop) (h : rDet_vc fu letters text Q) : Ct 27 [.sv (.one (I letters)), .sv (.one (.v (.string text)))] [] Q (fun (r : (ApiDet × Int)) => .tup [.agg [I r.1.fLetters, I r.1.fStart, LS (lsT intT) r.1.fNext, LS intT r.1.fMark], .one (I r.2)]) := by
 have ht := tab_ok
 refine Ct.body Try.func27 rfl rfl rfl rfl (fun c hn => ?_)
 unfold rDet_vc at h
 refine En.seq ?_
 refine En.region ?_
 refine WL.run ht hn 3 ⟨[sl 1 (.v (.string text)), sl 2 (.ptr 0 0), sl 4 (.ptr 1 0)], [.box [I letters] 3 false, .box [I 0, I 0, .v (.slice none 0 0), .v (.slice none 0 0)] 73 false]⟩ (by kernel_rfl) ?_
 refine WL.nil ?_
 refine En.seq ?_
 refine En.region ?_
 refine WL.run ht hn 1 ⟨[sl 1 (.v (.string text)), sl 2 (.ptr 0 0), sl 4 (.ptr 1 0), sl 16 (.v (.string text))], [.box [I letters] 3 false, .box [I 0, I 0, .v (.slice none 0 0), .v (.slice none 0 0)] 73 false]⟩ (by kernel_rfl) ?_
 refine WL.mtQ (Q := ParsedQ text) (x := fun (r : (Option RTr × ApiFault)) => .tup [.one (.rd (optR rLab r.1)), .agg (ApiFault.cl r.2)]) (p := fun _ => none) hn (by rfl) (mtq_call (rParsed_ct text) en70 (caps := []) [] rfl (by rfl) (by kernel_rfl) (by kernel_rfl) (by rfl) (fun _ => rfl) (by rfl)) (fun r hr_2 => ⟨by rfl, _, by rfl, ?_⟩)
 replace h := h r hr_2
 refine WL.run ht hn 6 ⟨[sl 1 (.v (.string text)), sl 2 (.ptr 0 0), sl 4 (.ptr 1 0), sl 6 (.rd (optR rLab r.1)), sl 7 (.ptr 2 0)], [.box [I letters] 3 false, .box [I 0, I 0, .v (.slice none 0 0), .v (.slice none 0 0)] 73 false, .box (ApiFault.cl r.2) 63 false]⟩ (by kernel_rfl) ?_
 refine WL.nil ?_
 refine En.seq ?_
 refine En.seq ?_
 refine En.region ?_
 refine WL.run ht hn 3 ⟨[sl 1 (.v (.string text)), sl 2 (.ptr 0 0), sl 4 (.ptr 1 0), sl 6 (.rd (optR rLab r.1)), sl 22 (B (r.2.fCode != 0))], [.box [I letters] 3 false, .box [I 0, I 0, .v (.slice none 0 0), .v (.slice none 0 0)] 73 false, .gone]⟩ (by kernel_rfl) ?_
 refine WL.nil ?_
 refine En.cond (b := (r.2.fCode != 0)) (by kernel_rfl) (fun hb => ?_) (fun hb => ?_)
 replace h := h.1 hb
 refine En.seq ?_
 refine En.region ?_
 refine WL.run ht hn 3 ⟨[sl 4 (.ptr 1 0), sl 5 (I 4)], [.gone, .box [I 0, I 0, .v (.slice none 0 0), .v (.slice none 0 0)] 73 false, .gone]⟩ (by kernel_rfl) ?_
 refine WL.nil ?_
 refine En.ret ?_
 refine En.nilBox (T := (lsT intT)) 1 2 (by rfl) (by rfl) ?_
 refine En.nilBox (T := intT) 1 3 (by rfl) (by rfl) ?_
 exact En.back ht ((ApiDet.mk 0 0 [] []), 4) h (by kernel_rfl) rfl
 replace h := h.2 hb
 refine En.skip ?_
 refine En.seq ?_
 obtain ⟨J, h, hJ⟩ := h
 refine En.seqJ (σ := Bool) (fun zz => J zz) (fun zz => ⟨[sl 2 (.ptr 0 0), sl 4 (.ptr 1 0), sl 6 (.rd (optR rLab r.1)), sl 34 (B zz)], [.box [I letters] 3 false, .box [I 0, I 0, .v (.slice none 0 0), .v (.slice none 0 0)] 73 false, .gone]⟩) ?_ ?_
 refine En.region ?_
 refine WL.run ht hn 3 ⟨[sl 1 (.v (.string text)), sl 2 (.ptr 0 0), sl 4 (.ptr 1 0), sl 6 (.rd (optR rLab r.1)), sl 26 (B (decide (letters < 1)))], [.box [I letters] 3 false, .box [I 0, I 0, .v (.slice none 0 0), .v (.slice none 0 0)] 73 false, .gone]⟩ (by kernel_rfl) ?_
 refine splitB (decide (letters < 1)) (fun hb => ?_) (fun hb => ?_)
 replace h := h.1 hb
 refine WL.setB 26 hb (by kernel_rfl) ?_
 refine WL.run ht hn 8 ⟨[sl 2 (.ptr 0 0), sl 4 (.ptr 1 0), sl 6 (.rd (optR rLab r.1)), sl 34 (B true)], [.box [I letters] 3 false, .box [I 0, I 0, .v (.slice none 0 0), .v (.slice none 0 0)] 73 false, .gone]⟩ (by kernel_rfl) ?_
 refine WL.nil ?_
 exact En.at (I := fun zz => J zz) (T := fun zz => ⟨[sl 2 (.ptr 0 0), sl 4 (.ptr 1 0), sl 6 (.rd (optR rLab r.1)), sl 34 (B zz)], [.box [I letters] 3 false, .box [I 0, I 0, .v (.slice none 0 0), .v (.slice none 0 0)] 73 false, .gone]⟩) true h (by kernel_rfl)
 replace h := h.2 hb
 refine WL.setB 26 hb (by kernel_rfl) ?_
 refine WL.run ht hn 4 ⟨[sl 1 (.v (.string text)), sl 2 (.ptr 0 0), sl 4 (.ptr 1 0), sl 6 (.rd (optR rLab r.1)), sl 30 (B (decide (letters > 4)))], [.box [I letters] 3 false, .box [I 0, I 0, .v (.slice none 0 0), .v (.slice none 0 0)] 73 false, .gone]⟩ (by kernel_rfl) ?_
 refine splitB (decide (letters > 4)) (fun hb => ?_) (fun hb => ?_)
 replace h := h.1 hb
 refine WL.setB 30 hb (by kernel_rfl) ?_
 refine WL.run ht hn 4 ⟨[sl 2 (.ptr 0 0), sl 4 (.ptr 1 0), sl 6 (.rd (optR rLab r.1)), sl 34 (B true)], [.box [I letters] 3 false, .box [I 0, I 0, .v (.slice none 0 0), .v (.slice none 0 0)] 73 false, .gone]⟩ (by kernel_rfl) ?_
 refine WL.nil ?_
 exact En.at (I := fun zz => J zz) (T := fun zz => ⟨[sl 2 (.ptr 0 0), sl 4 (.ptr 1 0), sl 6 (.rd (optR rLab r.1)), sl 34 (B zz)], [.box [I letters] 3 false, .box [I 0, I 0, .v (.slice none 0 0), .v (.slice none 0 0)] 73 false, .gone]⟩) true h (by kernel_rfl)
 replace h := h.2 hb
 refine WL.setB 30 hb (by kernel_rfl) ?_
 refine WL.run ht hn 2 ⟨[sl 2 (.ptr 0 0), sl 4 (.ptr 1 0), sl 6 (.rd (optR rLab r.1)), sl 30 (B false), sl 31 (.v (.string text)), sl 32 (.fn 72 [0])], [.box [I letters] 3 false, .box [I 0, I 0, .v (.slice none 0 0), .v (.slice none 0 0)] 73 false, .gone]⟩ (by kernel_rfl) ?_
 have hp := h.1
 replace h := h.2
 refine WL.mt0 (K := []) (p := none) hn (by rfl) (mt_lendF [0] (by rfl) (by rfl) (mt_ghost 32 (o1 (.rd (fvR (fun (x_ : Int) => [.sv (.one (.v (.int .i32 x_)))]) (fun (r : Bool) => .sv (.one (B r))) (fun _ => True) (fun (x : Int) => d1R letters x)))) (by rfl) (fv_of (M := [.box [I letters] 3 true]) (caps := [0]) (fun x_ _ => rgD1_ct x_ letters) en72 rfl (by kernel_rfl) (by rfl) (fun _ => rfl)) (mt_call (sHas_ct text (fun _ => True) (fun (x : Int) => d1R letters x) hp) en71 (caps := []) [] rfl (by rfl) (by kernel_rfl) (by kernel_rfl) (by rfl) (by rfl) (by rfl)))) (by rfl) (by rfl) (by rfl) ?_
 refine WL.run ht hn 1 ⟨[sl 2 (.ptr 0 0), sl 4 (.ptr 1 0), sl 6 (.rd (optR rLab r.1)), sl 34 (B (decide (0 ≤ strIdx (fun (x : Int) => d1R letters x) true text ((text).size + 1) 0)))], [.box [I letters] 3 false, .box [I 0, I 0, .v (.slice none 0 0), .v (.slice none 0 0)] 73 false, .gone]⟩ (by kernel_rfl) ?_
 refine WL.nil ?_
 exact En.at (I := fun zz => J zz) (T := fun zz => ⟨[sl 2 (.ptr 0 0), sl 4 (.ptr 1 0), sl 6 (.rd (optR rLab r.1)), sl 34 (B zz)], [.box [I letters] 3 false, .box [I 0, I 0, .v (.slice none 0 0), .v (.slice none 0 0)] 73 false, .gone]⟩) (decide (0 ≤ strIdx (fun (x : Int) => d1R letters x) true text ((text).size + 1) 0)) h (by kernel_rfl)
 intro x34 h
 replace h := hJ _ h
 show En c ⟨[sl 2 (.ptr 0 0), sl 4 (.ptr 1 0), sl 6 (.rd (optR rLab r.1)), sl 34 (B x34)], [.box [I letters] 3 false, .box [I 0, I 0, .v (.slice none 0 0), .v (.slice none 0 0)] 73 false, .gone]⟩ _
 refine En.cond (b := x34) (by kernel_rfl) (fun hb => ?_) (fun hb => ?_)
 replace h := h.1 hb
 refine En.seq ?_
 refine En.region ?_
 refine WL.run ht hn 3 ⟨[sl 4 (.ptr 1 0), sl 5 (I 2)], [.gone, .box [I 0, I 0, .v (.slice none 0 0), .v (.slice none 0 0)] 73 false, .gone]⟩ (by kernel_rfl) ?_
 refine WL.nil ?_
 refine En.ret ?_
 refine En.nilBox (T := (lsT intT)) 1 2 (by rfl) (by rfl) ?_
 refine En.nilBox (T := intT) 1 3 (by rfl) (by rfl) ?_
 exact En.back ht ((ApiDet.mk 0 0 [] []), 2) h (by kernel_rfl) rfl
 replace h := h.2 hb
 refine En.skip ?_
 refine En.seq ?_
 refine En.region ?_
 refine WL.run ht hn 1 ⟨[sl 2 (.ptr 0 0), sl 4 (.ptr 1 0), sl 37 (.rd (optR rLab r.1))], [.box [I letters] 3 false, .box [I 0, I 0, .v (.slice none 0 0), .v (.slice none 0 0)] 73 false, .gone]⟩ (by kernel_rfl) ?_
 obtain ⟨t, ht_2, h⟩ := h
 refine WL.ghost 37 (o1 (.rd (trR rLab t))) (by rfl) (some_of ht_2) ?_
 have hp := h.1
 replace h := h.2
 refine WL.mt0 (K := []) (p := none) hn (by rfl) (mt_call (rMach_ct fu t hp) en73 (caps := []) [] rfl (by rfl) (by kernel_rfl) (by kernel_rfl) (by rfl) (by rfl) (by rfl)) (by rfl) (by rfl) (by rfl) ?_
 refine WL.run ht hn 7 ⟨[sl 2 (.ptr 0 0), sl 4 (.ptr 1 0), sl 8 (.ptr 3 0), sl 9 (.ptr 4 0)], [.box [I letters] 3 false, .box [I 0, I 0, .v (.slice none 0 0), .v (.slice none 0 0)] 73 false, .gone, .box [.pe (svR (.agg (RegularPlaces.cl (machR fu t).1))) 2] 157 false, .box [LS boolT (machR fu t).2] 56 false]⟩ (by kernel_rfl) ?_
 refine WL.nil ?_
 refine En.seq ?_
 refine En.seq ?_
 refine En.region ?_
 refine WL.run ht hn 2 ⟨[sl 2 (.ptr 0 0), sl 4 (.ptr 1 0), sl 8 (.ptr 3 0), sl 9 (.ptr 4 0), sl 42 (.pe (svR (.agg (RegularPlaces.cl (machR fu t).1))) 2)], [.box [I letters] 3 false, .box [I 0, I 0, .v (.slice none 0 0), .v (.slice none 0 0)] 73 false, .gone, .box [.pe (svR (.agg (RegularPlaces.cl (machR fu t).1))) 2] 157 false, .box [LS boolT (machR fu t).2] 56 false]⟩ (by kernel_rfl) ?_
 refine WL.val hn (by rfl) (val_field (l := (RegularPlaces.cl (machR fu t).1)) (r := .one (LS intT (machR fu t).1.fLetters)) ht rfl (by rfl) (by rfl) (by rfl) (by rfl) (by rfl) (by rfl)) (by rfl) ?_
 refine WL.val hn (by rfl) (val_load (s := .one (LS intT (machR fu t).1.fLetters)) ht rfl (by rfl) (by rfl) (by rfl) (by rfl) (by rfl)) (by rfl) ?_
 refine WL.run ht hn 2 ⟨[sl 2 (.ptr 0 0), sl 4 (.ptr 1 0), sl 8 (.ptr 3 0), sl 9 (.ptr 4 0), sl 46 (B (decide (((machR fu t).1.fLetters.length : Int) > 10)))], [.box [I letters] 3 false, .box [I 0, I 0, .v (.slice none 0 0), .v (.slice none 0 0)] 73 false, .gone, .box [.pe (svR (.agg (RegularPlaces.cl (machR fu t).1))) 2] 157 false, .box [LS boolT (machR fu t).2] 56 false]⟩ (by kernel_rfl) ?_
 refine WL.nil ?_
 refine En.cond (b := (decide (((machR fu t).1.fLetters.length : Int) > 10))) (by kernel_rfl) (fun hb => ?_) (fun hb => ?_)
 replace h := h.1 hb
 refine En.seq ?_
 refine En.region ?_
 refine WL.run ht hn 3 ⟨[sl 4 (.ptr 1 0), sl 5 (I 7)], [.gone, .box [I 0, I 0, .v (.slice none 0 0), .v (.slice none 0 0)] 73 false, .gone, .gone, .gone]⟩ (by kernel_rfl) ?_
 refine WL.nil ?_
 refine En.ret ?_
 refine En.nilBox (T := (lsT intT)) 1 2 (by rfl) (by rfl) ?_
 refine En.nilBox (T := intT) 1 3 (by rfl) (by rfl) ?_
 exact En.back ht ((ApiDet.mk 0 0 [] []), 7) h (by kernel_rfl) rfl
 replace h := h.2 hb
 refine En.skip ?_
 refine En.seq ?_
 refine En.region ?_
 refine WL.run ht hn 2 ⟨[sl 2 (.ptr 0 0), sl 4 (.ptr 1 0), sl 8 (.ptr 3 0), sl 9 (.ptr 4 0), sl 10 (.ptr 5 0)], [.box [I letters] 3 false, .box [I 0, I 0, .v (.slice none 0 0), .v (.slice none 0 0)] 73 false, .gone, .box [.pe (svR (.agg (RegularPlaces.cl (machR fu t).1))) 2] 157 false, .box [LS boolT (machR fu t).2] 56 false, .box [I 0] 3 false]⟩ (by kernel_rfl) ?_
 refine WL.nil ?_
 refine En.seq ?_
 refine En.seq ?_
 refine En.region ?_
 refine WL.run ht hn 3 ⟨[sl 2 (.ptr 0 0), sl 4 (.ptr 1 0), sl 8 (.ptr 3 0), sl 9 (.ptr 4 0), sl 10 (.ptr 5 0), sl 48 (LS boolT (machR fu t).2), sl 49 (I ((machR fu t).2.length : Int)), sl 50 (I 0)], [.box [I letters] 3 false, .box [I 0, I 0, .v (.slice none 0 0), .v (.slice none 0 0)] 73 false, .gone, .box [.pe (svR (.agg (RegularPlaces.cl (machR fu t).1))) 2] 157 false, .box [LS boolT (machR fu t).2] 56 false, .box [I 0] 3 false]⟩ (by kernel_rfl) ?_
 refine WL.nil ?_
 refine En.block ?_
 obtain ⟨Inv, mu, h0, hI⟩ := h
 refine En.loop (σ := Int × Int) (fun zz => Inv zz.1 zz.2) (fun zz => mu zz.1 zz.2) (fun zz => ⟨[sl 2 (.ptr 0 0), sl 4 (.ptr 1 0), sl 8 (.ptr 3 0), sl 9 (.ptr 4 0), sl 10 (.ptr 5 0), sl 48 (LS boolT (machR fu t).2), sl 49 (I ((machR fu t).2.length : Int)), sl 50 (I zz.1)], [.box [I letters] 3 false, .box [I 0, I 0, .v (.slice none 0 0), .v (.slice none 0 0)] 73 false, .gone, .box [.pe (svR (.agg (RegularPlaces.cl (machR fu t).1))) 2] 157 false, .box [LS boolT (machR fu t).2] 56 false, .box [I zz.2] 3 false]⟩) (0, 0) h0 (sub_ok (by kernel_rfl)) ?_
 rintro ⟨x50, y5⟩ h
 replace h := hI _ _ h
 show En c ⟨[sl 2 (.ptr 0 0), sl 4 (.ptr 1 0), sl 8 (.ptr 3 0), sl 9 (.ptr 4 0), sl 10 (.ptr 5 0), sl 48 (LS boolT (machR fu t).2), sl 49 (I ((machR fu t).2.length : Int)), sl 50 (I x50)], [.box [I letters] 3 false, .box [I 0, I 0, .v (.slice none 0 0), .v (.slice none 0 0)] 73 false, .gone, .box [.pe (svR (.agg (RegularPlaces.cl (machR fu t).1))) 2] 157 false, .box [LS boolT (machR fu t).2] 56 false, .box [I y5] 3 false]⟩ _
 refine En.seq ?_
 refine En.region ?_
 refine WL.run ht hn 1 ⟨[sl 2 (.ptr 0 0), sl 4 (.ptr 1 0), sl 8 (.ptr 3 0), sl 9 (.ptr 4 0), sl 10 (.ptr 5 0), sl 48 (LS boolT (machR fu t).2), sl 49 (I ((machR fu t).2.length : Int)), sl 50 (I x50), sl 51 (B (decide (x50 < ((machR fu t).2.length : Int))))], [.box [I letters] 3 false, .box [I 0, I 0, .v (.slice none 0 0), .v (.slice none 0 0)] 73 false, .gone, .box [.pe (svR (.agg (RegularPlaces.cl (machR fu t).1))) 2] 157 false, .box [LS boolT (machR fu t).2] 56 false, .box [I y5] 3 false]⟩ (by kernel_rfl) ?_
 refine WL.nil ?_
 refine En.seq ?_
 refine En.cond (b := (decide (x50 < ((machR fu t).2.length : Int)))) (by kernel_rfl) (fun hb => ?_) (fun hb => ?_)
 replace h := h.1 hb
 refine En.skip ?_
 obtain ⟨J_2, h, hJ_2⟩ := h
 refine En.seqJ (σ := Int) (fun zz => J_2 zz) (fun zz => ⟨[sl 2 (.ptr 0 0), sl 4 (.ptr 1 0), sl 8 (.ptr 3 0), sl 9 (.ptr 4 0), sl 10 (.ptr 5 0), sl 48 (LS boolT (machR fu t).2), sl 49 (I ((machR fu t).2.length : Int)), sl 50 (I x50)], [.box [I letters] 3 false, .box [I 0, I 0, .v (.slice none 0 0), .v (.slice none 0 0)] 73 false, .gone, .box [.pe (svR (.agg (RegularPlaces.cl (machR fu t).1))) 2] 157 false, .box [LS boolT (machR fu t).2] 56 false, .box [I zz] 3 false]⟩) ?_ ?_
 refine En.block ?_
 refine En.seq ?_
 refine En.region ?_
 refine WL.run ht hn 1 ⟨[sl 2 (.ptr 0 0), sl 4 (.ptr 1 0), sl 8 (.ptr 3 0), sl 9 (.ptr 4 0), sl 10 (.ptr 5 0), sl 48 (LS boolT (machR fu t).2), sl 49 (I ((machR fu t).2.length : Int)), sl 50 (I x50), sl 52 (I x50)], [.box [I letters] 3 false, .box [I 0, I 0, .v (.slice none 0 0), .v (.slice none 0 0)] 73 false, .gone, .box [.pe (svR (.agg (RegularPlaces.cl (machR fu t).1))) 2] 157 false, .box [LS boolT (machR fu t).2] 56 false, .box [I y5] 3 false]⟩ (by kernel_rfl) ?_
 obtain ⟨e, he, h⟩ := h
 refine WL.val hn (by rfl) (val_index (T := boolT) (l := (machR fu t).2) (i := x50) ht rfl (by rfl) (by rfl) (by rfl) (by rfl) (by rfl) (by rfl) he) (by rfl) ?_
 refine WL.val hn (by rfl) (val_load (s := .one (B e)) ht rfl (by rfl) (by rfl) (by rfl) (by rfl) (by rfl)) (by rfl) ?_
 refine WL.run ht hn 2 ⟨[sl 2 (.ptr 0 0), sl 4 (.ptr 1 0), sl 8 (.ptr 3 0), sl 9 (.ptr 4 0), sl 10 (.ptr 5 0), sl 11 (I x50), sl 12 (B e), sl 48 (LS boolT (machR fu t).2), sl 49 (I ((machR fu t).2.length : Int)), sl 50 (I x50)], [.box [I letters] 3 false, .box [I 0, I 0, .v (.slice none 0 0), .v (.slice none 0 0)] 73 false, .gone, .box [.pe (svR (.agg (RegularPlaces.cl (machR fu t).1))) 2] 157 false, .box [LS boolT (machR fu t).2] 56 false, .box [I y5] 3 false]⟩ (by kernel_rfl) ?_
 refine WL.nil ?_
 refine En.seq ?_
 refine En.region ?_
 refine WL.run ht hn 1 ⟨[sl 2 (.ptr 0 0), sl 4 (.ptr 1 0), sl 8 (.ptr 3 0), sl 9 (.ptr 4 0), sl 10 (.ptr 5 0), sl 11 (I x50), sl 48 (LS boolT (machR fu t).2), sl 49 (I ((machR fu t).2.length : Int)), sl 50 (I x50), sl 55 (B e)], [.box [I letters] 3 false, .box [I 0, I 0, .v (.slice none 0 0), .v (.slice none 0 0)] 73 false, .gone, .box [.pe (svR (.agg (RegularPlaces.cl (machR fu t).1))) 2] 157 false, .box [LS boolT (machR fu t).2] 56 false, .box [I y5] 3 false]⟩ (by kernel_rfl) ?_
 refine WL.nil ?_
 refine En.cond (b := e) (by kernel_rfl) (fun hb => ?_) (fun hb => ?_)
 replace h := h.1 hb
 have hz := h.1
 replace h := h.2
 refine En.regionA ⟨[sl 2 (.ptr 0 0), sl 4 (.ptr 1 0), sl 8 (.ptr 3 0), sl 9 (.ptr 4 0), sl 10 (.ptr 5 0), sl 11 (I x50), sl 48 (LS boolT (machR fu t).2), sl 49 (I ((machR fu t).2.length : Int)), sl 50 (I x50)], [.sv (.one (I y5)), .sv (.one (I x50)), .sv (.one (I (wr (1 * (2 ^ (min (x50).toNat 64)))))), .sv (.one (I (bitsI .or .i64 y5 (wr (1 * (2 ^ (min (x50).toNat 64))))))), .tup []], [⟨.box [I letters] 3 false, none, none, none⟩, ⟨.box [I 0, I 0, .v (.slice none 0 0), .v (.slice none 0 0)] 73 false, none, none, none⟩, ⟨.gone, none, none, none⟩, ⟨.box [.pe (svR (.agg (RegularPlaces.cl (machR fu t).1))) 2] 157 false, none, none, none⟩, ⟨.box [LS boolT (machR fu t).2] 56 false, none, none, none⟩, ⟨.box [I y5] 3 false, none, none, some (4, .box [I (bitsI .or .i64 y5 (wr (1 * (2 ^ (min (x50).toNat 64)))))] 3 false)⟩]⟩ ⟨[sl 2 (.ptr 0 0), sl 4 (.ptr 1 0), sl 8 (.ptr 3 0), sl 9 (.ptr 4 0), sl 10 (.ptr 5 0), sl 48 (LS boolT (machR fu t).2), sl 49 (I ((machR fu t).2.length : Int)), sl 50 (I x50)], [.box [I letters] 3 false, .box [I 0, I 0, .v (.slice none 0 0), .v (.slice none 0 0)] 73 false, .gone, .box [.pe (svR (.agg (RegularPlaces.cl (machR fu t).1))) 2] 157 false, .box [LS boolT (machR fu t).2] 56 false, .box [I (bitsI .or .i64 y5 (wr (1 * (2 ^ (min (x50).toNat 64)))))] 3 false]⟩ (by kernel_rfl) hn (by kernel_rfl) (by rfl) (by kernel_rfl) ?_ (by kernel_rfl) ?_
 exact ⟨.mt ⟨[sl 10 (.ptr 5 0)], [.gone, .gone, .gone, .gone, .gone, .box [I y5] 3 false]⟩ [] none (by kernel_rfl) (by rfl) (mt_ev ht (by kernel_rfl)) rfl rfl rfl rfl,
 .mt ⟨[sl 11 (I x50)], []⟩ [] none (by kernel_rfl) (by rfl) (mt_ev ht (by kernel_rfl)) rfl rfl rfl rfl,
 .mt ⟨[sl 57 (I x50)], []⟩ [] none (by kernel_rfl) (by rfl) (mt_val (val_shift (u := 1) (v := x50) rfl (by rfl) (by rfl) hz (.inl ⟨rfl, rfl⟩))) rfl rfl rfl rfl,
 .mt ⟨[sl 56 (I y5), sl 58 (I (wr (1 * (2 ^ (min (x50).toNat 64)))))], []⟩ [] none (by kernel_rfl) (by rfl) (mt_ev ht (by kernel_rfl)) rfl rfl rfl rfl,
 .mu ⟨[sl 10 (.ptr 5 0), sl 59 (I (bitsI .or .i64 y5 (wr (1 * (2 ^ (min (x50).toNat 64))))))], [.gone, .gone, .gone, .gone, .gone, .box [I y5] 3 false]⟩ 5 _ _ rfl rfl (by kernel_rfl) (by rfl) (mu_store2 ht rfl (by rfl) (by rfl) (by rfl) (by rfl) (fun h => by cases h) (by rfl) (by rfl)) rfl rfl rfl rfl rfl rfl rfl,
 trivial⟩
 exact En.at (I := fun zz => J_2 zz) (T := fun zz => ⟨[sl 2 (.ptr 0 0), sl 4 (.ptr 1 0), sl 8 (.ptr 3 0), sl 9 (.ptr 4 0), sl 10 (.ptr 5 0), sl 48 (LS boolT (machR fu t).2), sl 49 (I ((machR fu t).2.length : Int)), sl 50 (I x50)], [.box [I letters] 3 false, .box [I 0, I 0, .v (.slice none 0 0), .v (.slice none 0 0)] 73 false, .gone, .box [.pe (svR (.agg (RegularPlaces.cl (machR fu t).1))) 2] 157 false, .box [LS boolT (machR fu t).2] 56 false, .box [I zz] 3 false]⟩) (bitsI .or .i64 y5 (wr (1 * (2 ^ (min (x50).toNat 64))))) h (by kernel_rfl)
 replace h := h.2 hb
 refine En.skip ?_
 exact En.at (I := fun zz => J_2 zz) (T := fun zz => ⟨[sl 2 (.ptr 0 0), sl 4 (.ptr 1 0), sl 8 (.ptr 3 0), sl 9 (.ptr 4 0), sl 10 (.ptr 5 0), sl 48 (LS boolT (machR fu t).2), sl 49 (I ((machR fu t).2.length : Int)), sl 50 (I x50)], [.box [I letters] 3 false, .box [I 0, I 0, .v (.slice none 0 0), .v (.slice none 0 0)] 73 false, .gone, .box [.pe (svR (.agg (RegularPlaces.cl (machR fu t).1))) 2] 157 false, .box [LS boolT (machR fu t).2] 56 false, .box [I zz] 3 false]⟩) y5 h (by kernel_rfl)
 intro y5_2 h
 replace h := hJ_2 _ h
 show En c ⟨[sl 2 (.ptr 0 0), sl 4 (.ptr 1 0), sl 8 (.ptr 3 0), sl 9 (.ptr 4 0), sl 10 (.ptr 5 0), sl 48 (LS boolT (machR fu t).2), sl 49 (I ((machR fu t).2.length : Int)), sl 50 (I x50)], [.box [I letters] 3 false, .box [I 0, I 0, .v (.slice none 0 0), .v (.slice none 0 0)] 73 false, .gone, .box [.pe (svR (.agg (RegularPlaces.cl (machR fu t).1))) 2] 157 false, .box [LS boolT (machR fu t).2] 56 false, .box [I y5_2] 3 false]⟩ _
 refine En.region ?_
 refine WL.run ht hn 2 ⟨[sl 2 (.ptr 0 0), sl 4 (.ptr 1 0), sl 8 (.ptr 3 0), sl 9 (.ptr 4 0), sl 10 (.ptr 5 0), sl 48 (LS boolT (machR fu t).2), sl 49 (I ((machR fu t).2.length : Int)), sl 50 (I (wr (x50 + 1)))], [.box [I letters] 3 false, .box [I 0, I 0, .v (.slice none 0 0), .v (.slice none 0 0)] 73 false, .gone, .box [.pe (svR (.agg (RegularPlaces.cl (machR fu t).1))) 2] 157 false, .box [LS boolT (machR fu t).2] 56 false, .box [I y5_2] 3 false]⟩ (by kernel_rfl) ?_
 refine WL.nil ?_
 exact En.at (I := fun zz => Inv zz.1 zz.2 ∧ mu zz.1 zz.2 < mu x50 y5) (T := fun zz => ⟨[sl 2 (.ptr 0 0), sl 4 (.ptr 1 0), sl 8 (.ptr 3 0), sl 9 (.ptr 4 0), sl 10 (.ptr 5 0), sl 48 (LS boolT (machR fu t).2), sl 49 (I ((machR fu t).2.length : Int)), sl 50 (I zz.1)], [.box [I letters] 3 false, .box [I 0, I 0, .v (.slice none 0 0), .v (.slice none 0 0)] 73 false, .gone, .box [.pe (svR (.agg (RegularPlaces.cl (machR fu t).1))) 2] 157 false, .box [LS boolT (machR fu t).2] 56 false, .box [I zz.2] 3 false]⟩) ((wr (x50 + 1)), y5_2) h (by kernel_rfl)
 replace h := h.2 hb
 refine En.exit rfl ?_
 refine En.seq ?_
 refine En.freeze [4, 3] (by rfl) ?_
 refine En.freeze [5] (by rfl) ?_
 have hz_2 := h.1
 replace h := h.2
 have hp_2 := h.1
 replace h := h.2
 refine En.regionA ⟨[sl 2 (.ptr 0 0), sl 4 (.ptr 1 0), sl 8 (.ptr 3 0), sl 9 (.ptr 4 0), sl 10 (.ptr 5 0)], [.sv (.one (I letters)), .sv (.one (.pe (svR (.agg (RegularPlaces.cl (machR fu t).1))) 2)), .sv (.one (.pe (svR (.agg (RegularPlaces.cl (machR fu t).1))) 2)), .sv (.one (.pe (svR (.one (LS intT (machR fu t).1.fLetters))) 1)), .sv (.one (LS intT (machR fu t).1.fLetters)), .sv (.one (I ((machR fu t).1.fLetters.length : Int))), .sv (.one (I (wr (1 * (2 ^ (min (((machR fu t).1.fLetters.length : Int)).toNat 64)))))), .sv (.one (.rd (fvR (fun (x_ : (Int × Int)) => [.sv (.one (I x_.1)), .sv (.one (I x_.2))]) (fun (r : Int) => .sv (.one (I r))) (fun (x : Int × Int) => goDom (machR fu t).2 (machR fu t).1 x.1 x.2) (fun (x : Int × Int) => goR (machR fu t).2 (machR fu t).1 x.1 x.2)))), .sv (.one (.rd (fvR (fun (x_ : Int) => [.sv (.one (I x_))]) (fun (r : Int) => .sv (.one (I r))) (fun _ => True) (fun (x : Int) => mkR y5 x)))), .tup [.agg (ApiDet.cl (explR (fun k (a : Nat) => (fun (x : Int × Int) => goR (machR fu t).2 (machR fu t).1 x.1 x.2) (k, (a : Int))) (fun (x : Int) => mkR y5 x) (letters).toNat (wr (1 * (2 ^ (min (((machR fu t).1.fLetters.length : Int)).toNat 64)))) 3000).1), .one (B (explR (fun k (a : Nat) => (fun (x : Int × Int) => goR (machR fu t).2 (machR fu t).1 x.1 x.2) (k, (a : Int))) (fun (x : Int) => mkR y5 x) (letters).toNat (wr (1 * (2 ^ (min (((machR fu t).1.fLetters.length : Int)).toNat 64)))) 3000).2)], .tup [.agg (ApiDet.cl (explR (fun k (a : Nat) => (fun (x : Int × Int) => goR (machR fu t).2 (machR fu t).1 x.1 x.2) (k, (a : Int))) (fun (x : Int) => mkR y5 x) (letters).toNat (wr (1 * (2 ^ (min (((machR fu t).1.fLetters.length : Int)).toNat 64)))) 3000).1), .one (B (explR (fun k (a : Nat) => (fun (x : Int × Int) => goR (machR fu t).2 (machR fu t).1 x.1 x.2) (k, (a : Int))) (fun (x : Int) => mkR y5 x) (letters).toNat (wr (1 * (2 ^ (min (((machR fu t).1.fLetters.length : Int)).toNat 64)))) 3000).2)], .sv (.agg (ApiDet.cl (explR (fun k (a : Nat) => (fun (x : Int × Int) => goR (machR fu t).2 (machR fu t).1 x.1 x.2) (k, (a : Int))) (fun (x : Int) => mkR y5 x) (letters).toNat (wr (1 * (2 ^ (min (((machR fu t).1.fLetters.length : Int)).toNat 64)))) 3000).1)), .sv (.one (B (explR (fun k (a : Nat) => (fun (x : Int × Int) => goR (machR fu t).2 (machR fu t).1 x.1 x.2) (k, (a : Int))) (fun (x : Int) => mkR y5 x) (letters).toNat (wr (1 * (2 ^ (min (((machR fu t).1.fLetters.length : Int)).toNat 64)))) 3000).2)), .sv (.one (.ptr 6 0)), .tup [], .sv (.one (B (explR (fun k (a : Nat) => (fun (x : Int × Int) => goR (machR fu t).2 (machR fu t).1 x.1 x.2) (k, (a : Int))) (fun (x : Int) => mkR y5 x) (letters).toNat (wr (1 * (2 ^ (min (((machR fu t).1.fLetters.length : Int)).toNat 64)))) 3000).2))], [⟨.box [I letters] 3 false, none, none, none⟩, ⟨.box [I 0, I 0, .v (.slice none 0 0), .v (.slice none 0 0)] 73 false, none, none, none⟩, ⟨.gone, none, none, none⟩, ⟨.box [.pe (svR (.agg (RegularPlaces.cl (machR fu t).1))) 2] 157 true, none, none, none⟩, ⟨.box [LS boolT (machR fu t).2] 56 true, none, none, none⟩, ⟨.box [I y5] 3 true, none, none, none⟩, ⟨.box [I 0, I 0, .v (.slice none 0 0), .v (.slice none 0 0)] 73 false, some 13, none, some (14, .box (ApiDet.cl (explR (fun k (a : Nat) => (fun (x : Int × Int) => goR (machR fu t).2 (machR fu t).1 x.1 x.2) (k, (a : Int))) (fun (x : Int) => mkR y5 x) (letters).toNat (wr (1 * (2 ^ (min (((machR fu t).1.fLetters.length : Int)).toNat 64)))) 3000).1) 73 false)⟩]⟩ ⟨[sl 4 (.ptr 1 0), sl 13 (.ptr 6 0)], [.gone, .box [I 0, I 0, .v (.slice none 0 0), .v (.slice none 0 0)] 73 false, .gone, .gone, .gone, .gone, .box (ApiDet.cl (explR (fun k (a : Nat) => (fun (x : Int × Int) => goR (machR fu t).2 (machR fu t).1 x.1 x.2) (k, (a : Int))) (fun (x : Int) => mkR y5 x) (letters).toNat (wr (1 * (2 ^ (min (((machR fu t).1.fLetters.length : Int)).toNat 64)))) 3000).1) 73 false]⟩ (by kernel_rfl) hn (by kernel_rfl) (by rfl) (by kernel_rfl) ?_ (by kernel_rfl) ?_
 exact ⟨.mt ⟨[sl 2 (.ptr 0 0)], [.box [I letters] 3 false]⟩ [] none (by kernel_rfl) (by rfl) (mt_ev ht (by kernel_rfl)) rfl rfl rfl rfl,
 .mt ⟨[sl 8 (.ptr 3 0)], [.gone, .gone, .gone, .box [.pe (svR (.agg (RegularPlaces.cl (machR fu t).1))) 2] 157 true]⟩ [] none (by kernel_rfl) (by rfl) (mt_ev ht (by kernel_rfl)) rfl rfl rfl rfl,
 .mt ⟨[sl 63 (.pe (svR (.agg (RegularPlaces.cl (machR fu t).1))) 2)], []⟩ [] none (by kernel_rfl) (by rfl) (mt_ev ht (by kernel_rfl)) rfl rfl rfl rfl,
 .mt ⟨[sl 64 (.pe (svR (.agg (RegularPlaces.cl (machR fu t).1))) 2)], []⟩ [] none (by kernel_rfl) (by rfl) (mt_val (val_field (l := (RegularPlaces.cl (machR fu t).1)) (r := .one (LS intT (machR fu t).1.fLetters)) ht rfl (by rfl) (by rfl) (by rfl) (by rfl) (by rfl) (by rfl))) rfl rfl rfl rfl,
 .mt ⟨[sl 65 (.pe (svR (.one (LS intT (machR fu t).1.fLetters))) 1)], []⟩ [] none (by kernel_rfl) (by rfl) (mt_val (val_load (s := .one (LS intT (machR fu t).1.fLetters)) ht rfl (by rfl) (by rfl) (by rfl) (by rfl) (by rfl))) rfl rfl rfl rfl,
 .mt ⟨[sl 66 (LS intT (machR fu t).1.fLetters)], []⟩ [] none (by kernel_rfl) (by rfl) (mt_ev ht (by kernel_rfl)) rfl rfl rfl rfl,
 .mt ⟨[sl 67 (I ((machR fu t).1.fLetters.length : Int))], []⟩ [] none (by kernel_rfl) (by rfl) (mt_val (val_shift (u := 1) (v := ((machR fu t).1.fLetters.length : Int)) rfl (by rfl) (by rfl) hz_2 (.inl ⟨rfl, rfl⟩))) rfl rfl rfl rfl,
 .mt ⟨[sl 8 (.ptr 3 0), sl 9 (.ptr 4 0)], [.gone, .gone, .gone, .box [.pe (svR (.agg (RegularPlaces.cl (machR fu t).1))) 2] 157 true, .box [LS boolT (machR fu t).2] 56 true]⟩ [] none (by kernel_rfl) (by rfl) (mt_fv (x := .sv (.one (.fn 75 [4, 3]))) ht (by kernel_rfl) (fv_of (M := [.box [LS boolT (machR fu t).2] 56 true, .box [.pe (svR (.agg (RegularPlaces.cl (machR fu t).1))) 2] 157 true]) (caps := [4, 3]) (fun x_ hx => rgD2_ct x_.1 x_.2 (machR fu t).2 (machR fu t).1 hx) en75 rfl (by kernel_rfl) (by rfl) (fun _ => rfl))) rfl rfl rfl rfl,
 .mt ⟨[sl 10 (.ptr 5 0)], [.gone, .gone, .gone, .gone, .gone, .box [I y5] 3 true]⟩ [] none (by kernel_rfl) (by rfl) (mt_fv (x := .sv (.one (.fn 76 [5]))) ht (by kernel_rfl) (fv_of (M := [.box [I y5] 3 true]) (caps := [5]) (fun x_ _ => rgD3_ct x_ y5) en76 rfl (by kernel_rfl) (by rfl) (fun _ => rfl))) rfl rfl rfl rfl,
 .mt ⟨[sl 62 (I letters), sl 68 (I (wr (1 * (2 ^ (min (((machR fu t).1.fLetters.length : Int)).toNat 64))))), sl 69 (.rd (fvR (fun (x_ : (Int × Int)) => [.sv (.one (I x_.1)), .sv (.one (I x_.2))]) (fun (r : Int) => .sv (.one (I r))) (fun (x : Int × Int) => goDom (machR fu t).2 (machR fu t).1 x.1 x.2) (fun (x : Int × Int) => goR (machR fu t).2 (machR fu t).1 x.1 x.2))), sl 70 (.rd (fvR (fun (x_ : Int) => [.sv (.one (I x_))]) (fun (r : Int) => .sv (.one (I r))) (fun _ => True) (fun (x : Int) => mkR y5 x)))], []⟩ [] none (by kernel_rfl) (by rfl) (mt_call (exploreInt_ct letters (wr (1 * (2 ^ (min (((machR fu t).1.fLetters.length : Int)).toNat 64)))) (fun (x : Int × Int) => goDom (machR fu t).2 (machR fu t).1 x.1 x.2) (fun (x : Int × Int) => goR (machR fu t).2 (machR fu t).1 x.1 x.2) (fun _ => True) (fun (x : Int) => mkR y5 x) 3000 hp_2) en74 (caps := []) [] rfl (by rfl) (by kernel_rfl) (by kernel_rfl) (by rfl) (by rfl) (by rfl)) rfl rfl rfl rfl,
 .mt ⟨[(71, .tup [.agg (ApiDet.cl (explR (fun k (a : Nat) => (fun (x : Int × Int) => goR (machR fu t).2 (machR fu t).1 x.1 x.2) (k, (a : Int))) (fun (x : Int) => mkR y5 x) (letters).toNat (wr (1 * (2 ^ (min (((machR fu t).1.fLetters.length : Int)).toNat 64)))) 3000).1), .one (B (explR (fun k (a : Nat) => (fun (x : Int × Int) => goR (machR fu t).2 (machR fu t).1 x.1 x.2) (k, (a : Int))) (fun (x : Int) => mkR y5 x) (letters).toNat (wr (1 * (2 ^ (min (((machR fu t).1.fLetters.length : Int)).toNat 64)))) 3000).2)])], []⟩ [] none (by kernel_rfl) (by rfl) (mt_ev ht (by kernel_rfl)) rfl rfl rfl rfl,
 .mt ⟨[(61, .tup [.agg (ApiDet.cl (explR (fun k (a : Nat) => (fun (x : Int × Int) => goR (machR fu t).2 (machR fu t).1 x.1 x.2) (k, (a : Int))) (fun (x : Int) => mkR y5 x) (letters).toNat (wr (1 * (2 ^ (min (((machR fu t).1.fLetters.length : Int)).toNat 64)))) 3000).1), .one (B (explR (fun k (a : Nat) => (fun (x : Int × Int) => goR (machR fu t).2 (machR fu t).1 x.1 x.2) (k, (a : Int))) (fun (x : Int) => mkR y5 x) (letters).toNat (wr (1 * (2 ^ (min (((machR fu t).1.fLetters.length : Int)).toNat 64)))) 3000).2)])], []⟩ [] none (by kernel_rfl) (by rfl) (mt_ev ht (by kernel_rfl)) rfl rfl rfl rfl,
 .mt ⟨[(61, .tup [.agg (ApiDet.cl (explR (fun k (a : Nat) => (fun (x : Int × Int) => goR (machR fu t).2 (machR fu t).1 x.1 x.2) (k, (a : Int))) (fun (x : Int) => mkR y5 x) (letters).toNat (wr (1 * (2 ^ (min (((machR fu t).1.fLetters.length : Int)).toNat 64)))) 3000).1), .one (B (explR (fun k (a : Nat) => (fun (x : Int × Int) => goR (machR fu t).2 (machR fu t).1 x.1 x.2) (k, (a : Int))) (fun (x : Int) => mkR y5 x) (letters).toNat (wr (1 * (2 ^ (min (((machR fu t).1.fLetters.length : Int)).toNat 64)))) 3000).2)])], []⟩ [] none (by kernel_rfl) (by rfl) (mt_ev ht (by kernel_rfl)) rfl rfl rfl rfl,
 .mt ⟨[], []⟩ [] (some 6) (by kernel_rfl) (by rfl) (mt_alloc2 6 73 ht rfl (by rfl) (by rfl)) rfl rfl rfl rfl,
 .mu ⟨[sl 13 (.ptr 6 0), (72, .sv (.agg (ApiDet.cl (explR (fun k (a : Nat) => (fun (x : Int × Int) => goR (machR fu t).2 (machR fu t).1 x.1 x.2) (k, (a : Int))) (fun (x : Int) => mkR y5 x) (letters).toNat (wr (1 * (2 ^ (min (((machR fu t).1.fLetters.length : Int)).toNat 64)))) 3000).1)))], [.gone, .gone, .gone, .gone, .gone, .gone, .box [I 0, I 0, .v (.slice none 0 0), .v (.slice none 0 0)] 73 false]⟩ 6 _ _ rfl rfl (by kernel_rfl) (by rfl) (mu_store2 ht rfl (by rfl) (by rfl) (by rfl) (by rfl) (fun h => by cases h) (by rfl) (by rfl)) rfl rfl rfl rfl rfl rfl rfl,
 .mt ⟨[sl 73 (B (explR (fun k (a : Nat) => (fun (x : Int × Int) => goR (machR fu t).2 (machR fu t).1 x.1 x.2) (k, (a : Int))) (fun (x : Int) => mkR y5 x) (letters).toNat (wr (1 * (2 ^ (min (((machR fu t).1.fLetters.length : Int)).toNat 64)))) 3000).2)], []⟩ [] none (by kernel_rfl) (by rfl) (mt_ev ht (by kernel_rfl)) rfl rfl rfl rfl,
 trivial⟩
 refine En.seq ?_
 refine En.region ?_
 refine WL.run ht hn 1 ⟨[sl 4 (.ptr 1 0), (74, .sv (.agg (ApiDet.cl (explR (fun k (a : Nat) => (fun (x : Int × Int) => goR (machR fu t).2 (machR fu t).1 x.1 x.2) (k, (a : Int))) (fun (x : Int) => mkR y5 x) (letters).toNat (wr (1 * (2 ^ (min (((machR fu t).1.fLetters.length : Int)).toNat 64)))) 3000).1)))], [.gone, .box [I 0, I 0, .v (.slice none 0 0), .v (.slice none 0 0)] 73 false, .gone, .gone, .gone, .gone, .gone]⟩ (by kernel_rfl) ?_
 have hp := h.1
 replace h := h.2
 refine WL.mt0 (K := []) (p := none) hn (by rfl) (mt_call (smallest_ct (explR (fun k (a : Nat) => (fun (x : Int × Int) => goR (machR fu t).2 (machR fu t).1 x.1 x.2) (k, (a : Int))) (fun (x : Int) => mkR y5 x) (letters).toNat (wr (1 * (2 ^ (min (((machR fu t).1.fLetters.length : Int)).toNat 64)))) 3000).1 hp) en77 (caps := []) [] rfl (by rfl) (by kernel_rfl) (by kernel_rfl) (by rfl) (by rfl) (by rfl)) (by rfl) (by rfl) (by rfl) ?_
 refine WL.run ht hn 2 ⟨[sl 4 (.ptr 1 0), sl 5 (I 0)], [.gone, .box (ApiDet.cl (canon ((explR (fun k (a : Nat) => (fun (x : Int × Int) => goR (machR fu t).2 (machR fu t).1 x.1 x.2) (k, (a : Int))) (fun (x : Int) => mkR y5 x) (letters).toNat (wr (1 * (2 ^ (min (((machR fu t).1.fLetters.length : Int)).toNat 64)))) 3000).1).fLetters.toNat (langD (explR (fun k (a : Nat) => (fun (x : Int × Int) => goR (machR fu t).2 (machR fu t).1 x.1 x.2) (k, (a : Int))) (fun (x : Int) => mkR y5 x) (letters).toNat (wr (1 * (2 ^ (min (((machR fu t).1.fLetters.length : Int)).toNat 64)))) 3000).1 ((explR (fun k (a : Nat) => (fun (x : Int × Int) => goR (machR fu t).2 (machR fu t).1 x.1 x.2) (k, (a : Int))) (fun (x : Int) => mkR y5 x) (letters).toNat (wr (1 * (2 ^ (min (((machR fu t).1.fLetters.length : Int)).toNat 64)))) 3000).1).fStart.toNat))) 73 false, .gone, .gone, .gone, .gone, .gone]⟩ (by kernel_rfl) ?_
 refine WL.nil ?_
 refine En.ret ?_
 exact En.back ht ((canon ((explR (fun k (a : Nat) => (fun (x : Int × Int) => goR (machR fu t).2 (machR fu t).1 x.1 x.2) (k, (a : Int))) (fun (x : Int) => mkR y5 x) (letters).toNat (wr (1 * (2 ^ (min (((machR fu t).1.fLetters.length : Int)).toNat 64)))) 3000).1).fLetters.toNat (langD (explR (fun k (a : Nat) => (fun (x : Int × Int) => goR (machR fu t).2 (machR fu t).1 x.1 x.2) (k, (a : Int))) (fun (x : Int) => mkR y5 x) (letters).toNat (wr (1 * (2 ^ (min (((machR fu t).1.fLetters.length : Int)).toNat 64)))) 3000).1 ((explR (fun k (a : Nat) => (fun (x : Int × Int) => goR (machR fu t).2 (machR fu t).1 x.1 x.2) (k, (a : Int))) (fun (x : Int) => mkR y5 x) (letters).toNat (wr (1 * (2 ^ (min (((machR fu t).1.fLetters.length : Int)).toNat 64)))) 3000).1).fStart.toNat)), 0) h (by kernel_rfl) rfl
theorem en27 : ∀ args w, (callFunc 27 args).run Try.prog w = .ok (.enter 27 args) w := enters_of Try.func27 (by kernel_rfl) rfl
end Go.Proofs.Ytapnmjeadbhffaa


namespace Go.Proofs.Ytapnmjeadbhffaa
open Go.RowKit Go.MapKept
set_option linter.unusedSimpArgs false
set_option linter.unusedVariables false
set_option maxRecDepth 100000
set_option linter.unusedSectionVars false
theorem foldl_der : ∀ (w : List Nat) (k : Lang) (u : List Nat), (w.foldl der k) u = k (w ++ u)
 | [], _, _ => rfl
 | a :: w, k, u => by
  rw [List.foldl_cons, foldl_der w]
  rfl
theorem langK_der (k : Lang) (w : List Nat) : langK der (fun r => r []) k w = k w := by
 show (w.foldl der k) [] = _
 rw [foldl_der, List.append_nil]
structure CanonOk (L : Nat) (r : Lang) (n : Nat) : Prop where
 wf : Wf (canon L r)
 letters : (canon L r).fLetters = L
 start : (canon L r).fStart = 0
 count : (canon L r).fNext.length ≤ n
 lang : ∀ w, (∀ a ∈ w, a < L) → langD (canon L r) 0 w = r w
 marks : ∀ m ∈ (canon L r).fMark, ∃ u, m = r u
theorem canon_vals {L : Nat} {r : Lang} : ∀ m ∈ (canon L r).fMark, ∃ u, m = r u := fun m hm => by
 unfold canon explD detOf at hm
 obtain ⟨k, hk, rfl⟩ := List.mem_map.1 hm
 obtain ⟨u, rfl⟩ := explL_in (P := fun s : Lang => ∃ u : List Nat, s = rs L (fun w => r (u ++ w))) ⟨[], rfl⟩ (by
  rintro k a ⟨u, rfl⟩ ha
  refine ⟨u ++ [a], ?_⟩
  rw [der_rs ha]
  refine rs_congr fun w _ => ?_
  show r (u ++ a :: w) = _
  rw [List.append_assoc]
  rfl) hk
 exact ⟨u, by simp [rs]⟩
theorem canonOk_keys {K : Type} {go : K → Nat → K} {mark : K → Int} {L : Nat} {k0 : K} {m : List K} (h0 : k0 ∈ m) (hP : ∀ k a, k ∈ m → a < L → go k a ∈ m) : CanonOk L (langK go mark k0) m.length := by
 have h1 : rs L (langK go mark k0) ∈ m.map fun k => rs L (langK go mark k) := List.mem_map.2 ⟨k0, h0, rfl⟩
 have h2 : ∀ s a, s ∈ (m.map fun k => rs L (langK go mark k)) → a < L → der s a ∈ m.map fun k => rs L (langK go mark k) := fun s a hs ha => by
  obtain ⟨k, hk, rfl⟩ := List.mem_map.1 hs
  exact List.mem_map.2 ⟨go k a, hP k a hk ha, by rw [der_rs ha]; rfl⟩
 have hc := explD_count (mark := fun r : Lang => r []) h1 h2
 rw [List.length_map] at hc
 refine ⟨explD_wf (mark := fun r : Lang => r []) h1 h2, rfl, rfl, hc, fun w hw => ?_, canon_vals⟩
 have := explD_lang (mark := fun r : Lang => r []) h1 h2 hw
 rw [langK_der] at this
 refine this.trans ?_
 unfold rs
 rw [if_pos hw]
theorem CanonOk.congr {L n : Nat} {r s : Lang} (h : CanonOk L r n) (e : ∀ w, (∀ a ∈ w, a < L) → r w = s w) : CanonOk L s n := by
 have hc := canon_congr e
 refine ⟨by rw [← hc]; exact h.wf, by rw [← hc]; exact h.letters, by rw [← hc]; exact h.start, by rw [← hc]; exact h.count, fun w hw => ?_, canon_vals⟩
 rw [← hc, h.lang w hw, e w hw]
theorem CanonOk.mono {L n k : Nat} {r : Lang} (h : CanonOk L r n) (hk : n ≤ k) : CanonOk L r k := ⟨h.wf, h.letters, h.start, Nat.le_trans h.count hk, h.lang, h.marks⟩
end Go.Proofs.Ytapnmjeadbhffaa


namespace Go.Proofs.Ytapnmjeadbhffaa
open Go.RowKit Go.MapKept
set_option linter.unusedSimpArgs false
set_option linter.unusedVariables false
set_option maxRecDepth 100000
def lastL : List Bool → Nat → Int → Int
 | [], _, y => y
 | b :: l, x, y => lastL l (x + 1) (if b = true then bitsI .or .i64 y (wr (1 * (2 ^ (min ((x : Int)).toNat 64)))) else y)
def startR (p : RegularPlaces) : Int := wr (1 * (2 ^ (min ((p.fLetters.length : Int)).toNat 64)))
def rLang (M : RegularPlaces × List Bool) : Lang := langK (fun st (a : Nat) => goR M.2 M.1 st (a : Int)) (mkR (lastL M.2 0 0)) (startR M.1)
theorem rDet_ok (fu : Nat) (letters : Int) (text : ByteArray) (t : RTr) (M : RegularPlaces × List Bool) (m : List Int) (ht : fullS text = some t) (hl : 1 ≤ letters ∧ letters ≤ 4) (hs : ¬ 0 ≤ strIdx (fun (x : Int) => d1R letters x) true text (text.size + 1) 0) (hm : machS fu t = some M)
  (hn : M.1.fLetters.length ≤ 10) (hg : M.2.length ≤ 1048576) (h0 : startR M.1 ∈ m) (hP : ∀ st (a : Nat), st ∈ m → a < letters.toNat → goDom M.2 M.1 st (a : Int) ∧ goR M.2 M.1 st (a : Int) ∈ m) (hml : m.length ≤ 3000) :
  Ct 27 [.sv (.one (I letters)), .sv (.one (.v (.string text)))] [] (fun (_ : Unit) => True) (fun _ => .tup [.agg [I (canon letters.toNat (rLang M)).fLetters, I (canon letters.toNat (rLang M)).fStart, LS (lsT intT) (canon letters.toNat (rLang M)).fNext, LS intT (canon letters.toNat (rLang M)).fMark], .one (I 0)]) := by
 refine (rDet_walk fu letters text (fun r => r = (canon letters.toNat (rLang M), 0)) ?_).fun
 unfold rDet_vc
 intro r hr
 have hr : r = (some t, ⟨0, 0⟩) := by
  unfold ParsedQ at hr
  rw [ht] at hr
  exact hr
 subst hr
 refine ⟨fun hb => (by cases hb), fun _ => ⟨fun b => b = false, ⟨fun hb => absurd (of_decide_eq_true hb) (by omega), fun _ => ⟨fun hb => absurd (of_decide_eq_true hb) (by omega), fun _ => ⟨fun _ => trivial, decide_eq_false hs⟩⟩⟩, ?_⟩⟩
 rintro _ rfl
 refine ⟨fun hb => (by cases hb), fun _ => ⟨t, rfl, by rw [hm]; rfl, ?_⟩⟩
 have hz : machR fu t = M := by
  unfold machR
  rw [hm]
  rfl
 rw [hz]
 refine ⟨fun hb => absurd (of_decide_eq_true hb) (by omega), fun _ => ⟨fun x y => ∃ n : Nat, x = n ∧ n ≤ M.2.length ∧ lastL (M.2.drop n) n y = lastL M.2 0 0, fun x _ => M.2.length - x.toNat, ⟨0, rfl, Nat.zero_le _, rfl⟩, ?_⟩⟩
 rintro _ y ⟨n, rfl, hnl, he⟩
 refine ⟨fun hb => ?_, fun hb => ?_⟩
 ·have hlt : n < M.2.length := by have := of_decide_eq_true hb; exact Int.ofNat_lt.1 this
  rw [List.drop_eq_getElem_cons hlt, lastL] at he
  refine ⟨fun y2 => lastL (M.2.drop (n + 1)) (n + 1) y2 = lastL M.2 0 0, ⟨M.2[n], by simp [idx, hlt], fun hb2 => ⟨Int.natCast_nonneg _, ?_⟩, fun hb2 => ?_⟩, fun y2 h2 => ⟨⟨n + 1, wr_len (n := M.2.length) (by omega) hlt, hlt, h2⟩, ?_⟩⟩
  ·rw [if_pos hb2] at he
   exact he
  ·rw [if_neg (by rw [hb2]; decide)] at he
   exact he
  ·rw [wr_len (n := M.2.length) (by omega) hlt]
   show M.2.length - (n + 1) < M.2.length - n
   omega
 ·have hge : M.2.length ≤ n := by have := of_decide_eq_false hb; exact Nat.le_of_not_lt fun h => this (Int.ofNat_lt.2 h)
  rw [List.drop_eq_nil_of_le hge, lastL] at he
  subst he
  have hP2 : ∀ k a, k ∈ m → a < letters.toNat → goR M.2 M.1 k ((a : Nat) : Int) ∈ m := fun k a hk ha => (hP k a hk ha).2
  have key : ∀ E : ApiDet × Bool, E = (explD (fun st (a : Nat) => goR M.2 M.1 st (a : Int)) (mkR (lastL M.2 0 0)) letters.toNat (startR M.1), true) → ClsOk E.1 ∧ canon (E.1).fLetters.toNat (langD E.1 (E.1).fStart.toNat) = canon letters.toNat (rLang M) := by
   rintro E rfl
   have hcount := explD_count (mark := mkR (lastL M.2 0 0)) h0 hP2
   refine ⟨⟨explD_wf h0 hP2, Nat.le_trans hcount (by omega), ?_, explD_marks h0 hP2 fun k hk => ?_⟩, canon_congr fun w hw => explD_lang h0 hP2 hw⟩
   ·show ((letters.toNat : Nat) : Int) ≤ 1000
    omega
   ·unfold mkR
    split <;> decide
  obtain ⟨k1, k2⟩ := key _ (explR_ends (limit := 3000) h0 hP2 (by omega))
  exact ⟨Int.natCast_nonneg _, ⟨⟨by omega, by omega⟩, by decide, fun st => st ∈ m, h0, fun st a hk ha => hP st a hk (by omega), fun _ _ => trivial⟩, k1, congrArg (fun d => (d, (0 : Int))) k2⟩
def textC : ByteArray := ByteArray.mk #[40, 97, 43, 98, 41, 42, 97]
def treeC : RTr := nd 3 0 [nd 4 0 [nd 5 0 [nd 3 0 [nd 4 0 [nd 2 0 []], nd 4 0 [nd 2 1 []]]], nd 2 0 []]]
def machC : RegularPlaces × List Bool := (⟨[0, 1, 0], [[0, 1, 2], [0, 1, 2], [], [0, 1, 2]]⟩, [false, false, true, false])
theorem fullC : fullS textC = some treeC := by kernel_rfl
theorem machC_eq : machS 8 treeC = some machC := by kernel_rfl
theorem strC : strIdx (fun (x : Int) => d1R 2 x) true textC (textC.size + 1) 0 = -1 := by kernel_rfl
theorem goC : goS machC.2 machC.1 8 0 = some 5 ∧ goS machC.2 machC.1 8 1 = some 2 ∧ goS machC.2 machC.1 5 0 = some 5 ∧ goS machC.2 machC.1 5 1 = some 2 ∧ goS machC.2 machC.1 2 0 = some 5 ∧ goS machC.2 machC.1 2 1 = some 2 := by
 refine ⟨?_, ?_, ?_, ?_, ?_, ?_⟩ <;> kernel_rfl
theorem startC : startR machC.1 = 8 := by kernel_rfl
theorem lastC : lastL machC.2 0 0 = 4 := by kernel_rfl
def go2 (_ : Bool) (a : Nat) : Bool := decide (a = 0)
def mk2 (b : Bool) : Int := if b = true then 1 else 0
theorem mkC : mkR 4 8 = 0 ∧ mkR 4 5 = 1 ∧ mkR 4 2 = 0 := by
 refine ⟨?_, ?_, ?_⟩ <;> kernel_rfl
theorem goR_of {good : List Bool} {p : RegularPlaces} {st a r : Int} (h : goS good p st a = some r) : goDom good p st a ∧ goR good p st a = r := ⟨by unfold goDom; rw [h]; rfl, by unfold goR; rw [h]; rfl⟩
theorem stepC {st : Int} {a : Nat} (hs : st ∈ [(8 : Int), 5, 2]) (ha : a < 2) : goDom machC.2 machC.1 st (a : Int) ∧ goR machC.2 machC.1 st (a : Int) = if a = 0 then 5 else 2 := by
 obtain ⟨g1, g2, g3, g4, g5, g6⟩ := goC
 have h2 : a = 0 ∨ a = 1 := by omega
 simp only [List.mem_cons, List.not_mem_nil, or_false] at hs
 rcases h2 with rfl | rfl <;> rcases hs with rfl | rfl | rfl
 ·exact goR_of g1
 ·exact goR_of g3
 ·exact goR_of g5
 ·exact goR_of g2
 ·exact goR_of g4
 ·exact goR_of g6
theorem langC : ∀ (w : List Nat) (st : Int) (b : Bool), (∀ a ∈ w, a < 2) → ((st = 8 ∧ b = false) ∨ (st = 5 ∧ b = true) ∨ (st = 2 ∧ b = false)) → mkR 4 (w.foldl (fun st (a : Nat) => goR machC.2 machC.1 st (a : Int)) st) = mk2 (w.foldl go2 b)
 | [], st, b, _, h => by
  obtain ⟨h1, h2, h3⟩ := mkC
  rcases h with ⟨rfl, rfl⟩ | ⟨rfl, rfl⟩ | ⟨rfl, rfl⟩
  ·exact h1
  ·exact h2
  ·exact h3
 | a :: w, st, b, hw, h => by
  have ha : a < 2 := hw a List.mem_cons_self
  have hs : st ∈ [(8 : Int), 5, 2] := by
   simp only [List.mem_cons, List.not_mem_nil, or_false]
   rcases h with ⟨h, _⟩ | ⟨h, _⟩ | ⟨h, _⟩ <;> simp [h]
  rw [List.foldl_cons, List.foldl_cons]
  refine langC w _ _ (fun x hx => hw x (List.mem_cons_of_mem _ hx)) ?_
  rw [(stepC hs ha).2]
  unfold go2
  by_cases e : a = 0
  ·exact .inr (.inl ⟨if_pos e, decide_eq_true e⟩)
  ·exact .inr (.inr ⟨if_neg e, decide_eq_false e⟩)
theorem canonC : canon 2 (rLang machC) = explD go2 mk2 2 false := by
 have h := canon_of (K := Bool) (go := go2) (mark := mk2) (L := 2) (k0 := false) (P := fun _ => True) trivial (fun _ _ _ _ => trivial) (fun x y _ _ hxy => by
  have := congrFun hxy []
  unfold rs langK at this
  simp only [List.not_mem_nil, false_implies, implies_true, if_true, List.foldl_nil] at this
  revert this
  cases x <;> cases y <;> simp [mk2])
 rw [h]
 refine canon_congr fun w hw => ?_
 show mkR (lastL machC.2 0 0) (w.foldl _ (startR machC.1)) = _
 rw [lastC, startC]
 exact langC w 8 false hw (.inl ⟨rfl, rfl⟩)
theorem lenC : (canon 2 (rLang machC)).fNext.length = 2 := by
 rw [canonC]
 obtain ⟨l, h1, h2, h3, h4, h5, h6⟩ := explD_facts (go := go2) (L := 2) (k0 := false) (m := [false, true]) (by simp) (fun k a _ _ => by cases go2 k a <;> simp)
 have hl : (explD go2 mk2 2 false).fNext.length = l.length := by
  show ((explL go2 2 false).map _).length = _
  rw [List.length_map, h1]
 rw [hl]
 have h4 : l.length ≤ 2 := h4
 match l, h5, h6, h4 with
 | [x], h5, h6, _ =>
  simp only [List.getElem?_cons_zero, Option.some.injEq] at h5
  subst h5
  have := h6 false (by simp) 0 (by decide)
  simp [go2] at this
 | [x, y], _, _, _ => rfl
theorem detC_ct (letters : Int) (text : ByteArray) (hp : letters = 2 ∧ text = textC) : Ct 27 [.sv (.one (I letters)), .sv (.one (.v (.string text)))] [] (fun (_ : Unit) => True) (fun _ => .tup [.agg [I (canon 2 (rLang machC)).fLetters, I (canon 2 (rLang machC)).fStart, LS (lsT intT) (canon 2 (rLang machC)).fNext, LS intT (canon 2 (rLang machC)).fMark], .one (I 0)]) := by
 obtain ⟨rfl, rfl⟩ := hp
 refine rDet_ok 8 2 textC treeC machC [8, 5, 2] fullC ⟨by decide, by decide⟩ (by rw [strC]; decide) machC_eq (by decide) (by decide) (by rw [startC]; decide) (fun st a hs ha => ?_) (by decide)
 obtain ⟨k1, k2⟩ := stepC hs ha
 refine ⟨k1, ?_⟩
 rw [k2]
 split <;> decide
def closed_vc (Q : Bool → Prop) : Prop :=
 ((2 : Int) = 2 ∧ (ByteArray.mk #[40, 97, 43, 98, 41, 42, 97]) = textC) ∧
 Q ((((canon 2 (rLang machC), (0 : Int))).2 == 0) && ((((canon 2 (rLang machC), (0 : Int))).1.fNext.length : Int) == 2))
theorem closed_walk (Q : Bool → Prop) (h : closed_vc  Q) : Ct 26 [] [] Q (fun (r : Bool) => .sv (.one (B r))) := by
 have ht := tab_ok
 refine Ct.body Try.func26 rfl rfl rfl rfl (fun c hn => ?_)
 unfold closed_vc at h
 refine En.seq ?_
 refine En.region ?_
 refine WL.run ht hn 1 ⟨[], []⟩ (by kernel_rfl) ?_
 refine WL.nil ?_
 refine En.seq ?_
 refine En.region ?_
 have hp := h.1
 replace h := h.2
 refine WL.mt0 (K := []) (p := none) hn (by rfl) (mt_call (detC_ct 2 (ByteArray.mk #[40, 97, 43, 98, 41, 42, 97]) hp) en27 (caps := []) [] rfl (by rfl) (by kernel_rfl) (by kernel_rfl) (by rfl) (by rfl) (by rfl)) (by rfl) (by rfl) (by rfl) ?_
 refine WL.run ht hn 6 ⟨[sl 1 (.ptr 0 0), sl 2 (I ((canon 2 (rLang machC), (0 : Int))).2)], [.box (ApiDet.cl ((canon 2 (rLang machC), (0 : Int))).1) 73 false]⟩ (by kernel_rfl) ?_
 refine WL.nil ?_
 refine En.seq ?_
 refine En.region ?_
 refine WL.run ht hn 3 ⟨[sl 1 (.ptr 0 0), sl 9 (B (((canon 2 (rLang machC), (0 : Int))).2 == 0))], [.box (ApiDet.cl ((canon 2 (rLang machC), (0 : Int))).1) 73 false]⟩ (by kernel_rfl) ?_
 refine WL.thru ⟨[sl 0 (B ((((canon 2 (rLang machC), (0 : Int))).2 == 0) && ((((canon 2 (rLang machC), (0 : Int))).1.fNext.length : Int) == 2)))], [.gone]⟩ ?_ ?_
 refine splitB (((canon 2 (rLang machC), (0 : Int))).2 == 0) (fun hb0 => ?_) (fun hb0 => ?_)
 refine WL.setB 9 hb0 (by kernel_rfl) ?_
 refine WL.run ht hn 6 ⟨[sl 0 (B ((((canon 2 (rLang machC), (0 : Int))).1.fNext.length : Int) == 2))], [.gone]⟩ (by kernel_rfl) ?_
 exact WL.nil (sub_ok (by simp only [hb0]; kernel_rfl))
 refine WL.setB 9 hb0 (by kernel_rfl) ?_
 refine WL.run ht hn 6 ⟨[sl 0 (B false)], [.gone]⟩ (by kernel_rfl) ?_
 exact WL.nil (sub_ok (by simp only [hb0]; kernel_rfl))
 refine En.ret ?_
 exact En.back ht ((((canon 2 (rLang machC), (0 : Int))).2 == 0) && ((((canon 2 (rLang machC), (0 : Int))).1.fNext.length : Int) == 2)) h (by kernel_rfl) rfl
theorem en26 : ∀ args w, (callFunc 26 args).run Try.prog w = .ok (.enter 26 args) w := enters_of Try.func26 (by kernel_rfl) rfl
theorem closed_ct  : Ct 26 [] [] (fun (_ : Unit) => True) (fun _ => .sv (.one (B (true)))) := by
 refine (closed_walk  (fun res_ => res_ = (true)) ?_).fun
 unfold closed_vc
 refine ⟨⟨rfl, rfl⟩, ?_⟩
 rw [lenC]
 rfl
end Go.Proofs.Ytapnmjeadbhffaa


namespace Go.Proofs.Ytapnmjeadbhffaa
set_option linter.unusedSimpArgs false
set_option linter.unusedVariables false
set_option maxRecDepth 100000
section
variable {α : Type}
def Ch (R : α → α → Prop) (L : α → Prop) : α → List α → Prop
 | p, [] => L p
 | p, q :: l => R p q ∧ Ch R L q l
def Acc (em : Prop) (F L : α → Prop) (R : α → α → Prop) : List α → Prop
 | [] => em
 | p :: l => F p ∧ Ch R L p l
variable {S S1 S2 : α → Prop} {R R1 R2 : α → α → Prop} {F F1 F2 L L1 L2 : α → Prop} {em em1 em2 : Prop}
theorem ch_in (hR : ∀ p, S p → ∀ q, (R p q ↔ R1 p q)) (hS : ∀ p q, S p → R1 p q → S q) (hL : ∀ p, S p → (L p ↔ L1 p)) : ∀ (l : List α) (p : α), S p → (Ch R L p l ↔ Ch R1 L1 p l)
 | [], p, h => hL p h
 | q :: l, p, h => by
  unfold Ch
  constructor
  ·rintro ⟨h1, h2⟩
   have h3 := (hR p h q).1 h1
   exact ⟨h3, (ch_in hR hS hL l q (hS p q h h3)).1 h2⟩
  ·rintro ⟨h1, h2⟩
   exact ⟨(hR p h q).2 h1, (ch_in hR hS hL l q (hS p q h h1)).2 h2⟩
theorem ch_row (h1 : ∀ p, S1 p → ∀ q, (R p q ↔ R1 p q ∨ (L1 p ∧ F2 q))) (h2 : ∀ p, S2 p → ∀ q, (R p q ↔ R2 p q)) (c1 : ∀ p q, S1 p → R1 p q → S1 q) (c2 : ∀ p q, S2 p → R2 p q → S2 q) (f2 : ∀ q, F2 q → S2 q) (l1 : ∀ p, S1 p → (L p ↔ em2 ∧ L1 p)) (l2 : ∀ p, S2 p → (L p ↔ L2 p)) : ∀ (l : List α) (p : α), S1 p → (Ch R L p l ↔ ∃ u v, l = u ++ v ∧ Ch R1 L1 p u ∧ Acc em2 F2 L2 R2 v)
 | [], p, hp => by
  show L p ↔ _
  rw [l1 p hp]
  constructor
  ·rintro ⟨h, h'⟩
   exact ⟨[], [], rfl, h', h⟩
  ·rintro ⟨u, v, e, hu, hv⟩
   obtain ⟨rfl, rfl⟩ := List.append_eq_nil_iff.1 e.symm
   exact ⟨hv, hu⟩
 | q :: l, p, hp => by
  show (R p q ∧ Ch R L q l) ↔ _
  constructor
  ·rintro ⟨hr, hc⟩
   rcases (h1 p hp q).1 hr with hr | ⟨hl, hf⟩
   ·obtain ⟨u, v, rfl, hu, hv⟩ := (ch_row h1 h2 c1 c2 f2 l1 l2 l q (c1 p q hp hr)).1 hc
    exact ⟨q :: u, v, rfl, ⟨hr, hu⟩, hv⟩
   ·exact ⟨[], q :: l, rfl, hl, hf, (ch_in h2 c2 l2 l q (f2 q hf)).1 hc⟩
  ·rintro ⟨u, v, e, hu, hv⟩
   cases u with
   | nil =>
    rw [List.nil_append] at e
    subst e
    obtain ⟨hf, hc⟩ := hv
    exact ⟨(h1 p hp q).2 (.inr ⟨hu, hf⟩), (ch_in h2 c2 l2 l q (f2 q hf)).2 hc⟩
   | cons x u =>
    rw [List.cons_append, List.cons.injEq] at e
    obtain ⟨rfl, rfl⟩ := e
    obtain ⟨hr, hu⟩ := hu
    exact ⟨(h1 p hp q).2 (.inl hr), (ch_row h1 h2 c1 c2 f2 l1 l2 _ q (c1 p q hp hr)).2 ⟨u, v, rfl, hu, hv⟩⟩
theorem acc_row (h1 : ∀ p, S1 p → ∀ q, (R p q ↔ R1 p q ∨ (L1 p ∧ F2 q))) (h2 : ∀ p, S2 p → ∀ q, (R p q ↔ R2 p q)) (c1 : ∀ p q, S1 p → R1 p q → S1 q) (c2 : ∀ p q, S2 p → R2 p q → S2 q) (f1 : ∀ q, F1 q → S1 q) (f2 : ∀ q, F2 q → S2 q) (l1 : ∀ p, S1 p → (L p ↔ em2 ∧ L1 p)) (l2 : ∀ p, S2 p → (L p ↔ L2 p))
  (hem : em ↔ em1 ∧ em2) (hF : ∀ p, F p ↔ F1 p ∨ (em1 ∧ F2 p)) (ps : List α) : Acc em F L R ps ↔ ∃ u v, ps = u ++ v ∧ Acc em1 F1 L1 R1 u ∧ Acc em2 F2 L2 R2 v := by
 cases ps with
 | nil =>
  show em ↔ _
  rw [hem]
  constructor
  ·rintro ⟨h, h'⟩
   exact ⟨[], [], rfl, h, h'⟩
  ·rintro ⟨u, v, e, hu, hv⟩
   obtain ⟨rfl, rfl⟩ := List.append_eq_nil_iff.1 e.symm
   exact ⟨hu, hv⟩
 | cons p l =>
  show (F p ∧ Ch R L p l) ↔ _
  rw [hF]
  constructor
  ·rintro ⟨h | ⟨h, h'⟩, hc⟩
   ·obtain ⟨u, v, rfl, hu, hv⟩ := (ch_row h1 h2 c1 c2 f2 l1 l2 l p (f1 p h)).1 hc
    exact ⟨p :: u, v, rfl, ⟨h, hu⟩, hv⟩
   ·exact ⟨[], p :: l, rfl, h, h', (ch_in h2 c2 l2 l p (f2 p h')).1 hc⟩
  ·rintro ⟨u, v, e, hu, hv⟩
   cases u with
   | nil =>
    rw [List.nil_append] at e
    subst e
    obtain ⟨hf, hc⟩ := hv
    exact ⟨.inr ⟨hu, hf⟩, (ch_in h2 c2 l2 l p (f2 p hf)).2 hc⟩
   | cons x u =>
    rw [List.cons_append, List.cons.injEq] at e
    obtain ⟨rfl, rfl⟩ := e
    obtain ⟨hf, hu⟩ := hu
    exact ⟨.inl hf, (ch_row h1 h2 c1 c2 f2 l1 l2 _ p (f1 p hf)).2 ⟨u, v, rfl, hu, hv⟩⟩
theorem acc_sum (h1 : ∀ p, S1 p → ∀ q, (R p q ↔ R1 p q)) (h2 : ∀ p, S2 p → ∀ q, (R p q ↔ R2 p q)) (c1 : ∀ p q, S1 p → R1 p q → S1 q) (c2 : ∀ p q, S2 p → R2 p q → S2 q) (f1 : ∀ q, F1 q → S1 q) (f2 : ∀ q, F2 q → S2 q) (l1 : ∀ p, S1 p → (L p ↔ L1 p)) (l2 : ∀ p, S2 p → (L p ↔ L2 p))
  (hem : em ↔ em1 ∨ em2) (hF : ∀ p, F p ↔ F1 p ∨ F2 p) (ps : List α) : Acc em F L R ps ↔ Acc em1 F1 L1 R1 ps ∨ Acc em2 F2 L2 R2 ps := by
 cases ps with
 | nil => exact hem
 | cons p l =>
  show (F p ∧ Ch R L p l) ↔ (F1 p ∧ Ch R1 L1 p l) ∨ (F2 p ∧ Ch R2 L2 p l)
  rw [hF]
  constructor
  ·rintro ⟨h | h, hc⟩
   ·exact .inl ⟨h, (ch_in h1 c1 l1 l p (f1 p h)).1 hc⟩
   ·exact .inr ⟨h, (ch_in h2 c2 l2 l p (f2 p h)).1 hc⟩
  ·rintro (⟨h, hc⟩ | ⟨h, hc⟩)
   ·exact ⟨.inl h, (ch_in h1 c1 l1 l p (f1 p h)).2 hc⟩
   ·exact ⟨.inr h, (ch_in h2 c2 l2 l p (f2 p h)).2 hc⟩
theorem ch_star (h1 : ∀ p, S p → ∀ q, (R p q ↔ R1 p q ∨ (L1 p ∧ F1 q))) (c1 : ∀ p q, S p → R1 p q → S q) (f1 : ∀ q, F1 q → S q) : ∀ (l : List α) (p : α), S p → (Ch R L1 p l ↔ ∃ u vs, l = u ++ List.flatten vs ∧ Ch R1 L1 p u ∧ ∀ v ∈ vs, v ≠ [] ∧ Acc em F1 L1 R1 v)
 | [], p, hp => by
  show L1 p ↔ _
  constructor
  ·intro h
   exact ⟨[], [], rfl, h, fun v hv => by cases hv⟩
  ·rintro ⟨u, vs, e, hu, _⟩
   obtain ⟨rfl, _⟩ := List.append_eq_nil_iff.1 e.symm
   exact hu
 | q :: l, p, hp => by
  show (R p q ∧ Ch R L1 q l) ↔ _
  constructor
  ·rintro ⟨hr, hc⟩
   rcases (h1 p hp q).1 hr with hr | ⟨hl, hf⟩
   ·obtain ⟨u, vs, rfl, hu, hv⟩ := (ch_star h1 c1 f1 l q (c1 p q hp hr)).1 hc
    exact ⟨q :: u, vs, rfl, ⟨hr, hu⟩, hv⟩
   ·obtain ⟨u, vs, rfl, hu, hv⟩ := (ch_star h1 c1 f1 l q (f1 q hf)).1 hc
    refine ⟨[], (q :: u) :: vs, rfl, hl, fun v hv' => ?_⟩
    rcases List.mem_cons.1 hv' with rfl | hv'
    ·exact ⟨by simp, hf, hu⟩
    ·exact hv v hv'
  ·rintro ⟨u, vs, e, hu, hv⟩
   cases u with
   | nil =>
    rw [List.nil_append] at e
    cases vs with
    | nil => cases e
    | cons v vs =>
     obtain ⟨hne, ha⟩ := hv v List.mem_cons_self
     cases v with
     | nil => exact absurd rfl hne
     | cons x v =>
      rw [List.flatten_cons, List.cons_append, List.cons.injEq] at e
      obtain ⟨rfl, rfl⟩ := e
      obtain ⟨hf, hc⟩ := ha
      exact ⟨(h1 p hp q).2 (.inr ⟨hu, hf⟩), (ch_star h1 c1 f1 _ q (f1 q hf)).2 ⟨v, vs, rfl, hc, fun y hy => hv y (List.mem_cons_of_mem _ hy)⟩⟩
   | cons x u =>
    rw [List.cons_append, List.cons.injEq] at e
    obtain ⟨rfl, rfl⟩ := e
    obtain ⟨hr, hu⟩ := hu
    exact ⟨(h1 p hp q).2 (.inl hr), (ch_star h1 c1 f1 _ q (c1 p q hp hr)).2 ⟨u, vs, rfl, hu, hv⟩⟩
def Star (A : List α → Prop) (w : List α) : Prop := ∃ vs : List (List α), w = vs.flatten ∧ ∀ v ∈ vs, A v
theorem flat_ne : ∀ vs : List (List α), ∃ us : List (List α), us.flatten = vs.flatten ∧ ∀ u ∈ us, u ≠ [] ∧ u ∈ vs
 | [] => ⟨[], rfl, fun _ h => by cases h⟩
 | v :: vs => by
  obtain ⟨us, e, h⟩ := flat_ne vs
  cases v with
  | nil => exact ⟨us, by rw [e]; rfl, fun u hu => ⟨(h u hu).1, List.mem_cons_of_mem _ (h u hu).2⟩⟩
  | cons x v =>
   refine ⟨(x :: v) :: us, by rw [List.flatten_cons, List.flatten_cons, e], fun u hu => ?_⟩
   rcases List.mem_cons.1 hu with rfl | hu
   ·exact ⟨by simp, List.mem_cons_self⟩
   ·exact ⟨(h u hu).1, List.mem_cons_of_mem _ (h u hu).2⟩
theorem acc_star (h1 : ∀ p, S p → ∀ q, (R p q ↔ R1 p q ∨ (L1 p ∧ F1 q))) (c1 : ∀ p q, S p → R1 p q → S q) (f1 : ∀ q, F1 q → S q) (ps : List α) : Acc True F1 L1 R ps ↔ Star (Acc em F1 L1 R1) ps := by
 constructor
 ·intro h
  cases ps with
  | nil => exact ⟨[], rfl, fun _ h => by cases h⟩
  | cons p l =>
   obtain ⟨hf, hc⟩ := h
   obtain ⟨u, vs, rfl, hu, hv⟩ := (ch_star (em := em) h1 c1 f1 l p (f1 p hf)).1 hc
   refine ⟨(p :: u) :: vs, rfl, fun v hv' => ?_⟩
   rcases List.mem_cons.1 hv' with rfl | hv'
   ·exact ⟨hf, hu⟩
   ·exact (hv v hv').2
 ·rintro ⟨ws, e, h⟩
  obtain ⟨vs, e2, hv⟩ := flat_ne ws
  rw [← e2] at e
  cases vs with
  | nil => subst e; trivial
  | cons v vs =>
   obtain ⟨hne, hm⟩ := hv v List.mem_cons_self
   have ha := h v hm
   cases v with
   | nil => exact absurd rfl hne
   | cons x v =>
    rw [List.flatten_cons, List.cons_append] at e
    subst e
    obtain ⟨hf, hc⟩ := ha
    exact ⟨hf, (ch_star (em := em) h1 c1 f1 _ x (f1 x hf)).2 ⟨v, vs, rfl, hc, fun y hy => ⟨(hv y (List.mem_cons_of_mem _ hy)).1, h y (hv y (List.mem_cons_of_mem _ hy)).2⟩⟩⟩
def Cat (A B : List α → Prop) (w : List α) : Prop := ∃ u v, w = u ++ v ∧ A u ∧ B v
theorem cat_map {β : Type} {A B : List β → Prop} {P Q : List α → Prop} {f : α → β} (hA : ∀ w, A w ↔ ∃ ps, w = ps.map f ∧ P ps) (hB : ∀ w, B w ↔ ∃ ps, w = ps.map f ∧ Q ps) (w : List β) : Cat A B w ↔ ∃ ps, w = ps.map f ∧ Cat P Q ps := by
 constructor
 ·rintro ⟨u, v, rfl, hu, hv⟩
  obtain ⟨p, rfl, hp⟩ := (hA u).1 hu
  obtain ⟨q, rfl, hq⟩ := (hB v).1 hv
  exact ⟨p ++ q, by rw [List.map_append], p, q, rfl, hp, hq⟩
 ·rintro ⟨_, rfl, p, q, rfl, hp, hq⟩
  exact ⟨p.map f, q.map f, by rw [List.map_append], (hA _).2 ⟨p, rfl, hp⟩, (hB _).2 ⟨q, rfl, hq⟩⟩
theorem star_map {β : Type} {A : List β → Prop} {P : List α → Prop} {f : α → β} (hA : ∀ w, A w ↔ ∃ ps, w = ps.map f ∧ P ps) (w : List β) : Star A w ↔ ∃ ps, w = ps.map f ∧ Star P ps := by
 constructor
 ·rintro ⟨ws, rfl, h⟩
  induction ws with
  | nil => exact ⟨[], rfl, [], rfl, fun _ h => by cases h⟩
  | cons w ws ih =>
   obtain ⟨p, rfl, hp⟩ := (hA w).1 (h w List.mem_cons_self)
   obtain ⟨q, hq, vs, rfl, hv⟩ := ih fun v hv => h v (List.mem_cons_of_mem _ hv)
   refine ⟨p ++ vs.flatten, by rw [List.flatten_cons, List.map_append, hq], p :: vs, rfl, fun v hv' => ?_⟩
   rcases List.mem_cons.1 hv' with rfl | hv'
   ·exact hp
   ·exact hv v hv'
 ·rintro ⟨_, rfl, vs, rfl, h⟩
  refine ⟨vs.map (List.map f), by rw [List.map_flatten], fun v hv => ?_⟩
  obtain ⟨q, hq, rfl⟩ := List.mem_map.1 hv
  exact (hA _).2 ⟨q, rfl, h q hq⟩
theorem star_star {A : List α → Prop} (w : List α) : Star (Star A) w ↔ Star A w := by
 constructor
 ·rintro ⟨ws, rfl, h⟩
  induction ws with
  | nil => exact ⟨[], rfl, fun _ h => by cases h⟩
  | cons w ws ih =>
   obtain ⟨us, rfl, hu⟩ := h w List.mem_cons_self
   obtain ⟨vs, e, hv⟩ := ih fun v hv => h v (List.mem_cons_of_mem _ hv)
   refine ⟨us ++ vs, by rw [List.flatten_cons, List.flatten_append, e], fun v hv' => ?_⟩
   rcases List.mem_append.1 hv' with h | h
   ·exact hu v h
   ·exact hv v h
 ·intro h
  exact ⟨[w], by simp, fun v hv => by
   rw [List.mem_singleton] at hv
   rw [hv]
   exact h⟩
theorem star_turn {A : List α → Prop} (w : List α) : Cat A (Star A) w ↔ Cat (Star A) A w := by
 constructor
 ·rintro ⟨u, v, rfl, hu, vs, rfl, hv⟩
  induction vs generalizing u with
  | nil => exact ⟨[], u, by simp, ⟨[], rfl, fun _ h => by cases h⟩, hu⟩
  | cons v vs ih =>
   obtain ⟨x, y, e, ⟨ws, rfl, hw⟩, hy⟩ := ih v (hv v List.mem_cons_self) fun v' h' => hv v' (List.mem_cons_of_mem _ h')
   refine ⟨u ++ ws.flatten, y, by rw [List.flatten_cons, e, List.append_assoc], ⟨u :: ws, rfl, fun z hz => ?_⟩, hy⟩
   rcases List.mem_cons.1 hz with rfl | hz
   ·exact hu
   ·exact hw z hz
 ·rintro ⟨u, v, rfl, ⟨us, rfl, hu⟩, hv⟩
  induction us with
  | nil => exact ⟨v, [], by simp, hv, [], rfl, fun _ h => by cases h⟩
  | cons u us ih =>
   obtain ⟨x, y, e, hx, ws, rfl, hw⟩ := ih fun z hz => hu z (List.mem_cons_of_mem _ hz)
   refine ⟨u, x ++ ws.flatten, by rw [List.flatten_cons, List.append_assoc, e], hu u List.mem_cons_self, x :: ws, rfl, fun z hz => ?_⟩
   rcases List.mem_cons.1 hz with rfl | hz
   ·exact hx
   ·exact hw z hz
end
end Go.Proofs.Ytapnmjeadbhffaa


namespace Go.Proofs.Ytapnmjeadbhffaa
set_option linter.unusedSimpArgs false
set_option linter.unusedVariables false
set_option maxRecDepth 100000
def Rln (N : Nat) (ns : List (List Int)) (p q : Int) : Prop := ∃ (i : Nat) (row : List Int), p = ((N + i : Nat) : Int) ∧ ns[i]? = some row ∧ q ∈ row
def Rg (N M : Nat) (p : Int) : Prop := (N : Int) ≤ p ∧ p < ((N + M : Nat) : Int)
theorem Rg.nat {N M : Nat} {p : Int} (h : Rg N M p) : ∃ i, i < M ∧ p = ((N + i : Nat) : Int) := by
 obtain ⟨h1, h2⟩ := h
 exact ⟨p.toNat - N, by omega, by omega⟩
theorem Rg.of {N M i : Nat} (h : i < M) : Rg N M ((N + i : Nat) : Int) := ⟨by omega, by omega⟩
theorem Rln_at {N i : Nat} {ns : List (List Int)} {q : Int} : Rln N ns ((N + i : Nat) : Int) q ↔ ∃ row, ns[i]? = some row ∧ q ∈ row := by
 constructor
 ·rintro ⟨j, row, e, h1, h2⟩
  have : i = j := by omega
  subst this
  exact ⟨row, h1, h2⟩
 ·rintro ⟨row, h1, h2⟩
  exact ⟨i, row, rfl, h1, h2⟩
structure Seg (N n : Nat) (S : List Int → Prop) (ls : List Int) (ns : List (List Int)) (e : RegularEnds) : Prop where
 len : ls.length = ns.length
 le : ls.length ≤ n
 lf : e.fFirst.length ≤ n
 ll : e.fLast.length ≤ n
 rf : ∀ p ∈ e.fFirst, Rg N ls.length p
 rl : ∀ p ∈ e.fLast, Rg N ls.length p
 rows : ∀ row ∈ ns, row.length ≤ n * 144000000 ∧ ∀ q ∈ row, Rg N ls.length q
 lang : ∀ lt : Int → Int, (∀ (i : Nat) x, ls[i]? = some x → lt ((N + i : Nat) : Int) = x) → ∀ w, S w ↔ ∃ ps, w = ps.map lt ∧ Acc (e.fEmpty = true) (· ∈ e.fFirst) (· ∈ e.fLast) (Rln N ns) ps
theorem Seg.mono {N n m : Nat} {S : List Int → Prop} {ls : List Int} {ns : List (List Int)} {e : RegularEnds} (h : Seg N n S ls ns e) (hm : n ≤ m) : Seg N m S ls ns e :=
 ⟨h.len, Nat.le_trans h.le hm, Nat.le_trans h.lf hm, Nat.le_trans h.ll hm, h.rf, h.rl, fun row hr => ⟨Nat.le_trans (h.rows row hr).1 (Nat.mul_le_mul_right _ hm), (h.rows row hr).2⟩, h.lang⟩
theorem Seg.congr {N n : Nat} {S T : List Int → Prop} {ls : List Int} {ns : List (List Int)} {e : RegularEnds} (h : Seg N n S ls ns e) (hT : ∀ w, T w ↔ S w) : Seg N n T ls ns e :=
 ⟨h.len, h.le, h.lf, h.ll, h.rf, h.rl, h.rows, fun lt hl w => (hT w).trans (h.lang lt hl w)⟩
theorem Seg.step {N n : Nat} {S : List Int → Prop} {ls : List Int} {ns : List (List Int)} {e : RegularEnds} (h : Seg N n S ls ns e) {p q : Int} (hr : Rln N ns p q) : Rg N ls.length q := by
 obtain ⟨i, row, rfl, h1, h2⟩ := hr
 exact (h.rows row (List.mem_of_getElem? h1)).2 q h2
theorem Rg.left {N M K : Nat} {p : Int} (h : Rg N M p) : Rg N (M + K) p := ⟨h.1, by have := h.2; omega⟩
theorem Rg.right {N M K : Nat} {p : Int} (h : Rg (N + M) K p) : Rg N (M + K) p := ⟨by have := h.1; omega, by have := h.2; omega⟩
theorem Rg.not {N M K : Nat} {p : Int} (h : Rg N M p) : ¬ Rg (N + M) K p := fun h2 => by
 have := h.2; have := h2.1; omega
theorem Rln_left {N : Nat} {ns ns2 : List (List Int)} {p q : Int} (h : Rg N ns.length p) : Rln N (ns ++ ns2) p q ↔ Rln N ns p q := by
 obtain ⟨i, hi, rfl⟩ := h.nat
 rw [Rln_at, Rln_at, List.getElem?_append_left hi]
theorem Rln_right {N : Nat} {ns ns2 : List (List Int)} {p q : Int} (h : Rg (N + ns.length) ns2.length p) : Rln N (ns ++ ns2) p q ↔ Rln (N + ns.length) ns2 p q := by
 obtain ⟨i, hi, rfl⟩ := h.nat
 rw [Rln_at, show N + ns.length + i = N + (ns.length + i) by omega, Rln_at, List.getElem?_append_right (by omega), show ns.length + i - ns.length = i by omega]
theorem seg_none {N : Nat} : Seg N 0 (fun _ => False) [] [] ⟨false, [], []⟩ := by
 refine ⟨rfl, Nat.le_refl _, Nat.le_refl _, Nat.le_refl _, fun _ h => (by cases h), fun _ h => (by cases h), fun _ h => (by cases h), fun lt _ w => ⟨fun h => h.elim, ?_⟩⟩
 rintro ⟨ps, _, h⟩
 cases ps with
 | nil => cases h
 | cons p l => cases h.1
theorem seg_empty {N : Nat} : Seg N 0 (fun w => w = []) [] [] ⟨true, [], []⟩ := by
 refine ⟨rfl, Nat.le_refl _, Nat.le_refl _, Nat.le_refl _, fun _ h => (by cases h), fun _ h => (by cases h), fun _ h => (by cases h), fun lt _ w => ⟨fun h => ⟨[], h, rfl⟩, ?_⟩⟩
 rintro ⟨ps, rfl, h⟩
 cases ps with
 | nil => rfl
 | cons p l => cases h.1
theorem seg_letter {N : Nat} (x : Int) : Seg N 1 (fun w => w = [x]) [x] [[]] ⟨false, [(N : Int)], [(N : Int)]⟩ := by
 have hN : Rg N 1 (N : Int) := ⟨by omega, by omega⟩
 refine ⟨rfl, Nat.le_refl _, Nat.le_refl _, Nat.le_refl _, fun p h => ?_, fun p h => ?_, fun row h => ?_, fun lt hl w => ⟨?_, ?_⟩⟩
 ·rw [List.mem_singleton] at h; subst h; exact hN
 ·rw [List.mem_singleton] at h; subst h; exact hN
 ·rw [List.mem_singleton] at h; subst h; exact ⟨Nat.zero_le _, fun q hq => by cases hq⟩
 ·rintro rfl
  refine ⟨[(N : Int)], ?_, List.mem_singleton.2 rfl, List.mem_singleton.2 rfl⟩
  have := hl 0 x rfl
  rw [Nat.add_zero] at this
  rw [List.map_cons, this]
  rfl
 ·rintro ⟨ps, rfl, h⟩
  cases ps with
  | nil => cases h
  | cons p l =>
   obtain ⟨h1, h2⟩ := h
   replace h1 := List.mem_singleton.1 h1
   subst h1
   cases l with
   | nil =>
    have := hl 0 x rfl
    rw [Nat.add_zero] at this
    rw [List.map_cons, this]
    rfl
   | cons q l =>
    obtain ⟨⟨i, row, e, hr, hq⟩, _⟩ := h2
    have hi : i = 0 := by omega
    subst hi
    cases hr
    cases hq
theorem seg_sum {N n m : Nat} {S T : List Int → Prop} {ls ls2 : List Int} {ns ns2 : List (List Int)} {e f : RegularEnds} (h1 : Seg N n S ls ns e) (h2 : Seg (N + ls.length) m T ls2 ns2 f) :
  Seg N (n + m) (fun w => S w ∨ T w) (ls ++ ls2) (ns ++ ns2) ⟨e.fEmpty || f.fEmpty, e.fFirst ++ f.fFirst, e.fLast ++ f.fLast⟩ := by
 have a1 := h1.len; have a2 := h2.len; have a3 := h1.le; have a4 := h2.le; have a5 := h1.lf; have a6 := h2.lf; have a7 := h1.ll; have a8 := h2.ll
 refine ⟨by simp only [List.length_append]; omega, by simp only [List.length_append]; omega, by simp only [List.length_append]; omega, by simp only [List.length_append]; omega, fun p h => ?_, fun p h => ?_, fun row h => ?_, fun lt hl w => ?_⟩
 ·rw [List.length_append]
  rcases List.mem_append.1 h with h | h
  ·exact (h1.rf p h).left
  ·exact (h2.rf p h).right
 ·rw [List.length_append]
  rcases List.mem_append.1 h with h | h
  ·exact (h1.rl p h).left
  ·exact (h2.rl p h).right
 ·rw [List.length_append]
  rcases List.mem_append.1 h with h | h
  ·exact ⟨Nat.le_trans (h1.rows row h).1 (Nat.mul_le_mul_right _ (by omega)), fun q hq => ((h1.rows row h).2 q hq).left⟩
  ·exact ⟨Nat.le_trans (h2.rows row h).1 (Nat.mul_le_mul_right _ (by omega)), fun q hq => ((h2.rows row h).2 q hq).right⟩
 ·have hl1 : ∀ (i : Nat) x, ls[i]? = some x → lt ((N + i : Nat) : Int) = x := fun i x hx => hl i x (by rw [List.getElem?_append_left (List.getElem?_eq_some_iff.1 hx).1]; exact hx)
  have hl2 : ∀ (i : Nat) x, ls2[i]? = some x → lt ((N + ls.length + i : Nat) : Int) = x := fun i x hx => by
   rw [show N + ls.length + i = N + (ls.length + i) by omega]
   exact hl _ x (by rw [List.getElem?_append_right (by omega), show ls.length + i - ls.length = i by omega]; exact hx)
  have key : ∀ ps, Acc ((e.fEmpty || f.fEmpty) = true) (· ∈ e.fFirst ++ f.fFirst) (· ∈ e.fLast ++ f.fLast) (Rln N (ns ++ ns2)) ps ↔ Acc (e.fEmpty = true) (· ∈ e.fFirst) (· ∈ e.fLast) (Rln N ns) ps ∨ Acc (f.fEmpty = true) (· ∈ f.fFirst) (· ∈ f.fLast) (Rln (N + ls.length) ns2) ps := by
   refine acc_sum (S1 := Rg N ls.length) (S2 := Rg (N + ls.length) ls2.length) (fun p hp q => ?_) (fun p hp q => ?_) (fun p q _ hr => h1.step hr) (fun p q _ hr => h2.step hr) h1.rf h2.rf (fun p hp => ?_) (fun p hp => ?_) (by rw [Bool.or_eq_true]) (fun p => List.mem_append)
   ·rw [a1] at hp
    exact Rln_left hp
   ·rw [a1, a2] at hp
    rw [a1]
    exact Rln_right hp
   ·exact ⟨fun h => (List.mem_append.1 h).elim id fun h => absurd (h2.rl p h) hp.not, fun h => List.mem_append.2 (.inl h)⟩
   ·exact ⟨fun h => (List.mem_append.1 h).elim (fun h => absurd hp (h1.rl p h).not) id, fun h => List.mem_append.2 (.inr h)⟩
  rw [h1.lang lt hl1 w, h2.lang lt hl2 w]
  constructor
  ·rintro (⟨ps, e1, h⟩ | ⟨ps, e1, h⟩)
   ·exact ⟨ps, e1, (key ps).2 (.inl h)⟩
   ·exact ⟨ps, e1, (key ps).2 (.inr h)⟩
  ·rintro ⟨ps, e1, h⟩
   rcases (key ps).1 h with h | h
   ·exact .inl ⟨ps, e1, h⟩
   ·exact .inr ⟨ps, e1, h⟩
def Tied (N : Nat) (la fi : List Int) (ns ns' : List (List Int)) : Prop := ns'.length = ns.length ∧ ∀ (i : Nat) row', ns'[i]? = some row' → ∃ row, ns[i]? = some row ∧ row'.length ≤ row.length + 144000000 ∧ ∀ q, q ∈ row' ↔ q ∈ row ∨ (((N + i : Nat) : Int) ∈ la ∧ q ∈ fi)
theorem Tied.rl {N : Nat} {la fi : List Int} {ns ns' : List (List Int)} (h : Tied N la fi ns ns') {p : Int} (hp : Rg N ns.length p) (q : Int) : Rln N ns' p q ↔ Rln N ns p q ∨ (p ∈ la ∧ q ∈ fi) := by
 obtain ⟨i, hi, rfl⟩ := hp.nat
 rw [Rln_at, Rln_at]
 obtain ⟨hl, h⟩ := h
 have hi' : i < ns'.length := by omega
 obtain ⟨row, h1, _, h2⟩ := h i ns'[i] (List.getElem?_eq_getElem hi')
 constructor
 ·rintro ⟨row', e, hq⟩
  rw [List.getElem?_eq_getElem hi'] at e
  cases e
  exact ((h2 q).1 hq).imp (fun h => ⟨row, h1, h⟩) id
 ·intro hq
  refine ⟨ns'[i], List.getElem?_eq_getElem hi', (h2 q).2 (hq.imp (fun h => ?_) id)⟩
  obtain ⟨row2, e, h⟩ := h
  rw [h1] at e
  cases e
  exact h
theorem seg_row {N n m : Nat} {S T : List Int → Prop} {ls ls2 : List Int} {ns ns2 nt : List (List Int)} {e f : RegularEnds} (h1 : Seg N n S ls ns e) (h2 : Seg (N + ls.length) m T ls2 ns2 f) (ht : Tied N e.fLast f.fFirst (ns ++ ns2) nt) (hn : 1 ≤ n) (hm : 1 ≤ m) :
  Seg N (n + m) (Cat S T) (ls ++ ls2) nt (bhdR e f) := by
 have a1 := h1.len; have a2 := h2.len; have a3 := h1.le; have a4 := h2.le; have a5 := h1.lf; have a6 := h2.lf; have a7 := h1.ll; have a8 := h2.ll
 have hlen := ht.1
 rw [List.length_append] at hlen
 have mF : ∀ p, p ∈ (bhdR e f).fFirst ↔ p ∈ e.fFirst ∨ (e.fEmpty = true ∧ p ∈ f.fFirst) := fun p => by
  unfold bhdR
  by_cases hb : e.fEmpty = true
  ·simp [hb]
  ·simp [hb]
 have mL : ∀ p, p ∈ (bhdR e f).fLast ↔ p ∈ f.fLast ∨ (f.fEmpty = true ∧ p ∈ e.fLast) := fun p => by
  unfold bhdR
  by_cases hb : f.fEmpty = true
  ·simp [hb]
  ·simp [hb]
 refine ⟨by simp only [List.length_append]; omega, by simp only [List.length_append]; omega, ?_, ?_, fun p h => ?_, fun p h => ?_, fun row h => ?_, fun lt hl w => ?_⟩
 ·show (if e.fEmpty = true then e.fFirst ++ f.fFirst else e.fFirst).length ≤ n + m
  split <;> (try rw [List.length_append]) <;> omega
 ·show (if f.fEmpty = true then f.fLast ++ e.fLast else f.fLast).length ≤ n + m
  split <;> (try rw [List.length_append]) <;> omega
 ·rw [List.length_append]
  rcases (mF p).1 h with h | ⟨_, h⟩
  ·exact (h1.rf p h).left
  ·exact (h2.rf p h).right
 ·rw [List.length_append]
  rcases (mL p).1 h with h | ⟨_, h⟩
  ·exact (h2.rl p h).right
  ·exact (h1.rl p h).left
 ·rw [List.length_append]
  obtain ⟨i, hi⟩ := List.getElem?_of_mem h
  obtain ⟨row0, e0, hle, hq⟩ := ht.2 i row hi
  have hr0 : row0.length + 144000000 ≤ (n + m) * 144000000 ∧ ∀ q ∈ row0, Rg N (ls.length + ls2.length) q := by
   rcases List.mem_append.1 (List.mem_of_getElem? e0) with h | h
   ·obtain ⟨k1, k2⟩ := h1.rows row0 h
    exact ⟨by omega, fun q hq => (k2 q hq).left⟩
   ·obtain ⟨k1, k2⟩ := h2.rows row0 h
    exact ⟨by omega, fun q hq => (k2 q hq).right⟩
  refine ⟨by omega, fun q hq2 => ?_⟩
  rcases (hq q).1 hq2 with h | ⟨_, h⟩
  ·exact hr0.2 q h
  ·exact (h2.rf q h).right
 ·have hl1 : ∀ (i : Nat) x, ls[i]? = some x → lt ((N + i : Nat) : Int) = x := fun i x hx => hl i x (by rw [List.getElem?_append_left (List.getElem?_eq_some_iff.1 hx).1]; exact hx)
  have hl2 : ∀ (i : Nat) x, ls2[i]? = some x → lt ((N + ls.length + i : Nat) : Int) = x := fun i x hx => by
   rw [show N + ls.length + i = N + (ls.length + i) by omega]
   exact hl _ x (by rw [List.getElem?_append_right (by omega), show ls.length + i - ls.length = i by omega]; exact hx)
  have key : ∀ ps, Acc ((bhdR e f).fEmpty = true) (· ∈ (bhdR e f).fFirst) (· ∈ (bhdR e f).fLast) (Rln N nt) ps ↔ Cat (Acc (e.fEmpty = true) (· ∈ e.fFirst) (· ∈ e.fLast) (Rln N ns)) (Acc (f.fEmpty = true) (· ∈ f.fFirst) (· ∈ f.fLast) (Rln (N + ls.length) ns2)) ps := by
   refine acc_row (S1 := Rg N ls.length) (S2 := Rg (N + ls.length) ls2.length) (fun p hp q => ?_) (fun p hp q => ?_) (fun p q _ hr => h1.step hr) (fun p q _ hr => h2.step hr) h1.rf h2.rf (fun p hp => ?_) (fun p hp => ?_) ?_ mF
   ·have hp2 := hp
    rw [a1] at hp2
    rw [ht.rl (by rw [List.length_append]; exact hp2.left), Rln_left hp2]
   ·have hp2 := hp
    rw [a1, a2] at hp2
    rw [ht.rl (by rw [List.length_append]; exact hp2.right), Rln_right hp2, a1]
    exact ⟨fun h => h.elim id fun h => absurd hp (h1.rl p h.1).not, .inl⟩
   ·rw [mL]
    exact ⟨fun h => h.elim (fun h => absurd (h2.rl p h) hp.not) id, .inr⟩
   ·rw [mL]
    exact ⟨fun h => h.elim id fun h => absurd hp (h1.rl p h.2).not, .inl⟩
   ·unfold bhdR
    simp only [Bool.and_eq_true]
  rw [cat_map (fun w => h1.lang lt hl1 w) (fun w => h2.lang lt hl2 w) w]
  constructor
  ·rintro ⟨ps, e1, h⟩
   exact ⟨ps, e1, (key ps).2 h⟩
  ·rintro ⟨ps, e1, h⟩
   exact ⟨ps, e1, (key ps).1 h⟩
theorem seg_star {N n : Nat} {S : List Int → Prop} {ls : List Int} {ns nt : List (List Int)} {e : RegularEnds} (h1 : Seg N n S ls ns e) (ht : Tied N e.fLast e.fFirst ns nt) : Seg N (n + 1) (Star S) ls nt ⟨true, e.fFirst, e.fLast⟩ := by
 have a1 := h1.len; have a3 := h1.le; have a5 := h1.lf; have a7 := h1.ll
 have hlen := ht.1
 refine ⟨by omega, by omega, by show e.fFirst.length ≤ _; omega, by show e.fLast.length ≤ _; omega, h1.rf, h1.rl, fun row h => ?_, fun lt hl w => ?_⟩
 ·obtain ⟨i, hi⟩ := List.getElem?_of_mem h
  obtain ⟨row0, e0, hle, hq⟩ := ht.2 i row hi
  obtain ⟨k1, k2⟩ := h1.rows row0 (List.mem_of_getElem? e0)
  refine ⟨by omega, fun q hq2 => ?_⟩
  rcases (hq q).1 hq2 with h | ⟨_, h⟩
  ·exact k2 q h
  ·exact h1.rf q h
 ·have key : ∀ ps, Acc (true = true) (· ∈ e.fFirst) (· ∈ e.fLast) (Rln N nt) ps ↔ Star (Acc (e.fEmpty = true) (· ∈ e.fFirst) (· ∈ e.fLast) (Rln N ns)) ps := by
   intro ps
   rw [show (true = true) = True from eq_self _]
   refine acc_star (S := Rg N ls.length) (fun p hp q => ?_) (fun p q _ hr => h1.step hr) h1.rf ps
   rw [a1] at hp
   exact ht.rl hp q
  rw [star_map (fun w => h1.lang lt hl w) w]
  constructor
  ·rintro ⟨ps, e1, h⟩
   exact ⟨ps, e1, (key ps).2 h⟩
  ·rintro ⟨ps, e1, h⟩
   exact ⟨ps, e1, (key ps).1 h⟩
theorem tie_ok {nxt : List (List Int)} {fi : List Int} : ∀ (la : List Int) (ns : List (List Int)) (D : Nat), (∀ p ∈ la, Rg nxt.length ns.length p) → (∀ row ∈ ns, row.length ≤ D) → D + la.length * fi.length ≤ 4000000000000 →
  ∃ nt, tieS la fi (nxt ++ ns) = some (nxt ++ nt) ∧ nt.length = ns.length ∧ ∀ (i : Nat) row', nt[i]? = some row' → ∃ row, ns[i]? = some row ∧ row'.length ≤ row.length + la.length * fi.length ∧ ∀ q, q ∈ row' ↔ q ∈ row ∨ (((nxt.length + i : Nat) : Int) ∈ la ∧ q ∈ fi)
 | [], ns, D, _, _, _ => ⟨ns, rfl, rfl, fun i row' h => ⟨row', h, Nat.le_add_right _ _, fun q => ⟨.inl, fun h => h.elim id fun h => by cases h.1⟩⟩⟩
 | a :: la, ns, D, hla, hD, hb => by
  obtain ⟨j, hj, rfl⟩ := (hla a List.mem_cons_self).nat
  have hm : (la.length + 1) * fi.length = la.length * fi.length + fi.length := Nat.succ_mul _ _
  rw [List.length_cons, hm] at hb
  have hDj : ns[j].length ≤ D := hD _ (List.getElem_mem hj)
  have hix : idx (nxt ++ ns) ((nxt.length + j : Nat) : Int) = some ns[j] := by
   unfold idx
   rw [if_pos (Int.natCast_nonneg _), Int.toNat_natCast, List.getElem?_append_right (by omega), show nxt.length + j - nxt.length = j by omega, List.getElem?_eq_getElem hj]
  have hset : (nxt ++ ns).set ((nxt.length + j : Nat) : Int).toNat (ns[j] ++ fi) = nxt ++ ns.set j (ns[j] ++ fi) := by
   rw [Int.toNat_natCast, List.set_append_right _ _ (by omega), show nxt.length + j - nxt.length = j by omega]
  obtain ⟨nt, e, hl, h⟩ := tie_ok (nxt := nxt) (fi := fi) la (ns.set j (ns[j] ++ fi)) (D + fi.length) (fun p hp => by rw [List.length_set]; exact hla p (List.mem_cons_of_mem _ hp)) (fun row hr => by
   rcases List.mem_or_eq_of_mem_set hr with hr | rfl
   ·have := hD row hr
    omega
   ·rw [List.length_append]
    omega) (by omega)
  refine ⟨nt, ?_, by rw [hl, List.length_set], fun i row' hi => ?_⟩
  ·rw [tieS, hix]
   simp only
   rw [if_pos (by omega), hset]
   exact e
  ·obtain ⟨row, hr, hle, hq⟩ := h i row' hi
   rw [List.length_cons, hm]
   rw [List.getElem?_set] at hr
   by_cases hji : j = i
   ·subst hji
    rw [if_pos rfl, if_pos hj] at hr
    cases hr
    refine ⟨ns[j], List.getElem?_eq_getElem hj, by rw [List.length_append] at hle; omega, fun q => ?_⟩
    rw [hq, List.mem_append, List.mem_cons]
    constructor
    ·rintro ((h | h) | ⟨h1, h2⟩)
     ·exact .inl h
     ·exact .inr ⟨.inl rfl, h⟩
     ·exact .inr ⟨.inr h1, h2⟩
    ·rintro (h | ⟨h | h1, h2⟩)
     ·exact .inl (.inl h)
     ·exact .inl (.inr h2)
     ·exact .inr ⟨h1, h2⟩
   ·rw [if_neg hji] at hr
    refine ⟨row, hr, by omega, fun q => ?_⟩
    rw [hq, List.mem_cons]
    constructor
    ·rintro (h | ⟨h1, h2⟩)
     ·exact .inl h
     ·exact .inr ⟨.inr h1, h2⟩
    ·rintro (h | ⟨h | h1, h2⟩)
     ·exact .inl h
     ·exact absurd h (by omega)
     ·exact .inr ⟨h1, h2⟩
theorem tied_of {nxt ns : List (List Int)} {la fi : List Int} (hla : ∀ p ∈ la, Rg nxt.length ns.length p) (hr : ∀ row ∈ ns, row.length ≤ 3000000000000) (h1 : la.length ≤ 12000) (h2 : fi.length ≤ 12000) : ∃ nt, tieS la fi (nxt ++ ns) = some (nxt ++ nt) ∧ Tied nxt.length la fi ns nt := by
 have hm : la.length * fi.length ≤ 144000000 := Nat.le_trans (Nat.mul_le_mul h1 h2) (by decide)
 obtain ⟨nt, e, hl, h⟩ := tie_ok (nxt := nxt) (fi := fi) la ns 3000000000000 hla hr (by omega)
 refine ⟨nt, e, hl, fun i row' hi => ?_⟩
 obtain ⟨row, k1, k2, k3⟩ := h i row' hi
 exact ⟨row, k1, by omega, k3⟩
def eithSem (f : RTr → List Int → Prop) : List RTr → (List Int → Prop) → List Int → Prop
 | [], S => S
 | x :: xs, S => eithSem f xs fun w => S w ∨ f x w
def rowSem (f : RTr → List Int → Prop) : List RTr → (List Int → Prop) → List Int → Prop
 | [], S => S
 | x :: xs, S => rowSem f xs (Cat S (f x))
def sem : Nat → RTr → List Int → Prop
 | 0, _ => fun _ => False
 | k + 1, .node a kids =>
  if a.fKind = 0 then fun _ => False
  else if a.fKind = 1 then fun w => w = []
  else if a.fKind = 2 then fun w => w = [a.fLetter]
  else if a.fKind = 3 then eithSem (sem k) kids fun _ => False
  else match kids with
   | [] => fun _ => False
   | x :: xs => if a.fKind = 4 then rowSem (sem k) xs (sem k x) else Star (sem k x)
def SzL (f : Nat → RTr → Prop) : Nat → List RTr → Prop
 | _, [] => True
 | n, x :: xs => ∃ i j, i + j ≤ n ∧ 1 ≤ i ∧ f i x ∧ SzL f j xs
def Sz : Nat → Nat → RTr → Prop
 | 0, _, _ => False
 | k + 1, n, .node a kids => 1 ≤ n ∧ (a.fKind = 0 ∨ a.fKind = 1 ∨ a.fKind = 2 ∨ a.fKind = 3 ∨ kids ≠ []) ∧ SzL (Sz k) (n - 1) kids
theorem szL_len {f : Nat → RTr → Prop} : ∀ {xs : List RTr} {n : Nat}, SzL f n xs → xs.length ≤ n
 | [], n, _ => Nat.zero_le _
 | x :: xs, n, h => by
  obtain ⟨i, j, h1, h2, _, h3⟩ := h
  have := szL_len h3
  rw [List.length_cons]
  omega
theorem eith_ok {k : Nat} {lets : List Int} {nxt : List (List Int)} (hN : lets.length = nxt.length) (ih : ∀ (n : Nat) (t : RTr) (lets : List Int) (nxt : List (List Int)), Sz k n t → lets.length = nxt.length → lets.length + n ≤ 12000 → ∃ e ls ns, lookS k t lets nxt = some (e, lets ++ ls, nxt ++ ns) ∧ Seg lets.length n (sem k t) ls ns e) :
  ∀ (xs : List RTr) (n m : Nat) (S : List Int → Prop) (ls : List Int) (ns : List (List Int)) (e : RegularEnds), Seg lets.length n S ls ns e → SzL (Sz k) m xs → lets.length + (n + m) ≤ 12000 →
  ∃ e' ls' ns', eithL (lookS k) xs e (lets ++ ls) (nxt ++ ns) = some (e', lets ++ ls', nxt ++ ns') ∧ Seg lets.length (n + m) (eithSem (sem k) xs S) ls' ns' e'
 | [], n, m, S, ls, ns, e, h, _, _ => ⟨e, ls, ns, rfl, h.mono (Nat.le_add_right _ _)⟩
 | x :: xs, n, m, S, ls, ns, e, h, hz, hb => by
  obtain ⟨i, j, hij, hi, hx, hxs⟩ := hz
  have a1 := h.len; have a2 := h.le; have a3 := h.lf; have a4 := h.ll
  obtain ⟨f, l2, n2, e1, h2⟩ := ih i x (lets ++ ls) (nxt ++ ns) hx (by simp only [List.length_append]; omega) (by simp only [List.length_append]; omega)
  rw [List.length_append] at h2
  have b3 := h2.lf; have b4 := h2.ll
  obtain ⟨e', ls', ns', e3, h3⟩ := eith_ok hN ih xs (n + i) j _ _ _ _ (seg_sum h h2) hxs (by omega)
  refine ⟨e', ls', ns', ?_, h3.mono (by omega)⟩
  rw [eithL, e1]
  simp only
  rw [if_pos ⟨by omega, by omega⟩, List.append_assoc, List.append_assoc]
  exact e3
theorem row_ok {k : Nat} {lets : List Int} {nxt : List (List Int)} (hN : lets.length = nxt.length) (ih : ∀ (n : Nat) (t : RTr) (lets : List Int) (nxt : List (List Int)), Sz k n t → lets.length = nxt.length → lets.length + n ≤ 12000 → ∃ e ls ns, lookS k t lets nxt = some (e, lets ++ ls, nxt ++ ns) ∧ Seg lets.length n (sem k t) ls ns e) :
  ∀ (xs : List RTr) (n m : Nat) (S : List Int → Prop) (ls : List Int) (ns : List (List Int)) (e : RegularEnds), 1 ≤ n → Seg lets.length n S ls ns e → SzL (Sz k) m xs → lets.length + (n + m) ≤ 12000 →
  ∃ e' ls' ns', rowK (lookS k) xs e (lets ++ ls) (nxt ++ ns) = some (e', lets ++ ls', nxt ++ ns') ∧ Seg lets.length (n + m) (rowSem (sem k) xs S) ls' ns' e'
 | [], n, m, S, ls, ns, e, _, h, _, _ => ⟨e, ls, ns, rfl, h.mono (Nat.le_add_right _ _)⟩
 | x :: xs, n, m, S, ls, ns, e, hn, h, hz, hb => by
  obtain ⟨i, j, hij, hi, hx, hxs⟩ := hz
  have a1 := h.len; have a2 := h.le; have a3 := h.lf; have a4 := h.ll
  obtain ⟨f, l2, n2, e1, h2⟩ := ih i x (lets ++ ls) (nxt ++ ns) hx (by simp only [List.length_append]; omega) (by simp only [List.length_append]; omega)
  rw [List.length_append] at h2
  have b1 := h2.len; have b2 := h2.le; have b3 := h2.lf; have b4 := h2.ll
  obtain ⟨nt, e2, ht⟩ := tied_of (nxt := nxt) (ns := ns ++ n2) (la := e.fLast) (fi := f.fFirst) (fun p hp => by
   have := h.rl p hp
   rw [← hN, List.length_append, ← a1]
   exact this.left) (fun row hr => by
   rcases List.mem_append.1 hr with hr | hr
   ·have := (h.rows row hr).1
    omega
   ·have := (h2.rows row hr).1
    omega) (by omega) (by omega)
  rw [← hN] at ht
  obtain ⟨e', ls', ns', e3, h3⟩ := row_ok hN ih xs (n + i) j _ _ _ _ (by omega) (seg_row h h2 ht hn hi) hxs (by omega)
  refine ⟨e', ls', ns', ?_, h3.mono (by omega)⟩
  rw [rowK, e1]
  simp only
  rw [List.append_assoc nxt, e2]
  simp only
  rw [if_pos ⟨by omega, by omega⟩, List.append_assoc]
  exact e3
theorem look_ok : ∀ (k n : Nat) (t : RTr) (lets : List Int) (nxt : List (List Int)), Sz k n t → lets.length = nxt.length → lets.length + n ≤ 12000 → ∃ e ls ns, lookS k t lets nxt = some (e, lets ++ ls, nxt ++ ns) ∧ Seg lets.length n (sem k t) ls ns e
 | 0, _, _, _, _, h, _, _ => h.elim
 | k + 1, n, .node a kids, lets, nxt, hz, hN, hb => by
  obtain ⟨hn, hk, hs⟩ := hz
  have hlen := szL_len hs
  unfold lookS sem
  rw [if_neg (by omega)]
  by_cases k0 : a.fKind = 0
  ·rw [if_pos k0, if_pos k0]
   exact ⟨_, [], [], by simp only [List.append_nil], seg_none.mono (Nat.zero_le _)⟩
  rw [if_neg k0, if_neg k0]
  by_cases k1 : a.fKind = 1
  ·rw [if_pos k1, if_pos k1]
   exact ⟨_, [], [], by simp only [List.append_nil], seg_empty.mono (Nat.zero_le _)⟩
  rw [if_neg k1, if_neg k1]
  by_cases k2 : a.fKind = 2
  ·rw [if_pos k2, if_pos k2, if_pos ⟨by omega, by omega⟩]
   exact ⟨_, _, _, rfl, (seg_letter a.fLetter).mono hn⟩
  rw [if_neg k2, if_neg k2]
  by_cases k3 : a.fKind = 3
  ·rw [if_pos k3, if_pos k3]
   obtain ⟨e, ls, ns, e1, h⟩ := eith_ok hN (fun n t lets nxt => look_ok k n t lets nxt) kids 0 (n - 1) (fun _ => False) [] [] _ seg_none hs (by omega)
   rw [List.append_nil, List.append_nil] at e1
   exact ⟨e, ls, ns, e1, h.mono (by omega)⟩
  rw [if_neg k3, if_neg k3]
  cases kids with
  | nil => simp [k0, k1, k2, k3] at hk
  | cons x xs =>
   obtain ⟨i, j, hij, hi, hx, hxs⟩ := hs
   obtain ⟨e, ls, ns, e1, h⟩ := look_ok k i x lets nxt hx hN (by omega)
   have a1 := h.len; have a2 := h.le; have a3 := h.lf; have a4 := h.ll
   simp only [e1]
   by_cases k4 : a.fKind = 4
   ·rw [if_pos k4, if_pos k4]
    obtain ⟨e', ls', ns', e2, h2⟩ := row_ok hN (fun n t lets nxt => look_ok k n t lets nxt) xs i j _ ls ns e hi h hxs (by omega)
    exact ⟨e', ls', ns', e2, h2.mono (by omega)⟩
   ·rw [if_neg k4, if_neg k4]
    obtain ⟨nt, e2, ht⟩ := tied_of (nxt := nxt) (ns := ns) (la := e.fLast) (fi := e.fFirst) (fun p hp => by
     have := h.rl p hp
     rw [← hN, ← a1]
     exact this) (fun row hr => by
     have := (h.rows row hr).1
     omega) (by omega) (by omega)
    rw [← hN] at ht
    rw [e2]
    exact ⟨_, ls, nt, rfl, (seg_star h ht).mono (by omega)⟩
end Go.Proofs.Ytapnmjeadbhffaa


namespace Go.Proofs.Ytapnmjeadbhffaa
set_option linter.unusedSimpArgs false
set_option linter.unusedVariables false
set_option maxRecDepth 100000
theorem sets_ok : ∀ (la : List Int) (g : List Bool), (∀ p ∈ la, 0 ≤ p ∧ p < (g.length : Int)) → ∃ g', setsS la g = some g' ∧ g'.length = g.length ∧ ∀ i : Nat, g'[i]? = some true ↔ (g[i]? = some true ∨ ((i : Int) ∈ la))
 | [], g, _ => ⟨g, rfl, rfl, fun i => ⟨.inl, fun h => h.elim id fun h => by cases h⟩⟩
 | a :: la, g, h => by
  obtain ⟨h0, h1⟩ := h a List.mem_cons_self
  obtain ⟨j, rfl⟩ : ∃ j : Nat, a = j := ⟨a.toNat, by omega⟩
  have hj : j < g.length := by omega
  obtain ⟨g', e, hl, hi⟩ := sets_ok la (g.set j true) fun p hp => by
   rw [List.length_set]
   exact h p (List.mem_cons_of_mem _ hp)
  refine ⟨g', ?_, by rw [hl, List.length_set], fun i => ?_⟩
  ·rw [setsS, idx_at hj]
   exact e
  ·rw [hi, List.getElem?_set, List.mem_cons]
   by_cases hji : j = i
   ·subst hji
    rw [if_pos rfl, if_pos hj]
    exact ⟨fun _ => .inr (.inl rfl), fun _ => .inl rfl⟩
   ·rw [if_neg hji]
    exact ⟨fun h => h.imp id .inr, fun h => h.imp id fun h => h.elim (fun h => absurd h (by omega)) id⟩
structure MachOk (k n : Nat) (t : RTr) (e : RegularEnds) (ls : List Int) (ns : List (List Int)) (good : List Bool) : Prop where
 seg : Seg 0 n (sem k t) ls ns e
 mach : machS k t = some (⟨ls, ns ++ [e.fFirst]⟩, good)
 len : good.length = ls.length + 1
 good : ∀ i : Nat, good[i]? = some true ↔ ((i : Int) ∈ e.fLast) ∨ (i = ls.length ∧ e.fEmpty = true)
theorem mach_ok {k n : Nat} {t : RTr} (hz : Sz k n t) (hn : n ≤ 12000) : ∃ e ls ns good, MachOk k n t e ls ns good := by
 obtain ⟨e, ls, ns, e1, h⟩ := look_ok k n t [] [] hz rfl (by simpa using hn)
 rw [List.nil_append, List.nil_append] at e1
 simp only [List.length_nil] at h
 have a1 := h.len; have a2 := h.le; have a3 := h.lf; have a4 := h.ll
 have hrep : (List.replicate (ls.length + 1) false).length = ls.length + 1 := List.length_replicate
 obtain ⟨g, e2, hl, hg⟩ := sets_ok e.fLast (List.replicate (ls.length + 1) false) fun p hp => by
  have := h.rl p hp
  obtain ⟨k1, k2⟩ := this
  rw [hrep]
  omega
 rw [hrep] at hl
 refine ⟨e, ls, ns, g.set ls.length e.fEmpty, h, ?_, by rw [List.length_set, hl], fun i => ?_⟩
 ·unfold machS
  rw [e1]
  simp only
  rw [if_neg (by omega), e2]
  simp only
  rw [idx_at (show ls.length < g.length by omega)]
 ·rw [List.getElem?_set]
  by_cases hi : ls.length = i
  ·subst hi
   rw [if_pos rfl, if_pos (by omega)]
   constructor
   ·intro hh
    exact .inr ⟨rfl, Option.some.inj hh⟩
   ·rintro (hh | ⟨_, hh⟩)
    ·have := (h.rl _ hh).2
     omega
    ·rw [hh]
  ·rw [if_neg hi, hg]
   constructor
   ·rintro (hh | hh)
    ·rw [List.getElem?_replicate] at hh
     split at hh <;> cases hh
    ·exact .inl hh
   ·rintro (hh | ⟨hh, _⟩)
    ·exact .inr hh
    ·exact absurd hh.symm hi
theorem bit_or {a b i : Nat} : (a ||| b).testBit i = true ↔ a.testBit i = true ∨ b.testBit i = true := by
 rw [Nat.testBit_or, Bool.or_eq_true]
theorem bit_pow {n i : Nat} : (2 ^ n).testBit i = true ↔ i = n := by
 rw [Nat.testBit_two_pow, decide_eq_true_eq]
 exact eq_comm
theorem or_lt {a b : Nat} (ha : a < 2 ^ 62) (hb : b < 2 ^ 62) : a ||| b < 2 ^ 62 := Nat.or_lt_two_pow ha hb
theorem pow_lt62 {n : Nat} (h : n < 62) : 2 ^ n < 2 ^ 62 := Nat.pow_lt_pow_right (by decide) h
theorem gone1_ok {p : RegularPlaces} {a : Int} (hL : p.fLetters.length ≤ 10) : ∀ (l : List Int) (tt : Nat), (∀ q ∈ l, Rg 0 p.fLetters.length q) → tt < 2 ^ 62 → ∃ t' : Nat, gone1 p a l (tt : Int) = some (t' : Int) ∧ t' < 2 ^ 62 ∧ ∀ i : Nat, t'.testBit i = true ↔ tt.testBit i = true ∨ ((i : Int) ∈ l ∧ p.fLetters[i]? = some a)
 | [], tt, _, ht => ⟨tt, rfl, ht, fun i => ⟨.inl, fun h => h.elim id fun h => by cases h.1⟩⟩
 | q :: l, tt, hq, ht => by
  obtain ⟨j, hj, rfl⟩ := (hq q List.mem_cons_self).nat
  rw [Nat.zero_add] at *
  have hl : ∀ q ∈ l, Rg 0 p.fLetters.length q := fun q h => hq q (List.mem_cons_of_mem _ h)
  rw [gone1, idx_at hj]
  simp only
  by_cases hb : (p.fLetters[j] == a) = true
  ·rw [if_pos hb]
   have hb' : p.fLetters[j] = a := beq_iff_eq.1 hb
   rw [Int.toNat_natCast, bshl (show j < 62 by omega), bor ht (pow_lt62 (show j < 62 by omega))]
   obtain ⟨t', e, h1, h2⟩ := gone1_ok hL l (tt ||| 2 ^ j) hl (or_lt ht (pow_lt62 (by omega)))
   refine ⟨t', e, h1, fun i => ?_⟩
   rw [h2, bit_or, bit_pow, List.mem_cons]
   constructor
   ·rintro ((h | h) | ⟨h, h'⟩)
    ·exact .inl h
    ·subst h
     exact .inr ⟨.inl rfl, by rw [List.getElem?_eq_getElem hj, hb']⟩
    ·exact .inr ⟨.inr h, h'⟩
   ·rintro (h | ⟨h | h, h'⟩)
    ·exact .inl (.inl h)
    ·exact .inl (.inr (by omega))
    ·exact .inr ⟨h, h'⟩
  ·rw [if_neg hb]
   obtain ⟨t', e, h1, h2⟩ := gone1_ok hL l tt hl ht
   refine ⟨t', e, h1, fun i => ?_⟩
   rw [h2, List.mem_cons]
   constructor
   ·rintro (h | ⟨h, h'⟩)
    ·exact .inl h
    ·exact .inr ⟨.inr h, h'⟩
   ·rintro (h | ⟨h | h, h'⟩)
    ·exact .inl h
    ·have hij : i = j := by omega
     subst hij
     rw [List.getElem?_eq_getElem hj] at h'
     exact absurd (beq_iff_eq.2 (Option.some.inj h')) hb
    ·exact .inr ⟨h, h'⟩
def PlOk (p : RegularPlaces) (K : Nat) : Prop := p.fLetters.length ≤ 10 ∧ K ≤ 11 ∧ p.fNext.length = K ∧ ∀ row ∈ p.fNext, row.length ≤ 4611686018427387904 ∧ ∀ q ∈ row, Rg 0 p.fLetters.length q
theorem gone2_ok {p : RegularPlaces} {K : Nat} {a : Int} (hp : PlOk p K) {s : Nat} (hs : s < 2 ^ 62) : ∀ (m x tt : Nat), x + m = K → tt < 2 ^ 62 → ∃ t' : Nat, gone2 p (s : Int) a m x (tt : Int) = some (t' : Int) ∧ t' < 2 ^ 62 ∧ ∀ i : Nat, t'.testBit i = true ↔ tt.testBit i = true ∨ ∃ k row, x ≤ k ∧ s.testBit k = true ∧ p.fNext[k]? = some row ∧ (i : Int) ∈ row ∧ p.fLetters[i]? = some a
 | 0, x, tt, hx, ht => ⟨tt, rfl, ht, fun i => ⟨.inl, fun h => h.elim id fun ⟨k, row, h1, _, h2, _⟩ => by
   have := (List.getElem?_eq_some_iff.1 h2).1
   have := hp.2.2.1
   omega⟩⟩
 | m + 1, x, tt, hx, ht => by
  obtain ⟨hL, hK, hlen, hrow⟩ := hp
  rw [gone2, Int.toNat_natCast, btest hs (show x ≤ 64 by omega)]
  have hxl : x < p.fNext.length := by omega
  by_cases hb : s.testBit x = true
  ·rw [if_pos hb, if_neg (by decide), idx_at hxl]
   simp only
   obtain ⟨hr1, hr2⟩ := hrow _ (List.getElem_mem hxl)
   rw [if_neg (by omega)]
   obtain ⟨t1, e1, h1, h2⟩ := gone1_ok (p := p) (a := a) hL p.fNext[x] tt hr2 ht
   rw [e1]
   simp only
   obtain ⟨t', e, h3, h4⟩ := gone2_ok (a := a) ⟨hL, hK, hlen, hrow⟩ hs m (x + 1) t1 (by omega) h1
   refine ⟨t', e, h3, fun i => ?_⟩
   rw [h4, h2]
   constructor
   ·rintro ((h | ⟨h, h'⟩) | ⟨k, row, h, h'⟩)
    ·exact .inl h
    ·exact .inr ⟨x, _, Nat.le_refl _, hb, List.getElem?_eq_getElem hxl, h, h'⟩
    ·exact .inr ⟨k, row, by omega, h'⟩
   ·rintro (h | ⟨k, row, h, hb2, hk, h1', h2'⟩)
    ·exact .inl (.inl h)
    ·by_cases hkx : k = x
     ·subst hkx
      rw [List.getElem?_eq_getElem hxl] at hk
      cases hk
      exact .inl (.inr ⟨h1', h2'⟩)
     ·exact .inr ⟨k, row, by omega, hb2, hk, h1', h2'⟩
  ·rw [if_neg hb, if_pos (by decide)]
   obtain ⟨t', e, h3, h4⟩ := gone2_ok (a := a) ⟨hL, hK, hlen, hrow⟩ hs m (x + 1) tt (by omega) ht
   refine ⟨t', e, h3, fun i => ?_⟩
   rw [h4]
   constructor
   ·rintro (h | ⟨k, row, h, h'⟩)
    ·exact .inl h
    ·exact .inr ⟨k, row, by omega, h'⟩
   ·rintro (h | ⟨k, row, h, hb2, h'⟩)
    ·exact .inl h
    ·have : k ≠ x := fun e => hb (by rw [← e]; exact hb2)
     exact .inr ⟨k, row, by omega, hb2, h'⟩
theorem bits_lt {t n : Nat} (h : ∀ i, t.testBit i = true → i < n) : t < 2 ^ n := by
 refine Nat.lt_pow_two_of_testBit t fun i hi => ?_
 by_cases hb : t.testBit i = true
 ·have := h i hb
  omega
 ·simpa using hb
theorem goS_ok {p : RegularPlaces} {good : List Bool} {a : Int} (hp : PlOk p good.length) {s : Nat} (hs : s < 2 ^ 62) : ∃ t' : Nat, goS good p (s : Int) a = some (t' : Int) ∧ t' < 2 ^ p.fLetters.length ∧ ∀ i : Nat, t'.testBit i = true ↔ ∃ k row, s.testBit k = true ∧ p.fNext[k]? = some row ∧ (i : Int) ∈ row ∧ p.fLetters[i]? = some a := by
 obtain ⟨t', e, h1, h2⟩ := gone2_ok (a := a) hp hs good.length 0 0 (by omega) (by decide)
 have h3 : ∀ i : Nat, t'.testBit i = true ↔ ∃ k row, s.testBit k = true ∧ p.fNext[k]? = some row ∧ (i : Int) ∈ row ∧ p.fLetters[i]? = some a := fun i => by
  rw [h2, Nat.zero_testBit]
  constructor
  ·rintro (h | ⟨k, row, _, h⟩)
   ·cases h
   ·exact ⟨k, row, h⟩
  ·rintro ⟨k, row, h⟩
   exact .inr ⟨k, row, Nat.zero_le _, h⟩
 refine ⟨t', ?_, bits_lt fun i hi => ?_, h3⟩
 ·unfold goS
  rw [if_neg (by have := hp.2.1; omega)]
  exact e
 ·obtain ⟨k, row, _, _, _, h⟩ := (h3 i).1 hi
  exact (List.getElem?_eq_some_iff.1 h).1
theorem lastL_ok : ∀ (l : List Bool) (x y : Nat), x + l.length ≤ 62 → y < 2 ^ 62 → ∃ y' : Nat, lastL l x (y : Int) = (y' : Int) ∧ y' < 2 ^ 62 ∧ ∀ i : Nat, y'.testBit i = true ↔ y.testBit i = true ∨ (x ≤ i ∧ l[i - x]? = some true)
 | [], x, y, _, hy => ⟨y, rfl, hy, fun i => ⟨.inl, fun h => h.elim id fun h => by simp at h⟩⟩
 | b :: l, x, y, hx, hy => by
  rw [List.length_cons] at hx
  rw [lastL]
  have hstep : ∀ i, (x ≤ i ∧ (b :: l)[i - x]? = some true) ↔ (i = x ∧ b = true) ∨ (x + 1 ≤ i ∧ l[i - (x + 1)]? = some true) := fun i => by
   by_cases hi : i = x
   ·subst hi
    rw [Nat.sub_self, List.getElem?_cons_zero]
    constructor
    ·rintro ⟨_, h⟩
     exact .inl ⟨rfl, Option.some.inj h⟩
    ·rintro (⟨_, h⟩ | ⟨h, _⟩)
     ·exact ⟨Nat.le_refl _, by rw [h]⟩
     ·omega
   ·constructor
    ·rintro ⟨h, h'⟩
     rw [show i - x = (i - (x + 1)) + 1 by omega, List.getElem?_cons_succ] at h'
     exact .inr ⟨by omega, h'⟩
    ·rintro (⟨h, _⟩ | ⟨h, h'⟩)
     ·exact absurd h hi
     ·exact ⟨by omega, by rw [show i - x = (i - (x + 1)) + 1 by omega, List.getElem?_cons_succ]; exact h'⟩
  by_cases hb : b = true
  ·rw [if_pos hb, Int.toNat_natCast, bshl (show x < 62 by omega), bor hy (pow_lt62 (show x < 62 by omega))]
   obtain ⟨y', e, h1, h2⟩ := lastL_ok l (x + 1) (y ||| 2 ^ x) (by omega) (or_lt hy (pow_lt62 (by omega)))
   refine ⟨y', e, h1, fun i => ?_⟩
   rw [h2, hstep, bit_or, bit_pow]
   constructor
   ·rintro ((h | h) | h)
    ·exact .inl h
    ·exact .inr (.inl ⟨h, hb⟩)
    ·exact .inr (.inr h)
   ·rintro (h | (h | h))
    ·exact .inl (.inl h)
    ·exact .inl (.inr h.1)
    ·exact .inr h
  ·rw [if_neg hb]
   obtain ⟨y', e, h1, h2⟩ := lastL_ok l (x + 1) y (by omega) hy
   refine ⟨y', e, h1, fun i => ?_⟩
   rw [h2, hstep]
   constructor
   ·rintro (h | h)
    ·exact .inl h
    ·exact .inr (.inr h)
   ·rintro (h | (h | h))
    ·exact .inl h
    ·exact absurd h.2 hb
    ·exact .inr h
theorem mkR_ok {s l : Nat} (hs : s < 2 ^ 62) (hl : l < 2 ^ 62) : mkR (l : Int) (s : Int) = 1 ↔ ∃ i : Nat, s.testBit i = true ∧ l.testBit i = true := by
 unfold mkR
 rw [band hs hl]
 constructor
 ·intro h
  by_cases hz : s &&& l = 0
  ·rw [hz] at h
   simp at h
  ·refine Classical.byContradiction fun hn => hz (Nat.eq_of_testBit_eq fun i => ?_)
   rw [Nat.testBit_and, Nat.zero_testBit]
   by_cases h1 : s.testBit i = true
   ·by_cases h2 : l.testBit i = true
    ·exact absurd ⟨i, h1, h2⟩ hn
    ·simp [h2]
   ·simp [h1]
 ·rintro ⟨i, h1, h2⟩
  rw [if_pos]
  rw [bne_iff_ne]
  intro e
  have hz : s &&& l = 0 := by omega
  have := Nat.testBit_and s l i
  rw [hz, Nat.zero_testBit, h1, h2] at this
  cases this
theorem mkR_01 (l s : Int) : mkR l s = 0 ∨ mkR l s = 1 := by
 unfold mkR
 split
 ·exact .inr rfl
 ·exact .inl rfl
theorem goR_at {p : RegularPlaces} {good : List Bool} {a : Int} {s t' : Nat} (h : goS good p (s : Int) a = some (t' : Int)) : goR good p (s : Int) a = (t' : Int) := by
 unfold goR
 rw [h]
 rfl
theorem run_ok {p : RegularPlaces} {good : List Bool} (hp : PlOk p good.length) {l : Nat} (hl : l < 2 ^ 62) (hgood : ∀ i : Nat, l.testBit i = true ↔ good[i]? = some true) {lt : Int → Int} (hlt : ∀ (i : Nat) x, p.fLetters[i]? = some x → lt (i : Int) = x) :
  ∀ (w : List Nat) (s : Nat), s < 2 ^ 62 → (mkR (l : Int) (w.foldl (fun st (a : Nat) => goR good p st (a : Int)) (s : Int)) = 1 ↔ ∃ (k : Nat) (ps : List Int), s.testBit k = true ∧ w.map (fun (a : Nat) => (a : Int)) = ps.map lt ∧ Ch (Rln 0 p.fNext) (fun q => ∃ i : Nat, q = i ∧ good[i]? = some true) (k : Int) ps)
 | [], s, hs => by
  rw [List.foldl_nil, mkR_ok hs hl]
  constructor
  ·rintro ⟨i, h1, h2⟩
   exact ⟨i, [], h1, rfl, i, rfl, (hgood i).1 h2⟩
  ·rintro ⟨k, ps, h1, e, h2⟩
   cases ps with
   | nil =>
    obtain ⟨i, e, h⟩ := h2
    have : k = i := by omega
    subst this
    exact ⟨k, h1, (hgood k).2 h⟩
   | cons q ps => cases e
 | a :: w, s, hs => by
  obtain ⟨t', e, h1, h2⟩ := goS_ok (a := (a : Int)) hp hs
  have ht : t' < 2 ^ 62 := Nat.lt_of_lt_of_le h1 (Nat.pow_le_pow_right (by decide) (by have := hp.1; omega))
  rw [List.foldl_cons, goR_at e, run_ok hp hl hgood hlt w t' ht]
  constructor
  ·rintro ⟨i, ps, hi, hw, hc⟩
   obtain ⟨k, row, k1, k2, k3, k4⟩ := (h2 i).1 hi
   refine ⟨k, (i : Int) :: ps, k1, ?_, ⟨⟨k, row, by simp, k2, k3⟩, hc⟩⟩
   rw [List.map_cons, List.map_cons, hw, hlt i _ k4]
  ·rintro ⟨k, ps, hk, hw, hc⟩
   cases ps with
   | nil => cases hw
   | cons q ps =>
    rw [List.map_cons, List.map_cons, List.cons.injEq] at hw
    obtain ⟨⟨j, row, e2, k2, k3⟩, hc⟩ := hc
    have hkj : k = j := by omega
    subst hkj
    obtain ⟨i, hi, rfl⟩ := ((hp.2.2.2 row (List.mem_of_getElem? k2)).2 q k3).nat
    rw [Nat.zero_add] at *
    refine ⟨i, ps, (h2 i).2 ⟨k, row, hk, k2, k3, ?_⟩, hw.2, hc⟩
    rw [List.getElem?_eq_getElem hi, hw.1, hlt i _ (List.getElem?_eq_getElem hi)]
theorem MachOk.pl {k n : Nat} {t : RTr} {e : RegularEnds} {ls : List Int} {ns : List (List Int)} {good : List Bool} (h : MachOk k n t e ls ns good) (hn : n ≤ 12000) (hL : ls.length ≤ 10) : PlOk ⟨ls, ns ++ [e.fFirst]⟩ good.length := by
 have a1 := h.len; have a2 := h.seg.len; have a3 := h.seg.lf
 refine ⟨hL, by omega, ?_, fun row hr => ?_⟩
 ·show (ns ++ [e.fFirst]).length = _
  rw [List.length_append, List.length_singleton]
  omega
 ·rcases List.mem_append.1 hr with hr | hr
  ·have := h.seg.rows row hr
   exact ⟨by omega, this.2⟩
  ·rw [List.mem_singleton] at hr
   subst hr
   exact ⟨by omega, h.seg.rf⟩
noncomputable def langT (t : RTr) : Lang := fun w => open Classical in if sem 12000 t (w.map fun (a : Nat) => (a : Int)) then 1 else 0
theorem langT_iff {t : RTr} {w : List Nat} : langT t w = 1 ↔ sem 12000 t (w.map fun (a : Nat) => (a : Int)) := by
 unfold langT
 split
 ·exact ⟨fun _ => (by assumption), fun _ => rfl⟩
 ·rename_i h
  exact ⟨fun h' => (by cases h'), fun h' => absurd h' h⟩
theorem langT_01 {t : RTr} {w : List Nat} : langT t w = 0 ∨ langT t w = 1 := by
 unfold langT
 split
 ·exact .inr rfl
 ·exact .inl rfl
theorem startR_eq {p : RegularPlaces} (h : p.fLetters.length ≤ 10) : startR p = ((2 ^ p.fLetters.length : Nat) : Int) := by
 unfold startR
 rw [Int.toNat_natCast]
 exact bshl (by omega)
theorem rLang_ok {n : Nat} {t : RTr} {e : RegularEnds} {ls : List Int} {ns : List (List Int)} {good : List Bool} (h : MachOk 12000 n t e ls ns good) (hn : n ≤ 12000) (hL : ls.length ≤ 10) (w : List Nat) : rLang (⟨ls, ns ++ [e.fFirst]⟩, good) w = langT t w := by
 have hp := h.pl hn hL
 obtain ⟨l, e1, h1, h2⟩ := lastL_ok good 0 0 (by have := h.len; omega) (by decide)
 have h2' : ∀ i : Nat, l.testBit i = true ↔ good[i]? = some true := fun i => by
  rw [h2, Nat.zero_testBit, Nat.sub_zero]
  exact ⟨fun h => h.elim (fun h => (by cases h)) fun h => h.2, fun h => .inr ⟨Nat.zero_le _, h⟩⟩
 have hlt : ∀ (i : Nat) x, ls[i]? = some x → (fun q : Int => ls.getD q.toNat 0) (i : Int) = x := fun i x hx => by
  show ls.getD (i : Int).toNat 0 = x
  rw [Int.toNat_natCast, List.getD_eq_getElem?_getD, hx]
  rfl
 have key : rLang (⟨ls, ns ++ [e.fFirst]⟩, good) w = 1 ↔ langT t w = 1 := by
  unfold rLang langK
  rw [startR_eq hL, show ((0 : Int)) = ((0 : Nat) : Int) from rfl, e1, run_ok (lt := fun q => ls.getD q.toNat 0) hp h1 h2' hlt w _ (pow_lt62 (by show ls.length < 62; omega)), langT_iff, h.seg.lang (fun q => ls.getD q.toNat 0) (fun i x hx => by rw [Nat.zero_add]; exact hlt i x hx)]
  have hch : ∀ ps, Ch (Rln 0 (ns ++ [e.fFirst])) (fun q => ∃ i : Nat, q = i ∧ good[i]? = some true) (ls.length : Int) ps ↔ Acc (e.fEmpty = true) (· ∈ e.fFirst) (· ∈ e.fLast) (Rln 0 ns) ps := fun ps => by
   cases ps with
   | nil =>
    show (∃ i : Nat, (ls.length : Int) = i ∧ good[i]? = some true) ↔ e.fEmpty = true
    constructor
    ·rintro ⟨i, hi, hg⟩
     have : i = ls.length := by omega
     subst this
     rcases (h.good _).1 hg with hh | hh
     ·have := (h.seg.rl _ hh).2
      omega
     ·exact hh.2
    ·intro hh
     exact ⟨_, rfl, (h.good _).2 (.inr ⟨rfl, hh⟩)⟩
   | cons q l =>
    show (Rln 0 (ns ++ [e.fFirst]) (ls.length : Int) q ∧ _) ↔ (q ∈ e.fFirst ∧ _)
    have hq : Rln 0 (ns ++ [e.fFirst]) (ls.length : Int) q ↔ q ∈ e.fFirst := by
     have := Rln_at (N := 0) (i := ls.length) (ns := ns ++ [e.fFirst]) (q := q)
     rw [Nat.zero_add, h.seg.len, List.getElem?_append_right (Nat.le_refl _), Nat.sub_self, List.getElem?_cons_zero] at this
     rw [h.seg.len, this]
     exact ⟨fun ⟨row, e, h⟩ => by cases e; exact h, fun h => ⟨_, rfl, h⟩⟩
    rw [hq]
    refine and_congr_right fun hf => ?_
    refine ch_in (S := Rg 0 ls.length) (fun p hp q => ?_) (fun p q _ hr => h.seg.step hr) (fun p hp => ?_) l q (h.seg.rf q hf)
    ·rw [h.seg.len] at hp
     exact Rln_left hp
    ·obtain ⟨i, hi, rfl⟩ := hp.nat
     rw [Nat.zero_add]
     constructor
     ·rintro ⟨j, ej, hg⟩
      have : j = i := by omega
      subst this
      rcases (h.good _).1 hg with hh | hh
      ·exact hh
      ·omega
     ·intro hh
      exact ⟨i, rfl, (h.good _).2 (.inl hh)⟩
  constructor
  ·rintro ⟨k, ps, hk, hw, hc⟩
   have : k = ls.length := bit_pow.1 hk
   subst this
   exact ⟨ps, hw, (hch ps).1 hc⟩
  ·rintro ⟨ps, hw, hc⟩
   exact ⟨ls.length, ps, bit_pow.2 rfl, hw, (hch ps).2 hc⟩
 rcases mkR_01 (lastL good 0 0) (w.foldl (fun st (a : Nat) => goR good ⟨ls, ns ++ [e.fFirst]⟩ st (a : Int)) (startR ⟨ls, ns ++ [e.fFirst]⟩)) with hz | hz
 ·rcases langT_01 (t := t) (w := w) with h' | h'
  ·exact hz.trans h'.symm
  ·have := key.2 h'
   have hz' : rLang (⟨ls, ns ++ [e.fFirst]⟩, good) w = 0 := hz
   omega
 ·have hz' : rLang (⟨ls, ns ++ [e.fFirst]⟩, good) w = 1 := hz
  rw [hz', key.1 hz']
end Go.Proofs.Ytapnmjeadbhffaa


namespace Go.Proofs.Ytapnmjeadbhffaa
set_option linter.unusedSimpArgs false
set_option linter.unusedVariables false
set_option maxRecDepth 100000
theorem szL_mono {f g : Nat → RTr → Prop} (hf : ∀ i x, f i x → g i x) : ∀ {xs : List RTr} {n m : Nat}, SzL f n xs → n ≤ m → SzL g m xs
 | [], _, _, _, _ => trivial
 | x :: xs, n, m, h, hm => by
  obtain ⟨i, j, h1, h2, h3, h4⟩ := h
  exact ⟨i, j, by omega, h2, hf i x h3, szL_mono hf h4 (Nat.le_refl _)⟩
theorem Sz.mono : ∀ {k k' n n' : Nat} {t : RTr}, Sz k n t → k ≤ k' → n ≤ n' → Sz k' n' t
 | 0, _, _, _, _, h, _, _ => h.elim
 | k + 1, 0, _, _, _, _, h, _ => absurd h (by omega)
 | k + 1, k' + 1, n, n', .node a kids, h, hk, hn => by
  obtain ⟨h1, h2, h3⟩ := h
  exact ⟨by omega, h2, szL_mono (fun i x hx => hx.mono (by omega) (Nat.le_refl _)) h3 (by omega)⟩
theorem szL_snoc {f : Nat → RTr → Prop} {i : Nat} {x : RTr} (hi : 1 ≤ i) (hx : f i x) : ∀ {xs : List RTr} {n : Nat}, SzL f n xs → SzL f (n + i) (xs ++ [x])
 | [], n, _ => ⟨i, n, by omega, hi, hx, trivial⟩
 | y :: xs, n, h => by
  obtain ⟨i', j, h1, h2, h3, h4⟩ := h
  exact ⟨i', j + i, by omega, h2, h3, szL_snoc hi hx h4⟩
theorem szL_grow {N i : Nat} {x : RTr} {l : List RTr} (hl : SzL (Sz N) N l) (hi : 1 ≤ i) (hx : Sz i i x) : SzL (Sz (N + i)) (N + i) (l ++ [x]) :=
 szL_snoc hi (hx.mono (by omega) (Nat.le_refl _)) (szL_mono (fun _ _ h => h.mono (by omega) (Nat.le_refl _)) hl (Nat.le_refl _))
def Zs (c p : Int) (r : RTr × Int) : Prop := ∃ n : Nat, (n : Int) ≤ 3 * (r.2 - p) - c ∧ 1 ≤ n ∧ Sz n n r.1
def GoodZ (text : ByteArray) (c : Int) (f : Int → Int → Option (RTr × Int)) : Prop := ∀ (p d : Int) (r : RTr × Int), 0 ≤ p → p ≤ text.size → f p d = some r → Zs c p r
theorem partS_z {text : ByteArray} {wh : Int → Int → Option (RTr × Int)} (hw : GoodZ text 0 wh) : GoodZ text 2 (partS wh text) := fun p d r h0 h1 e => by
 unfold partS at e
 split at e
 ·rename_i hc
  cases e
  refine ⟨1, by show ((1 : Nat) : Int) ≤ 3 * (p + 1 - p) - 2; omega, Nat.le_refl _, Nat.le_refl _, ?_, trivial⟩
  show (chr text p - 48 = 0 ∨ chr text p - 48 = 1 ∨ _)
  omega
 ·split at e
  ·cases e
   exact ⟨1, by show ((1 : Nat) : Int) ≤ 3 * (p + 1 - p) - 2; omega, Nat.le_refl _, Nat.le_refl _, .inr (.inr (.inl rfl)), trivial⟩
  ·split at e
   ·rename_i hc
    have := chr_lt (text := text) (p := p) (by omega)
    split at e
    ·cases e
    ·split at e
     ·cases e
     ·rename_i r' hr
      split at e
      ·cases e
       obtain ⟨n, k1, k2, k3⟩ := hw (p + 1) (d + 1) r' (by omega) (by omega) hr
       exact ⟨n, by show (n : Int) ≤ 3 * (r'.2 + 1 - p) - 2; omega, k2, k3⟩
      ·cases e
   ·cases e
theorem starsS_z {text : ByteArray} : ∀ (m : Nat) (t : RTr) (p : Int) (n : Nat), Sz n n t → 1 ≤ n → ∃ n' : Nat, (n' : Int) ≤ n + ((starsS text m t p).2 - p) ∧ 1 ≤ n' ∧ Sz n' n' (starsS text m t p).1
 | 0, t, p, n, h, h1 => ⟨n, by show (n : Int) ≤ n + (p - p); omega, h1, h⟩
 | m + 1, t, p, n, h, h1 => by
  unfold starsS
  split
  ·obtain ⟨n', k1, k2, k3⟩ := starsS_z (text := text) m (nd 5 0 [t]) (p + 1) (n + 1) ⟨by omega, .inr (.inr (.inr (.inr (by simp)))), n, 0, by omega, h1, h, trivial⟩ (by omega)
   exact ⟨n', by omega, k2, k3⟩
  ·exact ⟨n, by show (n : Int) ≤ n + (p - p); omega, h1, h⟩
theorem oneS_z {text : ByteArray} {wh : Int → Int → Option (RTr × Int)} (hg : Good text wh) (hw : GoodZ text 0 wh) : GoodZ text 2 (oneS wh text) := fun p d r h0 h1 e => by
 unfold oneS at e
 split at e
 ·cases e
 ·rename_i r' hr
  cases e
  obtain ⟨n, k1, k2, k3⟩ := partS_z hw p d r' h0 h1 hr
  obtain ⟨n', k4, k5, k6⟩ := starsS_z (text := text) text.size r'.1 r'.2 n k3 k2
  have := (starsS_good (text := text) text.size r'.1 r'.2 (partS_good hg p d r' h0 h1 hr).2).1
  exact ⟨n', by omega, k5, k6⟩
theorem rowL_z {text : ByteArray} {one : Int → Option (RTr × Int)} (p0 : Int) (hg : ∀ (p : Int) (r : RTr × Int), 0 ≤ p → p ≤ text.size → one p = some r → p < r.2 ∧ r.2 ≤ text.size) (ho : ∀ (p : Int) (r : RTr × Int), 0 ≤ p → p ≤ text.size → one p = some r → Zs 2 p r) : ∀ (m : Nat) (l : List RTr) (p : Int) (r : List RTr × Int) (N : Nat), 0 ≤ p → p ≤ text.size → l ≠ [] → SzL (Sz N) N l → (N : Int) ≤ 3 * (p - p0) - 2 → rowL one text m l p = some r → ∃ N : Nat, r.1 ≠ [] ∧ SzL (Sz N) N r.1 ∧ (N : Int) ≤ 3 * (r.2 - p0) - 2
 | 0, l, p, r, N, _, _, _, _, _, e => by simp [rowL] at e
 | m + 1, l, p, r, N, h0, h1, hne, hs, hN, e => by
  unfold rowL at e
  split at e
  ·split at e
   ·cases e
   ·rename_i r' hr
    have k := hg p r' h0 h1 hr
    obtain ⟨n, k1, k2, k3⟩ := ho p r' h0 h1 hr
    exact rowL_z p0 hg ho m _ r'.2 r (N + n) (by omega) (by omega) (by simp) (szL_grow hs k2 k3) (by omega) e
  ·cases e
   exact ⟨N, hne, hs, hN⟩
theorem rowS_z {text : ByteArray} {wh : Int → Int → Option (RTr × Int)} (hg : Good text wh) (hw : GoodZ text 0 wh) : GoodZ text 1 (rowS wh text) := fun p d r h0 h1 e => by
 unfold rowS at e
 split at e
 ·cases e
 ·rename_i r' hr
  have k := oneS_good hg p d r' h0 h1 hr
  obtain ⟨n, k1, k2, k3⟩ := oneS_z hg hw p d r' h0 h1 hr
  split at e
  ·cases e
  ·rename_i r2 hr2
   cases e
   obtain ⟨N, n1, n2, n3⟩ := rowL_z p (fun p r h0 h1 e => oneS_good hg p d r h0 h1 e) (fun p r h0 h1 e => oneS_z hg hw p d r h0 h1 e) (text.size + 1) [r'.1] r'.2 r2 n (by omega) (by omega) (by simp) ⟨n, 0, by omega, k2, k3, trivial⟩ k1 hr2
   exact ⟨N + 1, by show ((N + 1 : Nat) : Int) ≤ 3 * (r2.2 - p) - 1; omega, by omega, by omega, .inr (.inr (.inr (.inr n1))), n2⟩
theorem wholeL_z {text : ByteArray} {row : Int → Option (RTr × Int)} (p0 : Int) (hg : ∀ (p : Int) (r : RTr × Int), 0 ≤ p → p ≤ text.size → row p = some r → p < r.2 ∧ r.2 ≤ text.size) (ho : ∀ (p : Int) (r : RTr × Int), 0 ≤ p → p ≤ text.size → row p = some r → Zs 1 p r) : ∀ (m : Nat) (l : List RTr) (p : Int) (r : List RTr × Int) (N : Nat), 0 ≤ p → p ≤ text.size → SzL (Sz N) N l → (N : Int) ≤ 3 * (p - p0) - 1 → wholeL row text m l p = some r → ∃ N : Nat, SzL (Sz N) N r.1 ∧ (N : Int) ≤ 3 * (r.2 - p0) - 1
 | 0, l, p, r, N, _, _, _, _, e => by simp [wholeL] at e
 | m + 1, l, p, r, N, h0, h1, hs, hN, e => by
  unfold wholeL at e
  split at e
  ·rename_i hc
   have := chr_lt (text := text) (p := p) (by omega)
   split at e
   ·cases e
   ·rename_i r' hr
    have k := hg (p + 1) r' (by omega) (by omega) hr
    obtain ⟨n, k1, k2, k3⟩ := ho (p + 1) r' (by omega) (by omega) hr
    exact wholeL_z p0 hg ho m _ r'.2 r (N + n) (by omega) (by omega) (szL_grow hs k2 k3) (by omega) e
  ·cases e
   exact ⟨N, hs, hN⟩
theorem wholeS_z {text : ByteArray} {wh : Int → Int → Option (RTr × Int)} (hg : Good text wh) (hw : GoodZ text 0 wh) : GoodZ text 0 (wholeS wh text) := fun p d r h0 h1 e => by
 unfold wholeS at e
 split at e
 ·cases e
 ·rename_i r' hr
  have k := rowS_good hg p d r' h0 h1 hr
  obtain ⟨n, k1, k2, k3⟩ := rowS_z hg hw p d r' h0 h1 hr
  split at e
  ·cases e
  ·rename_i r2 hr2
   cases e
   obtain ⟨N, n2, n3⟩ := wholeL_z p (fun p r h0 h1 e => rowS_good hg p d r h0 h1 e) (fun p r h0 h1 e => rowS_z hg hw p d r h0 h1 e) (text.size + 1) [r'.1] r'.2 r2 n (by omega) (by omega) ⟨n, 0, by omega, k2, k3, trivial⟩ k1 hr2
   exact ⟨N + 1, by show ((N + 1 : Nat) : Int) ≤ 3 * (r2.2 - p) - 0; omega, by omega, by omega, .inr (.inr (.inr (.inl rfl))), n2⟩
theorem pW_z {text : ByteArray} : ∀ k, GoodZ text 0 (pW text k)
 | 0 => fun p d r _ _ e => by simp [pW] at e
 | k + 1 => wholeS_z (pW_good k) (pW_z k)
theorem fullS_z {text : ByteArray} {t : RTr} (h : fullS text = some t) : Sz 12000 12000 t := by
 unfold fullS at h
 split at h
 ·cases h
 split at h
 ·cases h
 rename_i r hr
 split at h
 ·cases h
 cases h
 obtain ⟨n, k1, _, k3⟩ := pW_z _ 0 0 r (Int.le_refl _) (Int.natCast_nonneg _) hr
 have := (pW_good _ 0 0 r (Int.le_refl _) (Int.natCast_nonneg _) hr).2
 exact k3.mono (by omega) (by omega)
structure InT (s c : ByteArray) (o : Int) : Prop where
 o0 : 0 ≤ o
 at_ : ∀ p : Int, 0 ≤ p → p < s.size → chr c (o + p) = chr s p
 close : chr c (o + s.size) = 41
 fits : o + s.size < c.size
def Ext (s : ByteArray) (o : Int) (f g : Int → Int → Option (RTr × Int)) : Prop := ∀ (p d d' : Int) (r : RTr × Int), 0 ≤ p → p ≤ s.size → f p d = some r → g (o + p) d' = none ∨ g (o + p) d' = some (r.1, o + r.2)
section
variable {s c : ByteArray} {o : Int}
theorem InT.ch (h : InT s c o) {p x : Int} (h0 : 0 ≤ p) (h1 : p ≤ s.size) (hx : x ≠ 41) (hz : x ≠ 0) : chr c (o + p) = x ↔ chr s p = x := by
 by_cases hp : p < s.size
 ·rw [h.at_ p h0 hp]
 ·have : p = s.size := by omega
  subst this
  rw [h.close, chr_end (Int.le_refl _)]
  omega
theorem starsS_ext (h : InT s c o) : ∀ (m m' : Nat) (t : RTr) (p : Int), 0 ≤ p → p ≤ s.size → s.size - p ≤ m → c.size - (o + p) ≤ m' → starsS c m' t (o + p) = ((starsS s m t p).1, o + (starsS s m t p).2)
 | m, 0, t, p, h0, h1, _, hm' => by
  have := h.fits
  omega
 | 0, m' + 1, t, p, h0, h1, hm, _ => by
  have hp : p = s.size := by omega
  subst hp
  show starsS c (m' + 1) t (o + (s.size : Int)) = (t, o + (s.size : Int))
  rw [starsS, h.close, if_neg (by decide)]
 | m + 1, m' + 1, t, p, h0, h1, hm, hm' => by
  rw [starsS, starsS]
  by_cases hc : chr s p = 42
  ·have := chr_lt (text := s) (p := p) (by omega)
   rw [if_pos hc, if_pos ((h.ch h0 h1 (by decide) (by decide)).2 hc), show o + p + 1 = o + (p + 1) by omega]
   exact starsS_ext h m m' _ (p + 1) (by omega) (by omega) (by omega) (by omega)
  ·rw [if_neg hc, if_neg fun e => hc ((h.ch h0 h1 (by decide) (by decide)).1 e)]
theorem begB_ext (h : InT s c o) {p : Int} (h0 : 0 ≤ p) (h1 : p ≤ s.size) : begB c (o + p) = begB s p := by
 unfold begB
 have hf := h.fits
 by_cases hp : p < s.size
 ·rw [h.at_ p h0 hp, decide_eq_true hp, decide_eq_true (show o + p < (c.size : Int) by omega)]
 ·have : p = s.size := by omega
  subst this
  rw [h.close, decide_eq_false hp, Bool.false_and]
  have : decide ((firstIdx (ByteArray.mk #[48, 49, 97, 98, 99, 100, 40]) ((41 : Int)).toNat.toUInt8) ≥ 0) = false := by kernel_rfl
  rw [this, Bool.and_false]
theorem partS_ext (h : InT s c o) {f g : Int → Int → Option (RTr × Int)} (hg : Good s f) (he : Ext s o f g) : Ext s o (partS f s) (partS g c) := fun p d d' r h0 h1 e => by
 have hf := h.fits
 have hlt : p < s.size := by
  unfold partS at e
  have hx : chr s p ≠ 0 := by
   intro hx
   rw [hx] at e
   simp at e
  exact chr_lt hx
 have hch := h.at_ p h0 hlt
 unfold partS at e ⊢
 rw [hch]
 by_cases c1 : chr s p = 48 ∨ chr s p = 49
 ·rw [if_pos c1] at e ⊢
  cases e
  exact .inr (by rw [show o + p + 1 = o + (p + 1) by omega])
 rw [if_neg c1] at e ⊢
 by_cases c2 : 97 ≤ chr s p ∧ chr s p ≤ 100
 ·rw [if_pos c2] at e ⊢
  cases e
  exact .inr (by rw [show o + p + 1 = o + (p + 1) by omega])
 rw [if_neg c2] at e ⊢
 by_cases c3 : chr s p = 40
 ·rw [if_pos c3] at e ⊢
  by_cases c4 : d' = 40
  ·rw [if_pos c4]
   exact .inl rfl
  rw [if_neg c4]
  split at e
  ·cases e
  split at e
  ·cases e
  rename_i r' hr
  obtain ⟨k1, k2⟩ := hg (p + 1) (d + 1) r' (by omega) (by omega) hr
  have := he (p + 1) (d + 1) (d' + 1) r' (by omega) (by omega) hr
  rw [show o + (p + 1) = o + p + 1 by omega] at this
  rcases this with e2 | e2
  ·rw [e2]
   exact .inl rfl
  rw [e2]
  simp only
  split at e
  ·rename_i c5
   have hl := chr_lt (text := s) (p := r'.2) (by omega)
   rw [if_pos (by rw [h.at_ r'.2 (by omega) hl]; exact c5)]
   cases e
   exact .inr (by rw [show o + r'.2 + 1 = o + (r'.2 + 1) by omega])
  ·cases e
 ·rw [if_neg c3] at e
  cases e
theorem oneS_ext (h : InT s c o) {f g : Int → Int → Option (RTr × Int)} (hg : Good s f) (he : Ext s o f g) : Ext s o (oneS f s) (oneS g c) := fun p d d' r h0 h1 e => by
 unfold oneS at e ⊢
 split at e
 ·cases e
 rename_i r' hr
 obtain ⟨k1, k2⟩ := partS_good hg p d r' h0 h1 hr
 rcases partS_ext h hg he p d d' r' h0 h1 hr with e2 | e2
 ·rw [e2]
  exact .inl rfl
 rw [e2]
 cases e
 refine .inr ?_
 show some (starsS c c.size r'.1 (o + r'.2)) = _
 have := h.o0
 rw [starsS_ext h s.size c.size r'.1 r'.2 (by omega) (by omega) (by omega) (by omega)]
theorem rowL_ext (h : InT s c o) {f g : Int → Option (RTr × Int)} (hg : ∀ (p : Int) (r : RTr × Int), 0 ≤ p → p ≤ s.size → f p = some r → p < r.2 ∧ r.2 ≤ s.size) (he : ∀ (p : Int) (r : RTr × Int), 0 ≤ p → p ≤ s.size → f p = some r → g (o + p) = none ∨ g (o + p) = some (r.1, o + r.2)) : ∀ (m m' : Nat) (l : List RTr) (p : Int) (r : List RTr × Int), 0 ≤ p → p ≤ s.size → rowL f s m l p = some r → rowL g c m' l (o + p) = none ∨ rowL g c m' l (o + p) = some (r.1, o + r.2)
 | _, 0, _, _, _, _, _, _ => .inl rfl
 | 0, m' + 1, l, p, r, _, _, e => by simp [rowL] at e
 | m + 1, m' + 1, l, p, r, h0, h1, e => by
  rw [rowL] at e ⊢
  rw [begB_ext h h0 h1]
  by_cases hb : begB s p = true
  ·rw [if_pos hb] at e ⊢
   split at e
   ·cases e
   rename_i r' hr
   obtain ⟨k1, k2⟩ := hg p r' h0 h1 hr
   rcases he p r' h0 h1 hr with e2 | e2
   ·rw [e2]
    exact .inl rfl
   rw [e2]
   exact rowL_ext h hg he m m' _ r'.2 r (by omega) (by omega) e
  ·rw [if_neg hb] at e ⊢
   cases e
   exact .inr rfl
theorem rowS_ext (h : InT s c o) {f g : Int → Int → Option (RTr × Int)} (hg : Good s f) (he : Ext s o f g) : Ext s o (rowS f s) (rowS g c) := fun p d d' r h0 h1 e => by
 unfold rowS at e ⊢
 split at e
 ·cases e
 rename_i r' hr
 obtain ⟨k1, k2⟩ := oneS_good hg p d r' h0 h1 hr
 rcases oneS_ext h hg he p d d' r' h0 h1 hr with e2 | e2
 ·rw [e2]
  exact .inl rfl
 rw [e2]
 simp only
 split at e
 ·cases e
 rename_i r2 hr2
 cases e
 rcases rowL_ext (g := fun p => oneS g c p d') h (fun p r h0 h1 e => oneS_good hg p d r h0 h1 e) (fun p r h0 h1 e => oneS_ext h hg he p d d' r h0 h1 e) _ (c.size + 1) _ r'.2 r2 (by omega) (by omega) hr2 with e3 | e3
 ·rw [e3]
  exact .inl rfl
 ·rw [e3]
  exact .inr rfl
theorem wholeL_ext (h : InT s c o) {f g : Int → Option (RTr × Int)} (hg : ∀ (p : Int) (r : RTr × Int), 0 ≤ p → p ≤ s.size → f p = some r → p < r.2 ∧ r.2 ≤ s.size) (he : ∀ (p : Int) (r : RTr × Int), 0 ≤ p → p ≤ s.size → f p = some r → g (o + p) = none ∨ g (o + p) = some (r.1, o + r.2)) : ∀ (m m' : Nat) (l : List RTr) (p : Int) (r : List RTr × Int), 0 ≤ p → p ≤ s.size → wholeL f s m l p = some r → wholeL g c m' l (o + p) = none ∨ wholeL g c m' l (o + p) = some (r.1, o + r.2)
 | _, 0, _, _, _, _, _, _ => .inl rfl
 | 0, m' + 1, l, p, r, _, _, e => by simp [wholeL] at e
 | m + 1, m' + 1, l, p, r, h0, h1, e => by
  rw [wholeL] at e ⊢
  by_cases hb : chr s p = 43
  ·rw [if_pos hb] at e
   rw [if_pos ((h.ch h0 h1 (by decide) (by decide)).2 hb), show o + p + 1 = o + (p + 1) by omega]
   have := chr_lt (text := s) (p := p) (by omega)
   split at e
   ·cases e
   rename_i r' hr
   obtain ⟨k1, k2⟩ := hg (p + 1) r' (by omega) (by omega) hr
   rcases he (p + 1) r' (by omega) (by omega) hr with e2 | e2
   ·rw [e2]
    exact .inl rfl
   rw [e2]
   exact wholeL_ext h hg he m m' _ r'.2 r (by omega) (by omega) e
  ·rw [if_neg hb] at e
   rw [if_neg fun e => hb ((h.ch h0 h1 (by decide) (by decide)).1 e)]
   cases e
   exact .inr rfl
theorem wholeS_ext (h : InT s c o) {f g : Int → Int → Option (RTr × Int)} (hg : Good s f) (he : Ext s o f g) : Ext s o (wholeS f s) (wholeS g c) := fun p d d' r h0 h1 e => by
 unfold wholeS at e ⊢
 split at e
 ·cases e
 rename_i r' hr
 obtain ⟨k1, k2⟩ := rowS_good hg p d r' h0 h1 hr
 rcases rowS_ext h hg he p d d' r' h0 h1 hr with e2 | e2
 ·rw [e2]
  exact .inl rfl
 rw [e2]
 simp only
 split at e
 ·cases e
 rename_i r2 hr2
 cases e
 rcases wholeL_ext (g := fun p => rowS g c p d') h (fun p r h0 h1 e => rowS_good hg p d r h0 h1 e) (fun p r h0 h1 e => rowS_ext h hg he p d d' r h0 h1 e) _ (c.size + 1) _ r'.2 r2 (by omega) (by omega) hr2 with e3 | e3
 ·rw [e3]
  exact .inl rfl
 ·rw [e3]
  exact .inr rfl
theorem pW_ext (h : InT s c o) : ∀ k k', Ext s o (pW s k) (pW c k')
 | _, 0 => fun _ _ _ _ _ _ _ => .inl rfl
 | 0, k' + 1 => fun p d d' r _ _ e => by simp [pW] at e
 | k + 1, k' + 1 => wholeS_ext h (pW_good k) (pW_ext h k k')
theorem fullS_end {t : RTr} (h : fullS s = some t) : pW s (s.size + 1) 0 0 = some (t, (s.size : Int)) := by
 unfold fullS at h
 split at h
 ·cases h
 split at h
 ·cases h
 rename_i r hr
 split at h
 ·cases h
 cases h
 have := (pW_good _ 0 0 r (Int.le_refl _) (Int.natCast_nonneg _) hr).2
 rw [hr]
 congr 1
 exact Prod.ext rfl (by show r.2 = (s.size : Int); omega)
theorem in_read {t : RTr} (h : InT s c o) (hs : fullS s = some t) (k' : Nat) (d' : Int) : pW c k' o d' = none ∨ pW c k' o d' = some (t, o + s.size) := by
 have := pW_ext h (s.size + 1) k' 0 0 d' _ (Int.le_refl _) (Int.natCast_nonneg _) (fullS_end hs)
 rw [Int.add_zero] at this
 exact this
end
end Go.Proofs.Ytapnmjeadbhffaa


namespace Go.Proofs.Ytapnmjeadbhffaa
set_option linter.unusedSimpArgs false
set_option linter.unusedVariables false
set_option maxRecDepth 100000
theorem byteAt_eq (s : ByteArray) (i : Nat) : s[i]? = s.data[i]? := by
 by_cases h : i < s.size
 ·rw [getElem?_pos s i h]
  have h2 : i < s.data.size := h
  rw [getElem?_pos s.data i h2]
  rfl
 ·rw [getElem?_neg s i h]
  have h2 : ¬ i < s.data.size := h
  rw [getElem?_neg s.data i h2]
theorem chr_app (a b : ByteArray) (i : Int) : chr (a ++ b) i = if i < a.size then chr a i else chr b (i - a.size) := by
 unfold chr byteAt
 by_cases h0 : 0 ≤ i
 ·rw [if_pos h0, byteAt_eq, ByteArray.data_append, Array.getElem?_append]
  have hs : a.data.size = a.size := rfl
  rw [hs]
  by_cases h : i < a.size
  ·rw [if_pos h, if_pos (by omega), if_pos h0, byteAt_eq]
  ·rw [if_neg h, if_neg (by omega), if_pos (by omega), byteAt_eq, show (i - a.size).toNat = i.toNat - a.size by omega]
 ·rw [if_neg h0, if_pos (by omega), if_neg h0]
section
variable {A B D s t : ByteArray}
theorem chr3a {p : Int} (h : p < A.size) : chr ((A ++ s) ++ B) p = chr A p := by
 rw [chr_app, ByteArray.size_append, if_pos (by omega), chr_app, if_pos h]
theorem chr3b {p i : Int} (e : p = A.size + i) (h0 : 0 ≤ i) (h : i < s.size) : chr ((A ++ s) ++ B) p = chr s i := by
 rw [chr_app, ByteArray.size_append, if_pos (by omega), chr_app, if_neg (by omega), show p - A.size = i by omega]
theorem chr3c {p i : Int} (e : p = A.size + s.size + i) (h0 : 0 ≤ i) : chr ((A ++ s) ++ B) p = chr B i := by
 rw [chr_app, ByteArray.size_append, if_neg (by omega), show p - ((A.size + s.size : Nat) : Int) = i by omega]
theorem chr5a {p : Int} (h : p < A.size) : chr ((((A ++ s) ++ B) ++ t) ++ D) p = chr A p := by
 rw [chr_app, if_pos (by simp only [ByteArray.size_append]; omega), chr_app, if_pos (by simp only [ByteArray.size_append]; omega), chr3a h]
theorem chr5b {p i : Int} (e : p = A.size + i) (h0 : 0 ≤ i) (h : i < s.size) : chr ((((A ++ s) ++ B) ++ t) ++ D) p = chr s i := by
 rw [chr_app, if_pos (by simp only [ByteArray.size_append]; omega), chr_app, if_pos (by simp only [ByteArray.size_append]; omega), chr3b e h0 h]
theorem chr5c {p i : Int} (e : p = A.size + s.size + i) (h0 : 0 ≤ i) (h : i < B.size) : chr ((((A ++ s) ++ B) ++ t) ++ D) p = chr B i := by
 rw [chr_app, if_pos (by simp only [ByteArray.size_append]; omega), chr_app, if_pos (by simp only [ByteArray.size_append]; omega), chr3c e h0]
theorem chr5d {p i : Int} (e : p = A.size + s.size + B.size + i) (h0 : 0 ≤ i) (h : i < t.size) : chr ((((A ++ s) ++ B) ++ t) ++ D) p = chr t i := by
 rw [chr_app, if_pos (by simp only [ByteArray.size_append]; omega), chr_app, if_neg (by simp only [ByteArray.size_append]; omega)]
 congr 1
 simp only [ByteArray.size_append]
 omega
theorem chr5e {p i : Int} (e : p = A.size + s.size + B.size + t.size + i) (h0 : 0 ≤ i) : chr ((((A ++ s) ++ B) ++ t) ++ D) p = chr D i := by
 rw [chr_app, if_neg (by simp only [ByteArray.size_append]; omega)]
 congr 1
 simp only [ByteArray.size_append]
 omega
end
def Yes {β : Type} (x : Option β) (v : β) : Prop := x = none ∨ x = some v
section
variable {c : ByteArray} {wh : Int → Int → Option (RTr × Int)} {p d q q2 : Int} {t t2 : RTr}
theorem yes_one (h : Yes (partS wh c p d) (t, q)) : Yes (oneS wh c p d) (starsS c c.size t q) := by
 unfold oneS
 rcases h with h | h
 ·rw [h]; exact .inl rfl
 ·rw [h]; exact .inr rfl
theorem stars0 {m : Nat} (h : chr c q ≠ 42) : starsS c m t q = (t, q) := by
 cases m with
 | zero => rfl
 | succ m => rw [starsS, if_neg h]
theorem yes_one0 (h : Yes (partS wh c p d) (t, q)) (h1 : chr c q ≠ 42) : Yes (oneS wh c p d) (t, q) := by
 have := yes_one h
 rw [stars0 h1] at this
 exact this
theorem yes_one1 (h : Yes (partS wh c p d) (t, q)) (h1 : chr c q = 42) (h2 : chr c (q + 1) ≠ 42) : Yes (oneS wh c p d) (nd 5 0 [t], q + 1) := by
 have := yes_one h
 have hq := chr_lt (text := c) (p := q) (by omega)
 by_cases hs : c.size = 0
 ·unfold partS at h
  rcases h with h | h
  ·unfold oneS
   refine .inl ?_
   unfold partS
   rw [h]
  ·exfalso
   have hp : chr c p = 0 := by
    by_cases hp : 0 ≤ p
    ·exact chr_end (by omega)
    ·unfold chr byteAt
     rw [if_neg hp]
     rfl
   rw [hp] at h
   simp at h
 obtain ⟨m, hm⟩ : ∃ m, c.size = m + 1 := ⟨c.size - 1, by omega⟩
 rw [hm, starsS, if_pos h1, stars0 h2] at this
 exact this
theorem yes_row1 (h : Yes (oneS wh c p d) (t, q)) (hb : begB c q = false) : Yes (rowS wh c p d) (nd 4 0 [t], q) := by
 unfold rowS
 rcases h with h | h
 ·rw [h]; exact .inl rfl
 ·rw [h]
  simp only
  rw [rowL, if_neg (by rw [hb]; decide)]
  exact .inr rfl
theorem yes_row2 (h : Yes (oneS wh c p d) (t, q)) (hb : begB c q = true) (h2 : Yes (oneS wh c q d) (t2, q2)) (hb2 : begB c q2 = false) : Yes (rowS wh c p d) (nd 4 0 [t, t2], q2) := by
 unfold rowS
 rcases h with h | h
 ·rw [h]; exact .inl rfl
 ·rw [h]
  simp only
  rw [rowL, if_pos hb]
  rcases h2 with h2 | h2
  ·rw [h2]; exact .inl rfl
  ·rw [h2]
   simp only
   cases hs : c.size with
   | zero => exact .inl rfl
   | succ m =>
    rw [rowL, if_neg (by rw [hb2]; decide)]
    exact .inr rfl
theorem yes_whole1 (h : Yes (rowS wh c p d) (t, q)) (hb : chr c q ≠ 43) : Yes (wholeS wh c p d) (nd 3 0 [t], q) := by
 unfold wholeS
 rcases h with h | h
 ·rw [h]; exact .inl rfl
 ·rw [h]
  simp only
  rw [wholeL, if_neg hb]
  exact .inr rfl
theorem yes_whole2 (h : Yes (rowS wh c p d) (t, q)) (hb : chr c q = 43) (h2 : Yes (rowS wh c (q + 1) d) (t2, q2)) (hb2 : chr c q2 ≠ 43) : Yes (wholeS wh c p d) (nd 3 0 [t, t2], q2) := by
 unfold wholeS
 rcases h with h | h
 ·rw [h]; exact .inl rfl
 ·rw [h]
  simp only
  rw [wholeL, if_pos hb]
  rcases h2 with h2 | h2
  ·rw [h2]; exact .inl rfl
  ·rw [h2]
   simp only
   cases hs : c.size with
   | zero => exact .inl rfl
   | succ m =>
    rw [wholeL, if_neg hb2]
    exact .inr rfl
theorem yes_pW {v : RTr × Int} (h : ∀ k, Yes (wholeS (pW c k) c p d) v) (k : Nat) : Yes (pW c k p d) v := by
 cases k with
 | zero => exact .inl rfl
 | succ k => exact h k
theorem yes_group {k : Nat} (h1 : chr c p = 40) (h : ∀ k d', Yes (pW c k (p + 1) d') (t, q)) (h2 : chr c q = 41) : Yes (partS (pW c k) c p d) (t, q + 1) := by
 unfold partS
 rw [if_neg (by omega), if_neg (by omega), if_pos h1]
 by_cases hd : d = 40
 ·rw [if_pos hd]; exact .inl rfl
 ·rw [if_neg hd]
  rcases h k (d + 1) with h | h
  ·rw [h]; exact .inl rfl
  ·rw [h]
   simp only
   rw [if_pos h2]
   exact .inr rfl
theorem yes_digit (h1 : chr c p = 49) : Yes (partS wh c p d) (nd 1 0 [], p + 1) := by
 unfold partS
 rw [if_pos (.inr h1), h1]
 exact .inr rfl
theorem yes_full {v : RTr} {qq : Int} (h : ∀ k, Yes (pW c k 0 0) (v, qq)) {t' : RTr} (hf : fullS c = some t') : t' = v := by
 have := fullS_end hf
 rcases h (c.size + 1) with h | h
 ·rw [h] at this; cases this
 ·rw [h] at this; cases this; rfl
theorem begB_43 (h : chr c p = 43) : begB c p = false := by
 unfold begB
 rw [h, show decide ((firstIdx (ByteArray.mk #[48, 49, 97, 98, 99, 100, 40]) ((43 : Int)).toNat.toUInt8) ≥ 0) = false by kernel_rfl, Bool.and_false]
theorem begB_41 (h : chr c p = 41) : begB c p = false := by
 unfold begB
 rw [h, show decide ((firstIdx (ByteArray.mk #[48, 49, 97, 98, 99, 100, 40]) ((41 : Int)).toNat.toUInt8) ≥ 0) = false by kernel_rfl, Bool.and_false]
theorem begB_40 (h : chr c p = 40) : begB c p = true := by
 have := chr_lt (text := c) (p := p) (by omega)
 unfold begB
 rw [h, show decide ((firstIdx (ByteArray.mk #[48, 49, 97, 98, 99, 100, 40]) ((40 : Int)).toNat.toUInt8) ≥ 0) = true by kernel_rfl, Bool.and_true]
 exact decide_eq_true this
theorem begB_end (h : (c.size : Int) ≤ p) : begB c p = false := by
 unfold begB
 rw [decide_eq_false (by omega), Bool.false_and]
theorem yes_in {s : ByteArray} {o : Int} {S : RTr} {k : Nat} (h : InT s c o) (hs : fullS s = some S) (hp : p + 1 = o) (h1 : chr c p = 40) (hq : q = o + s.size + 1) : Yes (partS (pW c k) c p d) (S, q) := by
 subst hp
 subst hq
 exact yes_group h1 (fun k d' => in_read h hs k d') h.close
end
section
variable {s t : ByteArray} {S T C : RTr}
theorem tx1 (hs : fullS s = some S) (ht : fullS t = some T) (hc : fullS (((((ByteArray.mk #[40]) ++ s) ++ (ByteArray.mk #[41, 43, 40])) ++ t) ++ (ByteArray.mk #[41])) = some C) : C = nd 3 0 [nd 4 0 [S], nd 4 0 [T]] := by
 obtain ⟨c, he⟩ : ∃ c, c = (((((ByteArray.mk #[40]) ++ s) ++ (ByteArray.mk #[41, 43, 40])) ++ t) ++ (ByteArray.mk #[41])) := ⟨_, rfl⟩
 rw [← he] at hc
 have z1 : (ByteArray.mk #[40]).size = 1 := rfl
 have z2 : (ByteArray.mk #[41, 43, 40]).size = 3 := rfl
 have z3 : (ByteArray.mk #[41]).size = 1 := rfl
 have hz : c.size = s.size + t.size + 5 := by rw [he]; simp only [ByteArray.size_append]; omega
 have c0 : chr c 0 = 40 := by rw [he, chr5a (by omega)]; kernel_rfl
 have c1 : ∀ p : Int, p = s.size + 1 → chr c p = 41 := fun p e => by rw [he, chr5c (i := 0) (by omega) (by omega) (by omega)]; kernel_rfl
 have c2 : ∀ p : Int, p = s.size + 2 → chr c p = 43 := fun p e => by rw [he, chr5c (i := 1) (by omega) (by omega) (by omega)]; kernel_rfl
 have c3 : ∀ p : Int, p = s.size + 3 → chr c p = 40 := fun p e => by rw [he, chr5c (i := 2) (by omega) (by omega) (by omega)]; kernel_rfl
 have c4 : ∀ p : Int, p = s.size + t.size + 4 → chr c p = 41 := fun p e => by rw [he, chr5e (i := 0) (by omega) (by omega)]; kernel_rfl
 have c5 : ∀ p : Int, p = s.size + t.size + 5 → chr c p = 0 := fun p e => chr_end (by omega)
 have i1 : InT s c 1 := ⟨by omega, fun p h0 h => by rw [he, chr5b (i := p) (by omega) h0 h], c1 _ (by omega), by omega⟩
 have i2 : InT t c (s.size + 4) := ⟨by omega, fun p h0 h => by rw [he, chr5d (i := p) (by omega) h0 h], c4 _ (by omega), by omega⟩
 refine yes_full (qq := s.size + t.size + 5) (fun k => yes_pW (fun k => ?_) k) hc
 have r1 : Yes (rowS (pW c k) c 0 0) (nd 4 0 [S], (s.size : Int) + 2) := yes_row1 (yes_one0 (yes_in i1 hs (by omega) c0 (by omega)) (by rw [c2 _ (by omega)]; decide)) (begB_43 (c2 _ (by omega)))
 have r2 : Yes (rowS (pW c k) c ((s.size : Int) + 2 + 1) 0) (nd 4 0 [T], (s.size : Int) + t.size + 5) := yes_row1 (yes_one0 (yes_in i2 ht (by omega) (c3 _ (by omega)) (by omega)) (by rw [c5 _ (by omega)]; decide)) (begB_end (by omega))
 exact yes_whole2 r1 (c2 _ (by omega)) r2 (by rw [c5 _ (by omega)]; decide)
theorem tx2 (hs : fullS s = some S) (hc : fullS (((ByteArray.mk #[40, 40]) ++ s) ++ (ByteArray.mk #[41, 42, 41, 42])) = some C) : C = nd 3 0 [nd 4 0 [nd 5 0 [nd 3 0 [nd 4 0 [nd 5 0 [S]]]]]] := by
 obtain ⟨c, he⟩ : ∃ c, c = (((ByteArray.mk #[40, 40]) ++ s) ++ (ByteArray.mk #[41, 42, 41, 42])) := ⟨_, rfl⟩
 rw [← he] at hc
 have z1 : (ByteArray.mk #[40, 40]).size = 2 := rfl
 have z2 : (ByteArray.mk #[41, 42, 41, 42]).size = 4 := rfl
 have hz : c.size = s.size + 6 := by rw [he]; simp only [ByteArray.size_append]; omega
 have c0 : chr c 0 = 40 := by rw [he, chr3a (by omega)]; kernel_rfl
 have c1 : chr c 1 = 40 := by rw [he, chr3a (by omega)]; kernel_rfl
 have c2 : ∀ p : Int, p = s.size + 2 → chr c p = 41 := fun p e => by rw [he, chr3c (i := 0) (by omega) (by omega)]; kernel_rfl
 have c3 : ∀ p : Int, p = s.size + 3 → chr c p = 42 := fun p e => by rw [he, chr3c (i := 1) (by omega) (by omega)]; kernel_rfl
 have c4 : ∀ p : Int, p = s.size + 4 → chr c p = 41 := fun p e => by rw [he, chr3c (i := 2) (by omega) (by omega)]; kernel_rfl
 have c5 : ∀ p : Int, p = s.size + 5 → chr c p = 42 := fun p e => by rw [he, chr3c (i := 3) (by omega) (by omega)]; kernel_rfl
 have c6 : ∀ p : Int, p = s.size + 6 → chr c p = 0 := fun p e => chr_end (by omega)
 have i1 : InT s c 2 := ⟨by omega, fun p h0 h => by rw [he, chr3b (i := p) (by omega) h0 h], c2 _ (by omega), by omega⟩
 refine yes_full (qq := s.size + 5 + 1) (fun k => yes_pW (fun k => ?_) k) hc
 have w1 : ∀ k d, Yes (wholeS (pW c k) c 1 d) (nd 3 0 [nd 4 0 [nd 5 0 [S]]], (s.size : Int) + 3 + 1) := fun k d =>
  yes_whole1 (yes_row1 (yes_one1 (yes_in i1 hs (by omega) c1 (by omega)) (c3 _ (by omega)) (by rw [c4 _ (by omega)]; decide)) (begB_41 (c4 _ (by omega)))) (by rw [c4 _ (by omega)]; decide)
 have g1 : Yes (partS (pW c k) c 0 0) (nd 3 0 [nd 4 0 [nd 5 0 [S]]], (s.size : Int) + 5) := by
  have := yes_group (k := k) (d := 0) c0 (fun k d' => yes_pW (p := 0 + 1) (d := d') (fun k => w1 k d') k) (c4 _ (by omega))
  rw [show (s.size : Int) + 3 + 1 + 1 = s.size + 5 by omega] at this
  exact this
 exact yes_whole1 (yes_row1 (yes_one1 g1 (c5 _ rfl) (by rw [c6 _ (by omega)]; decide)) (begB_end (by omega))) (by rw [c6 _ (by omega)]; decide)
theorem tx3 (hs : fullS s = some S) (hc : fullS (((ByteArray.mk #[40]) ++ s) ++ (ByteArray.mk #[41, 42])) = some C) : C = nd 3 0 [nd 4 0 [nd 5 0 [S]]] := by
 obtain ⟨c, he⟩ : ∃ c, c = (((ByteArray.mk #[40]) ++ s) ++ (ByteArray.mk #[41, 42])) := ⟨_, rfl⟩
 rw [← he] at hc
 have z1 : (ByteArray.mk #[40]).size = 1 := rfl
 have z2 : (ByteArray.mk #[41, 42]).size = 2 := rfl
 have hz : c.size = s.size + 3 := by rw [he]; simp only [ByteArray.size_append]; omega
 have c0 : chr c 0 = 40 := by rw [he, chr3a (by omega)]; kernel_rfl
 have c2 : ∀ p : Int, p = s.size + 1 → chr c p = 41 := fun p e => by rw [he, chr3c (i := 0) (by omega) (by omega)]; kernel_rfl
 have c3 : ∀ p : Int, p = s.size + 2 → chr c p = 42 := fun p e => by rw [he, chr3c (i := 1) (by omega) (by omega)]; kernel_rfl
 have c6 : ∀ p : Int, p = s.size + 3 → chr c p = 0 := fun p e => chr_end (by omega)
 have i1 : InT s c 1 := ⟨by omega, fun p h0 h => by rw [he, chr3b (i := p) (by omega) h0 h], c2 _ (by omega), by omega⟩
 refine yes_full (qq := s.size + 2 + 1) (fun k => yes_pW (fun k => ?_) k) hc
 exact yes_whole1 (yes_row1 (yes_one1 (yes_in i1 hs (by omega) c0 (by omega)) (c3 _ rfl) (by rw [c6 _ (by omega)]; decide)) (begB_end (by omega))) (by rw [c6 _ (by omega)]; decide)
theorem tx4 (hs : fullS s = some S) (hc : fullS (((((ByteArray.mk #[40]) ++ s) ++ (ByteArray.mk #[41, 40, 49, 43, 40])) ++ s) ++ (ByteArray.mk #[41, 42, 41])) = some C) : C = nd 3 0 [nd 4 0 [S, nd 3 0 [nd 4 0 [nd 1 0 []], nd 4 0 [nd 5 0 [S]]]]] := by
 obtain ⟨c, he⟩ : ∃ c, c = (((((ByteArray.mk #[40]) ++ s) ++ (ByteArray.mk #[41, 40, 49, 43, 40])) ++ s) ++ (ByteArray.mk #[41, 42, 41])) := ⟨_, rfl⟩
 rw [← he] at hc
 have z1 : (ByteArray.mk #[40]).size = 1 := rfl
 have z2 : (ByteArray.mk #[41, 40, 49, 43, 40]).size = 5 := rfl
 have z3 : (ByteArray.mk #[41, 42, 41]).size = 3 := rfl
 have hz : c.size = s.size + s.size + 9 := by rw [he]; simp only [ByteArray.size_append]; omega
 have c0 : chr c 0 = 40 := by rw [he, chr5a (by omega)]; kernel_rfl
 have c1 : ∀ p : Int, p = s.size + 1 → chr c p = 41 := fun p e => by rw [he, chr5c (i := 0) (by omega) (by omega) (by omega)]; kernel_rfl
 have c2 : ∀ p : Int, p = s.size + 2 → chr c p = 40 := fun p e => by rw [he, chr5c (i := 1) (by omega) (by omega) (by omega)]; kernel_rfl
 have c3 : ∀ p : Int, p = s.size + 3 → chr c p = 49 := fun p e => by rw [he, chr5c (i := 2) (by omega) (by omega) (by omega)]; kernel_rfl
 have c4 : ∀ p : Int, p = s.size + 4 → chr c p = 43 := fun p e => by rw [he, chr5c (i := 3) (by omega) (by omega) (by omega)]; kernel_rfl
 have c5 : ∀ p : Int, p = s.size + 5 → chr c p = 40 := fun p e => by rw [he, chr5c (i := 4) (by omega) (by omega) (by omega)]; kernel_rfl
 have c6 : ∀ p : Int, p = s.size + s.size + 6 → chr c p = 41 := fun p e => by rw [he, chr5e (i := 0) (by omega) (by omega)]; kernel_rfl
 have c7 : ∀ p : Int, p = s.size + s.size + 7 → chr c p = 42 := fun p e => by rw [he, chr5e (i := 1) (by omega) (by omega)]; kernel_rfl
 have c8 : ∀ p : Int, p = s.size + s.size + 8 → chr c p = 41 := fun p e => by rw [he, chr5e (i := 2) (by omega) (by omega)]; kernel_rfl
 have c9 : ∀ p : Int, p = s.size + s.size + 9 → chr c p = 0 := fun p e => chr_end (by omega)
 have i1 : InT s c 1 := ⟨by omega, fun p h0 h => by rw [he, chr5b (i := p) (by omega) h0 h], c1 _ (by omega), by omega⟩
 have i2 : InT s c (s.size + 6) := ⟨by omega, fun p h0 h => by rw [he, chr5d (i := p) (by omega) h0 h], c6 _ (by omega), by omega⟩
 refine yes_full (qq := s.size + s.size + 9) (fun k => yes_pW (fun k => ?_) k) hc
 have w1 : ∀ k d, Yes (wholeS (pW c k) c ((s.size : Int) + 2 + 1) d) (nd 3 0 [nd 4 0 [nd 1 0 []], nd 4 0 [nd 5 0 [S]]], (s.size : Int) + s.size + 7 + 1) := fun k d => by
  have r1 : Yes (rowS (pW c k) c ((s.size : Int) + 2 + 1) d) (nd 4 0 [nd 1 0 []], (s.size : Int) + 2 + 1 + 1) := yes_row1 (yes_one0 (yes_digit (c3 _ (by omega))) (by rw [c4 _ (by omega)]; decide)) (begB_43 (c4 _ (by omega)))
  have r2 : Yes (rowS (pW c k) c ((s.size : Int) + 2 + 1 + 1 + 1) d) (nd 4 0 [nd 5 0 [S]], (s.size : Int) + s.size + 7 + 1) := yes_row1 (yes_one1 (yes_in i2 hs (by omega) (c5 _ (by omega)) (by omega)) (c7 _ (by omega)) (by rw [c8 _ (by omega)]; decide)) (begB_41 (c8 _ (by omega)))
  exact yes_whole2 r1 (c4 _ (by omega)) r2 (by rw [c8 _ (by omega)]; decide)
 have g1 : Yes (partS (pW c k) c ((s.size : Int) + 2) 0) (nd 3 0 [nd 4 0 [nd 1 0 []], nd 4 0 [nd 5 0 [S]]], (s.size : Int) + s.size + 9) := by
  have := yes_group (k := k) (d := 0) (c2 _ rfl) (fun k d' => yes_pW (fun k => w1 k d') k) (c8 _ (by omega))
  rw [show (s.size : Int) + s.size + 7 + 1 + 1 = s.size + s.size + 9 by omega] at this
  exact this
 exact yes_whole1 (yes_row2 (yes_one0 (yes_in i1 hs (by omega) c0 (by omega)) (by rw [c2 _ rfl]; decide)) (begB_40 (c2 _ rfl)) (yes_one0 g1 (by rw [c9 _ rfl]; decide)) (begB_end (by omega))) (by rw [c9 _ rfl]; decide)
theorem tx5 (hs : fullS s = some S) (hc : fullS (((((ByteArray.mk #[40]) ++ s) ++ (ByteArray.mk #[41, 42, 40])) ++ s) ++ (ByteArray.mk #[41])) = some C) : C = nd 3 0 [nd 4 0 [nd 5 0 [S], S]] := by
 obtain ⟨c, he⟩ : ∃ c, c = (((((ByteArray.mk #[40]) ++ s) ++ (ByteArray.mk #[41, 42, 40])) ++ s) ++ (ByteArray.mk #[41])) := ⟨_, rfl⟩
 rw [← he] at hc
 have z1 : (ByteArray.mk #[40]).size = 1 := rfl
 have z2 : (ByteArray.mk #[41, 42, 40]).size = 3 := rfl
 have z3 : (ByteArray.mk #[41]).size = 1 := rfl
 have hz : c.size = s.size + s.size + 5 := by rw [he]; simp only [ByteArray.size_append]; omega
 have c0 : chr c 0 = 40 := by rw [he, chr5a (by omega)]; kernel_rfl
 have c1 : ∀ p : Int, p = s.size + 1 → chr c p = 41 := fun p e => by rw [he, chr5c (i := 0) (by omega) (by omega) (by omega)]; kernel_rfl
 have c2 : ∀ p : Int, p = s.size + 2 → chr c p = 42 := fun p e => by rw [he, chr5c (i := 1) (by omega) (by omega) (by omega)]; kernel_rfl
 have c3 : ∀ p : Int, p = s.size + 3 → chr c p = 40 := fun p e => by rw [he, chr5c (i := 2) (by omega) (by omega) (by omega)]; kernel_rfl
 have c4 : ∀ p : Int, p = s.size + s.size + 4 → chr c p = 41 := fun p e => by rw [he, chr5e (i := 0) (by omega) (by omega)]; kernel_rfl
 have c5 : ∀ p : Int, p = s.size + s.size + 5 → chr c p = 0 := fun p e => chr_end (by omega)
 have i1 : InT s c 1 := ⟨by omega, fun p h0 h => by rw [he, chr5b (i := p) (by omega) h0 h], c1 _ (by omega), by omega⟩
 have i2 : InT s c (s.size + 4) := ⟨by omega, fun p h0 h => by rw [he, chr5d (i := p) (by omega) h0 h], c4 _ (by omega), by omega⟩
 refine yes_full (qq := s.size + s.size + 5) (fun k => yes_pW (fun k => ?_) k) hc
 exact yes_whole1 (yes_row2 (yes_one1 (yes_in i1 hs (by omega) c0 rfl) (c2 _ (by omega)) (by rw [c3 _ (by omega)]; decide)) (begB_40 (c3 _ (by omega))) (yes_one0 (yes_in i2 hs (by omega) (c3 _ (by omega)) (by omega)) (by rw [c5 _ rfl]; decide)) (begB_end (by omega))) (by rw [c5 _ rfl]; decide)
end
theorem szL_all {f : Nat → RTr → Prop} : ∀ {xs : List RTr} {n : Nat}, SzL f n xs → ∀ x ∈ xs, ∃ i, f i x
 | [], _, _, _, h => by cases h
 | y :: xs, n, h, x, hx => by
  obtain ⟨i, j, _, _, h3, h4⟩ := h
  rcases List.mem_cons.1 hx with rfl | hx
  ·exact ⟨i, h3⟩
  ·exact szL_all h4 x hx
theorem eithSem_congr {f g : RTr → List Int → Prop} : ∀ {xs : List RTr} {S : List Int → Prop}, (∀ x ∈ xs, f x = g x) → eithSem f xs S = eithSem g xs S
 | [], _, _ => rfl
 | x :: xs, S, h => by
  rw [eithSem, eithSem, h x List.mem_cons_self]
  exact eithSem_congr fun y hy => h y (List.mem_cons_of_mem _ hy)
theorem rowSem_congr {f g : RTr → List Int → Prop} : ∀ {xs : List RTr} {S : List Int → Prop}, (∀ x ∈ xs, f x = g x) → rowSem f xs S = rowSem g xs S
 | [], _, _ => rfl
 | x :: xs, S, h => by
  rw [rowSem, rowSem, h x List.mem_cons_self]
  exact rowSem_congr fun y hy => h y (List.mem_cons_of_mem _ hy)
theorem sem_fuel : ∀ (k n : Nat) (t : RTr), Sz k n t → ∀ k', k ≤ k' → sem k' t = sem k t
 | 0, _, _, h, _, _ => h.elim
 | k + 1, n, .node a kids, h, 0, hk => absurd hk (by omega)
 | k + 1, n, .node a kids, h, k' + 1, hk => by
  obtain ⟨_, _, hs⟩ := h
  have hall : ∀ x ∈ kids, sem k' x = sem k x := fun x hx => by
   obtain ⟨i, hi⟩ := szL_all hs x hx
   exact sem_fuel k i x hi k' (by omega)
  unfold sem
  rw [eithSem_congr hall]
  cases kids with
  | nil => rfl
  | cons x xs =>
   simp only
   rw [hall x List.mem_cons_self, rowSem_congr fun y hy => hall y (List.mem_cons_of_mem _ hy)]
theorem fullS_z2 {text : ByteArray} {t : RTr} (h : fullS text = some t) : Sz (3 * text.size) (3 * text.size) t := by
 have hr := fullS_end h
 obtain ⟨n, k1, _, k3⟩ := pW_z _ 0 0 _ (Int.le_refl _) (Int.natCast_nonneg _) hr
 simp only at k1 k3
 exact k3.mono (by omega) (by omega)
def wordsT (t : RTr) : List Int → Prop := sem 12000 t
theorem sem_of {s : ByteArray} {S : RTr} (hs : fullS s = some S) (hl : s.size ≤ 100) {k : Nat} (hk : 300 ≤ k) : sem k S = wordsT S := by
 have hz := fullS_z2 hs
 unfold wordsT
 rw [sem_fuel _ _ _ hz k (by omega), sem_fuel _ _ _ hz 12000 (by omega)]
theorem sem_node {k : Nat} {a : RLab} {kids : List RTr} : sem (k + 1) (.node a kids) = if a.fKind = 0 then fun _ => False else if a.fKind = 1 then fun w => w = [] else if a.fKind = 2 then fun w => w = [a.fLetter] else if a.fKind = 3 then eithSem (sem k) kids fun _ => False else match kids with
      | [] => fun _ => False
      | x :: xs => if a.fKind = 4 then rowSem (sem k) xs (sem k x) else Star (sem k x) := rfl
theorem sem3 {k : Nat} {l : List RTr} : sem (k + 1) (nd 3 0 l) = eithSem (sem k) l fun _ => False := by
 unfold nd
 rw [sem_node]
 simp
theorem sem4 {k : Nat} {x : RTr} {l : List RTr} : sem (k + 1) (nd 4 0 (x :: l)) = rowSem (sem k) l (sem k x) := by
 unfold nd
 rw [sem_node]
 simp
theorem sem5 {k : Nat} {x : RTr} : sem (k + 1) (nd 5 0 [x]) = Star (sem k x) := by
 unfold nd
 rw [sem_node]
 simp
theorem sem1 {k : Nat} : sem (k + 1) (nd 1 0 []) = fun w => w = [] := by
 unfold nd
 rw [sem_node]
 simp
section
variable {s t : ByteArray} {S T : RTr}
theorem words1 (hs : fullS s = some S) (hl : s.size ≤ 100) (ht : fullS t = some T) (hl2 : t.size ≤ 100) (w : List Int) : wordsT (nd 3 0 [nd 4 0 [S], nd 4 0 [T]]) w ↔ wordsT S w ∨ wordsT T w := by
 show sem (11998 + 1 + 1) _ w ↔ _
 rw [sem3, eithSem, eithSem, eithSem, sem4, sem4, rowSem, rowSem, sem_of hs hl (by omega), sem_of ht hl2 (by omega), false_or]
theorem words3 (hs : fullS s = some S) (hl : s.size ≤ 100) (w : List Int) : wordsT (nd 3 0 [nd 4 0 [nd 5 0 [S]]]) w ↔ Star (wordsT S) w := by
 show sem (11997 + 1 + 1 + 1) _ w ↔ _
 rw [sem3, eithSem, eithSem, sem4, rowSem, sem5, sem_of hs hl (by omega), false_or]
theorem words2 (hs : fullS s = some S) (hl : s.size ≤ 100) (w : List Int) : wordsT (nd 3 0 [nd 4 0 [nd 5 0 [nd 3 0 [nd 4 0 [nd 5 0 [S]]]]]]) w ↔ Star (wordsT S) w := by
 show sem (11994 + 1 + 1 + 1 + 1 + 1 + 1) _ w ↔ _
 rw [sem3, eithSem, eithSem, sem4, rowSem, sem5, false_or, sem3, eithSem, eithSem, sem4, rowSem, sem5, sem_of hs hl (by omega)]
 rw [show (fun w => False ∨ Star (wordsT S) w) = Star (wordsT S) from funext fun w => false_or _]
 exact star_star w
theorem words5 (hs : fullS s = some S) (hl : s.size ≤ 100) (w : List Int) : wordsT (nd 3 0 [nd 4 0 [nd 5 0 [S], S]]) w ↔ Cat (Star (wordsT S)) (wordsT S) w := by
 show sem (11997 + 1 + 1 + 1) _ w ↔ _
 rw [sem3, eithSem, eithSem, sem4, rowSem, rowSem, sem5, sem_of hs hl (by omega), sem_of hs hl (by omega), false_or]
theorem words4 (hs : fullS s = some S) (hl : s.size ≤ 100) (w : List Int) : wordsT (nd 3 0 [nd 4 0 [S, nd 3 0 [nd 4 0 [nd 1 0 []], nd 4 0 [nd 5 0 [S]]]]]) w ↔ Cat (wordsT S) (Star (wordsT S)) w := by
 show sem (11995 + 1 + 1 + 1 + 1 + 1) _ w ↔ _
 rw [sem3, eithSem, eithSem, sem4, rowSem, rowSem, sem_of hs hl (by omega), false_or, sem3, eithSem, eithSem, eithSem, sem4, sem4, rowSem, rowSem, sem1, sem5, sem_of hs hl (by omega)]
 have : (fun w => (False ∨ w = []) ∨ Star (wordsT S) w) = Star (wordsT S) := funext fun w => propext ⟨fun h => h.elim (fun h => h.elim False.elim fun h => ⟨[], h, fun _ h => by cases h⟩) id, .inr⟩
 rw [this]
end
theorem langT_eq {t u : RTr} (h : ∀ w, wordsT t w ↔ wordsT u w) (w : List Nat) : langT t w = langT u w := by
 rcases langT_01 (t := t) (w := w) with h1 | h1 <;> rcases langT_01 (t := u) (w := w) with h2 | h2
 ·rw [h1, h2]
 ·have := langT_iff.2 ((h _).2 (langT_iff.1 h2))
  omega
 ·have := langT_iff.2 ((h _).1 (langT_iff.1 h1))
  omega
 ·rw [h1, h2]
end Go.Proofs.Ytapnmjeadbhffaa


namespace Go.Proofs.Ytapnmjeadbhffaa
open Go.RowKit Go.MapKept
set_option linter.unusedSimpArgs false
set_option linter.unusedVariables false
set_option maxRecDepth 100000
set_option linter.unusedSectionVars false
section
variable {d : ApiDet}
end
end Go.Proofs.Ytapnmjeadbhffaa

