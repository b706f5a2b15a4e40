/- Lemmas towards the statement: mirrors of functions, and plain laws. No condition. -/
import Derived.Test.YtapnmjeadbhffaaPackMonoidPowers6


namespace Go.Proofs.Ytapnmjeadbhffaa
open Go.RowKit Go.MapKept
set_option linter.unusedSimpArgs false
set_option linter.unusedVariables false
set_option maxRecDepth 100000
def fullS (text : ByteArray) : Option RTr := if 4000 < text.size then none else match pW text (text.size + 1) 0 0 with
 | none => none
 | some r => if r.2 < text.size then none else some r.1
def ParsedQ (text : ByteArray) (r : Option RTr × ApiFault) : Prop := match fullS text with
 | some t => r = (some t, ⟨0, 0⟩)
 | none => r.1 = none ∧ r.2.fCode ≠ 0
theorem rParsed_ct (text : ByteArray) : Ct 70 [.sv (.one (.v (.string text)))] [] (ParsedQ text) (fun (r : (Option (Tr RLab) × ApiFault)) => .tup [.one (.rd (optR rLab r.1)), .agg [I r.2.fCode, I r.2.fAt]]) := by
 refine rParsed_walk text (ParsedQ text) ?_
 unfold rParsed_vc ParsedQ fullS
 refine ⟨fun hb => ?_, fun hb => ⟨⟨?_, ⟨by decide, ?_, ?_⟩, by decide, by decide⟩, fun hN code at_ hc => ?_, fun r hr => ⟨fun hb2 => ⟨by decide, fun code at_ hc => ?_⟩, fun hb2 => ?_⟩⟩⟩
 ·have : 4000 < text.size := by have := of_decide_eq_true hb; omega
  rw [if_pos this]
  exact ⟨rfl, by show (1 : Int) ≠ 0; decide⟩
 ·have := of_decide_eq_false hb
  omega
 ·omega
 ·push_cast
  omega
 ·have : ¬ 4000 < text.size := by have := of_decide_eq_false hb; omega
  rw [if_neg this, hN]
  exact ⟨rfl, hc⟩
 ·have : ¬ 4000 < text.size := by have := of_decide_eq_false hb; omega
  have h2 : r.2 < text.size := of_decide_eq_true hb2
  rw [if_neg this, hr]
  simp only [if_pos h2]
  exact ⟨trivial, hc⟩
 ·have : ¬ 4000 < text.size := by have := of_decide_eq_false hb; omega
  have h2 : ¬ r.2 < text.size := of_decide_eq_false hb2
  rw [if_neg this, hr]
  simp only [if_neg h2]
def strIdx (f : Int → Bool) (truth : Bool) (s : ByteArray) : Nat → Nat → Int
 | 0, _ => -1
 | n + 1, q => if q < s.size then if (f (((Utf8.decode s q).1 : Nat) : Int) == truth) = true then (q : Int) else strIdx f truth s n (q + (Utf8.decode s q).2) else -1
def sIdxF_vc (s : ByteArray) (domf : (Int → Prop)) (f : (Int → Bool)) (truth : Bool) (Q : Int → Prop) : Prop :=
 ∃ (Inv : Nat → Prop) (mu : Nat → Nat), Inv 0 ∧
 ∀ (q0 : Nat) , Inv q0 → (IfP (decide (q0 < s.size)) ((domf (((Utf8.decode s q0).1 : Nat) : Int)) ∧
 IfP ((f (((Utf8.decode s q0).1 : Nat) : Int)) == truth) (Q ((q0 : Nat) : Int)) ((Inv (q0 + (Utf8.decode s q0).2) ∧ mu (q0 + (Utf8.decode s q0).2) < mu q0))) (Q (-1)))
theorem sIdxF_walk (s : ByteArray) (domf : (Int → Prop)) (f : (Int → Bool)) (truth : Bool) (Q : Int → Prop) (h : sIdxF_vc s domf f truth Q) : Ct 210 [.sv (.one (.v (.string s))), .sv (.one (.rd (fvR (fun (x : Int) => [.sv (.one (.v (.int .i32 x)))]) (fun (r : Bool) => .sv (.one (B r))) domf f))), .sv (.one (B truth))] [] Q (fun (r : Int) => .sv (.one (I r))) := by
 have ht := tab_ok
 refine Ct.body Try.func210 rfl rfl rfl rfl (fun c hn => ?_)
 unfold sIdxF_vc at h
 refine En.seq ?_
 refine En.region ?_
 refine WL.run ht hn 1 ⟨[sl 0 (.v (.string s)), sl 1 (.rd (fvR (fun (x : Int) => [.sv (.one (.v (.int .i32 x)))]) (fun (r : Bool) => .sv (.one (B r))) domf f)), sl 2 (B truth)], []⟩ (by kernel_rfl) ?_
 refine WL.nil ?_
 refine En.seq ?_
 refine En.seq ?_
 refine En.region ?_
 refine WL.run ht hn 1 ⟨[sl 1 (.rd (fvR (fun (x : Int) => [.sv (.one (.v (.int .i32 x)))]) (fun (r : Bool) => .sv (.one (B r))) domf f)), sl 2 (B truth), sl 9 (.v (.string s))], []⟩ (by kernel_rfl) ?_
 refine WL.mt0 (K := []) (p := some (0, .siter s 0)) hn (by rfl) (mt_rangeS 0 rfl Try.underlying9 (by rfl)) (by rfl) (by rfl) (by rfl) ?_
 refine WL.nil ?_
 refine En.block ?_
 obtain ⟨Inv, mu, h0, hI⟩ := h
 refine En.loop (σ := Nat) (fun zz => Inv zz) (fun zz => mu zz) (fun zz => ⟨[sl 1 (.rd (fvR (fun (x : Int) => [.sv (.one (.v (.int .i32 x)))]) (fun (r : Bool) => .sv (.one (B r))) domf f)), sl 2 (B truth), sl 10 (.own 0)], [.siter s zz]⟩) 0 h0 (sub_ok (by kernel_rfl)) ?_
 intro q0 h
 replace h := hI _ h
 show En c ⟨[sl 1 (.rd (fvR (fun (x : Int) => [.sv (.one (.v (.int .i32 x)))]) (fun (r : Bool) => .sv (.one (B r))) domf f)), sl 2 (B truth), sl 10 (.own 0)], [.siter s q0]⟩ _
 refine En.seq ?_
 refine En.region ?_
 refine WL.nextS (r := 0) (s := s) (pos := q0) hn (by rfl) rfl (by rfl) (by rfl) (fun hl => ⟨_, by rfl, ?_⟩) (fun hl => ⟨_, by rfl, ?_⟩)
 replace h := h.2 hl
 refine WL.run ht hn 1 ⟨[sl 1 (.rd (fvR (fun (x : Int) => [.sv (.one (.v (.int .i32 x)))]) (fun (r : Bool) => .sv (.one (B r))) domf f)), sl 2 (B truth), sl 10 (.own 0), (11, .tup [.one (B false)]), sl 12 (B false)], [.siter s q0]⟩ (by kernel_rfl) ?_
 refine WL.nil ?_
 refine En.seq ?_
 refine En.cond (b := false) (by kernel_rfl) (fun hb => ?_) (fun hb => ?_)
 cases hb
 refine En.exit rfl ?_
 refine En.seq ?_
 refine En.region ?_
 refine WL.run ht hn 1 ⟨[sl 6 (I (-1))], [.gone]⟩ (by kernel_rfl) ?_
 refine WL.nil ?_
 refine En.ret ?_
 exact En.back ht (-1) h (by kernel_rfl) rfl
 replace h := h.1 hl
 refine WL.run ht hn 1 ⟨[sl 1 (.rd (fvR (fun (x : Int) => [.sv (.one (.v (.int .i32 x)))]) (fun (r : Bool) => .sv (.one (B r))) domf f)), sl 2 (B truth), sl 10 (.own 0), (11, .tup [.one (B true), .one (I ((q0 : Nat) : Int)), .one (.v (.int .i32 (((Utf8.decode s q0).1 : Nat) : Int)))]), sl 12 (B true)], [.siter s (q0 + (Utf8.decode s q0).2)]⟩ (by kernel_rfl) ?_
 refine WL.nil ?_
 refine En.seq ?_
 refine En.cond (b := true) (by kernel_rfl) (fun hb => ?_) (fun hb => ?_)
 refine En.skip ?_
 refine En.block ?_
 refine En.seq ?_
 refine En.region ?_
 refine WL.run ht hn 4 ⟨[sl 1 (.rd (fvR (fun (x : Int) => [.sv (.one (.v (.int .i32 x)))]) (fun (r : Bool) => .sv (.one (B r))) domf f)), sl 2 (B truth), sl 7 (I ((q0 : Nat) : Int)), sl 8 (.v (.int .i32 (((Utf8.decode s q0).1 : Nat) : Int))), sl 10 (.own 0)], [.siter s (q0 + (Utf8.decode s q0).2)]⟩ (by kernel_rfl) ?_
 refine WL.nil ?_
 refine En.seq ?_
 refine En.region ?_
 refine WL.run ht hn 2 ⟨[sl 1 (.rd (fvR (fun (x : Int) => [.sv (.one (.v (.int .i32 x)))]) (fun (r : Bool) => .sv (.one (B r))) domf f)), sl 2 (B truth), sl 7 (I ((q0 : Nat) : Int)), sl 10 (.own 0), sl 15 (.rd (fvR (fun (x : Int) => [.sv (.one (.v (.int .i32 x)))]) (fun (r : Bool) => .sv (.one (B r))) domf f)), sl 16 (.v (.int .i32 (((Utf8.decode s q0).1 : Nat) : Int)))], [.siter s (q0 + (Utf8.decode s q0).2)]⟩ (by kernel_rfl) ?_
 have hp := h.1
 replace h := h.2
 refine WL.mt0 (K := []) (p := none) hn (by rfl) (mt_callv (((Utf8.decode s q0).1 : Nat) : Int) hp rfl (by rfl) (by rfl) (by rfl) (by rfl)) (by rfl) (by rfl) (by rfl) ?_
 refine WL.run ht hn 1 ⟨[sl 1 (.rd (fvR (fun (x : Int) => [.sv (.one (.v (.int .i32 x)))]) (fun (r : Bool) => .sv (.one (B r))) domf f)), sl 2 (B truth), sl 7 (I ((q0 : Nat) : Int)), sl 10 (.own 0), sl 17 (B (f (((Utf8.decode s q0).1 : Nat) : Int))), sl 18 (B truth)], [.siter s (q0 + (Utf8.decode s q0).2)]⟩ (by kernel_rfl) ?_
 refine WL.val hn (by rfl) (val_eqB (u := (f (((Utf8.decode s q0).1 : Nat) : Int))) (v := truth) rfl Try.underlying4 (by rfl) (by rfl) (.inl ⟨rfl, rfl⟩)) (by rfl) ?_
 refine WL.nil ?_
 refine En.cond (b := ((f (((Utf8.decode s q0).1 : Nat) : Int)) == truth)) (by kernel_rfl) (fun hb => ?_) (fun hb => ?_)
 replace h := h.1 hb
 refine En.seq ?_
 refine En.region ?_
 refine WL.run ht hn 2 ⟨[sl 6 (I ((q0 : Nat) : Int))], [.gone]⟩ (by kernel_rfl) ?_
 refine WL.nil ?_
 refine En.ret ?_
 exact En.back ht ((q0 : Nat) : Int) h (by kernel_rfl) rfl
 replace h := h.2 hb
 refine En.skip ?_
 exact En.at (I := fun zz => Inv zz ∧ mu zz < mu q0) (T := fun zz => ⟨[sl 1 (.rd (fvR (fun (x : Int) => [.sv (.one (.v (.int .i32 x)))]) (fun (r : Bool) => .sv (.one (B r))) domf f)), sl 2 (B truth), sl 10 (.own 0)], [.siter s zz]⟩) (q0 + (Utf8.decode s q0).2) h (by kernel_rfl)
 cases hb
theorem en210 : ∀ args w, (callFunc 210 args).run Try.prog w = .ok (.enter 210 args) w := enters_of Try.func210 (by kernel_rfl) rfl
theorem sIdxF_ct (s : ByteArray) (domf : (Int → Prop)) (f : (Int → Bool)) (truth : Bool) (hd : ∀ x, domf x)  : Ct 210 [.sv (.one (.v (.string s))), .sv (.one (.rd (fvR (fun (x : Int) => [.sv (.one (.v (.int .i32 x)))]) (fun (r : Bool) => .sv (.one (B r))) domf f))), .sv (.one (B truth))] [] (fun (_ : Unit) => True) (fun _ => .sv (.one (I (strIdx f truth s (s.size + 1) 0)))) := by
 refine (sIdxF_walk s domf f truth (fun res_ => res_ = (strIdx f truth s (s.size + 1) 0)) ?_).fun
 unfold sIdxF_vc
 refine ⟨fun q => ∃ n : Nat, s.size < n + q ∧ strIdx f truth s n q = strIdx f truth s (s.size + 1) 0, fun q => s.size - q, ⟨s.size + 1, by omega, rfl⟩, ?_⟩
 rintro q ⟨n, hn, he⟩
 refine ⟨fun hb => ⟨hd _, ?_⟩, fun hb => ?_⟩
 ·have hlt : q < s.size := of_decide_eq_true hb
  have hw := dec_width s q hlt
  cases n with
  | zero => omega
  | succ n =>
   rw [strIdx, if_pos hlt] at he
   refine ⟨fun hb2 => ?_, fun hb2 => ⟨⟨n, by omega, ?_⟩, ?_⟩⟩
   ·rw [if_pos hb2] at he
    exact he
   ·rw [if_neg (by rw [hb2]; decide)] at he
    exact he
   ·show s.size - (q + _) < s.size - q
    omega
 ·have hge : ¬ q < s.size := of_decide_eq_false hb
  cases n with
  | zero => rw [strIdx] at he; exact he
  | succ n => rw [strIdx, if_neg hge] at he; exact he
def sIdx_vc (s : ByteArray) (domf : (Int → Prop)) (f : (Int → Bool)) (Q : Int → Prop) : Prop :=
 (∀ x_ : Int, domf x_) ∧
 Q (strIdx f true s ((s).size + 1) 0)
theorem sIdx_walk (s : ByteArray) (domf : (Int → Prop)) (f : (Int → Bool)) (Q : Int → Prop) (h : sIdx_vc s domf f Q) : Ct 157 [.sv (.one (.v (.string s))), .sv (.one (.rd (fvR (fun (x : Int) => [.sv (.one (.v (.int .i32 x)))]) (fun (r : Bool) => .sv (.one (B r))) domf f)))] [] Q (fun (r : Int) => .sv (.one (I r))) := by
 have ht := tab_ok
 refine Ct.body Try.func157 rfl rfl rfl rfl (fun c hn => ?_)
 unfold sIdx_vc at h
 refine En.seq ?_
 refine En.region ?_
 refine WL.run ht hn 1 ⟨[sl 0 (.v (.string s)), sl 1 (.rd (fvR (fun (x : Int) => [.sv (.one (.v (.int .i32 x)))]) (fun (r : Bool) => .sv (.one (B r))) domf f))], []⟩ (by kernel_rfl) ?_
 refine WL.nil ?_
 refine En.seq ?_
 refine En.region ?_
 refine WL.run ht hn 2 ⟨[sl 5 (.v (.string s)), sl 6 (.rd (fvR (fun (x : Int) => [.sv (.one (.v (.int .i32 x)))]) (fun (r : Bool) => .sv (.one (B r))) domf f))], []⟩ (by kernel_rfl) ?_
 have hp := h.1
 replace h := h.2
 refine WL.mt0 (K := []) (p := none) hn (by rfl) (mt_call (sIdxF_ct s domf f true hp) en210 (caps := []) [] rfl (by rfl) (by kernel_rfl) (by kernel_rfl) (by rfl) (by rfl) (by rfl)) (by rfl) (by rfl) (by rfl) ?_
 refine WL.run ht hn 1 ⟨[sl 4 (I (strIdx f true s ((s).size + 1) 0))], []⟩ (by kernel_rfl) ?_
 refine WL.nil ?_
 refine En.ret ?_
 exact En.back ht (strIdx f true s ((s).size + 1) 0) h (by kernel_rfl) rfl
theorem en157 : ∀ args w, (callFunc 157 args).run Try.prog w = .ok (.enter 157 args) w := enters_of Try.func157 (by kernel_rfl) rfl
theorem sIdx_ct (s : ByteArray) (domf : (Int → Prop)) (f : (Int → Bool)) (hd : ∀ x, domf x)  : Ct 157 [.sv (.one (.v (.string s))), .sv (.one (.rd (fvR (fun (x : Int) => [.sv (.one (.v (.int .i32 x)))]) (fun (r : Bool) => .sv (.one (B r))) domf f)))] [] (fun (_ : Unit) => True) (fun _ => .sv (.one (I (strIdx f true s (s.size + 1) 0)))) := by
 refine (sIdx_walk s domf f (fun res_ => res_ = (strIdx f true s (s.size + 1) 0)) ?_).fun
 exact ⟨hd, rfl⟩
def sHas_vc (s : ByteArray) (domf : (Int → Prop)) (f : (Int → Bool)) (Q : Bool → Prop) : Prop :=
 (∀ x_ : Int, domf x_) ∧
 Q (decide ((strIdx f true s ((s).size + 1) 0) ≥ 0))
theorem sHas_walk (s : ByteArray) (domf : (Int → Prop)) (f : (Int → Bool)) (Q : Bool → Prop) (h : sHas_vc s domf f Q) : Ct 71 [.sv (.one (.v (.string s))), .sv (.one (.rd (fvR (fun (x : Int) => [.sv (.one (.v (.int .i32 x)))]) (fun (r : Bool) => .sv (.one (B r))) domf f)))] [] Q (fun (r : Bool) => .sv (.one (B r))) := by
 have ht := tab_ok
 refine Ct.body Try.func71 rfl rfl rfl rfl (fun c hn => ?_)
 unfold sHas_vc at h
 refine En.seq ?_
 refine En.region ?_
 refine WL.run ht hn 1 ⟨[sl 0 (.v (.string s)), sl 1 (.rd (fvR (fun (x : Int) => [.sv (.one (.v (.int .i32 x)))]) (fun (r : Bool) => .sv (.one (B r))) domf f))], []⟩ (by kernel_rfl) ?_
 refine WL.nil ?_
 refine En.seq ?_
 refine En.region ?_
 refine WL.run ht hn 2 ⟨[sl 5 (.v (.string s)), sl 6 (.rd (fvR (fun (x : Int) => [.sv (.one (.v (.int .i32 x)))]) (fun (r : Bool) => .sv (.one (B r))) domf f))], []⟩ (by kernel_rfl) ?_
 have hp := h.1
 replace h := h.2
 refine WL.mt0 (K := []) (p := none) hn (by rfl) (mt_call (sIdx_ct s domf f hp) en157 (caps := []) [] rfl (by rfl) (by kernel_rfl) (by kernel_rfl) (by rfl) (by rfl) (by rfl)) (by rfl) (by rfl) (by rfl) ?_
 refine WL.run ht hn 2 ⟨[sl 4 (B (decide ((strIdx f true s ((s).size + 1) 0) ≥ 0)))], []⟩ (by kernel_rfl) ?_
 refine WL.nil ?_
 refine En.ret ?_
 exact En.back ht (decide ((strIdx f true s ((s).size + 1) 0) ≥ 0)) h (by kernel_rfl) rfl
theorem en71 : ∀ args w, (callFunc 71 args).run Try.prog w = .ok (.enter 71 args) w := enters_of Try.func71 (by kernel_rfl) rfl
theorem sHas_ct (s : ByteArray) (domf : (Int → Prop)) (f : (Int → Bool)) (hd : ∀ x, domf x)  : Ct 71 [.sv (.one (.v (.string s))), .sv (.one (.rd (fvR (fun (x : Int) => [.sv (.one (.v (.int .i32 x)))]) (fun (r : Bool) => .sv (.one (B r))) domf f)))] [] (fun (_ : Unit) => True) (fun _ => .sv (.one (B (decide (0 ≤ strIdx f true s (s.size + 1) 0))))) := by
 refine (sHas_walk s domf f (fun res_ => res_ = (decide (0 ≤ strIdx f true s (s.size + 1) 0))) ?_).fun
 exact ⟨hd, rfl⟩
def rgD1_vc (ch : Int) (m : Int) (Q : Bool → Prop) : Prop :=
 Q ((decide (ch ≥ (IntKind.wrap .i32 (97 + (IntKind.wrap .i32 m))))) && (decide (ch ≤ 100)))
noncomputable abbrev qrgD10 (ch : Int) (m : Int) := (decide (ch ≥ (IntKind.wrap .i32 (97 + (IntKind.wrap .i32 m)))))
theorem rgD1_walk (ch : Int) (m : Int) (Q : Bool → Prop) (h : rgD1_vc ch m Q) : Ct 72 [.sv (.one (.v (.int .i32 ch))), .sv (.one (.ptr 0 0))] [.box [I m] 3 true] Q (fun (r : Bool) => .sv (.one (B r))) := by
 have ht := tab_ok
 refine Ct.body Try.func72 rfl rfl rfl rfl (fun c hn => ?_)
 unfold rgD1_vc at h
 refine En.seq ?_
 refine En.region ?_
 refine WL.run ht hn 1 ⟨[sl 0 (.v (.int .i32 ch)), sl 1 (.ptr 0 0)], [.box [I m] 3 true]⟩ (by kernel_rfl) ?_
 refine WL.nil ?_
 refine En.seq ?_
 refine En.region ?_
 refine WL.run ht hn 6 ⟨[sl 0 (.v (.int .i32 ch)), sl 9 (B (qrgD10 ch m))], [.gone]⟩ (by kernel_rfl) ?_
 refine WL.thru ⟨[sl 3 (B ((qrgD10 ch m) && (decide (ch ≤ 100))))], [.gone]⟩ ?_ ?_
 refine splitB (qrgD10 ch m) (fun hb0 => ?_) (fun hb0 => ?_)
 refine WL.setB 9 hb0 (by kernel_rfl) ?_
 refine WL.run ht hn 4 ⟨[sl 3 (B (decide (ch ≤ 100)))], [.gone]⟩ (by kernel_rfl) ?_
 exact WL.nil (sub_ok (by simp only [hb0]; kernel_rfl))
 refine WL.setB 9 hb0 (by kernel_rfl) ?_
 refine WL.run ht hn 4 ⟨[sl 3 (B false)], [.gone]⟩ (by kernel_rfl) ?_
 exact WL.nil (sub_ok (by simp only [hb0]; kernel_rfl))
 refine En.ret ?_
 exact En.back ht ((qrgD10 ch m) && (decide (ch ≤ 100))) h (by kernel_rfl) rfl
theorem en72 : ∀ args w, (callFunc 72 args).run Try.prog w = .ok (.enter 72 args) w := enters_of Try.func72 (by kernel_rfl) rfl
def rgD2_vc (st : Int) (a : Int) (good : (List Bool)) (p : RegularPlaces) (Q : Int → Prop) : Prop :=
 ∃ (Inv : Int → Int → Prop) (mu : Int → Int → Nat), Inv 0 0 ∧
 ∀ (x7 : Int) (x13 : Int) , Inv x7 x13 → (IfP (decide (x13 < (good.length : Int))) (∃ J : Int → Prop, ((0 ≤ x13) ∧
 IfP ((bitsI .and .i64 (Int.fdiv st (2 ^ (min (x13).toNat 64))) 1) == 0) (J x7) (∃ e, idx p.fNext x13 = some e ∧
 ∃ (Inv_2 : Int → Int → Prop) (mu_2 : Int → Int → Nat), Inv_2 x7 0 ∧
 ∀ (x7_3 : Int) (x29 : Int) , Inv_2 x7_3 x29 → (IfP (decide (x29 < (e.length : Int))) (∃ J_2 : Int → Prop, (∃ e_2, idx e x29 = some e_2 ∧
 ∃ e_3, idx p.fLetters e_2 = some e_3 ∧
 IfP (e_3 == a) ((0 ≤ e_2) ∧
 J_2 (bitsI .or .i64 x7_3 (wr (1 * (2 ^ (min (e_2).toNat 64)))))) (J_2 x7_3)) ∧
 (∀ (x7_4 : Int), J_2 x7_4 → (Inv_2 x7_4 (wr (x29 + 1)) ∧ mu_2 x7_4 (wr (x29 + 1)) < mu_2 x7_3 x29))) (J x7_3)))) ∧
 (∀ (x7_2 : Int), J x7_2 → (Inv x7_2 (wr (x13 + 1)) ∧ mu x7_2 (wr (x13 + 1)) < mu x7 x13))) (Q x7))
noncomputable abbrev qrgD20 (p : RegularPlaces) := (svR (.agg [LS intT p.fLetters, LS (lsT intT) p.fNext]))
noncomputable abbrev qrgD21 (good : (List Bool)) := (I (good.length : Int))
theorem rgD2_walk (st : Int) (a : Int) (good : (List Bool)) (p : RegularPlaces) (Q : Int → Prop) (h : rgD2_vc st a good p Q) : Ct 75 [.sv (.one (I st)), .sv (.one (I a)), .sv (.one (.ptr 0 0)), .sv (.one (.ptr 1 0))] [.box [LS boolT good] 56 true, .box [.pe (svR (.agg [LS intT p.fLetters, LS (lsT intT) p.fNext])) 2] 157 true] Q (fun (r : Int) => .sv (.one (I r))) := by
 have ht := tab_ok
 refine Ct.body Try.func75 rfl rfl rfl rfl (fun c hn => ?_)
 unfold rgD2_vc at h
 refine En.seq ?_
 refine En.region ?_
 refine WL.run ht hn 1 ⟨[sl 0 (I st), sl 1 (I a), sl 2 (.ptr 0 0), sl 3 (.ptr 1 0)], [.box [LS boolT good] 56 true, .box [.pe (qrgD20 p) 2] 157 true]⟩ (by kernel_rfl) ?_
 refine WL.nil ?_
 refine En.seq ?_
 refine En.region ?_
 refine WL.run ht hn 1 ⟨[sl 0 (I st), sl 1 (I a), sl 2 (.ptr 0 0), sl 3 (.ptr 1 0), sl 7 (I 0)], [.box [LS boolT good] 56 true, .box [.pe (qrgD20 p) 2] 157 true]⟩ (by kernel_rfl) ?_
 refine WL.nil ?_
 refine En.seq ?_
 refine En.seq ?_
 refine En.region ?_
 refine WL.run ht hn 3 ⟨[sl 0 (I st), sl 1 (I a), sl 3 (.ptr 1 0), sl 7 (I 0), sl 12 (qrgD21 good), sl 13 (I 0)], [.gone, .box [.pe (qrgD20 p) 2] 157 true]⟩ (by kernel_rfl) ?_
 refine WL.nil ?_
 refine En.block ?_
 obtain ⟨Inv, mu, h0_2, hI_2⟩ := h
 refine En.loop (σ := Int × Int) (fun zz => Inv zz.1 zz.2) (fun zz => mu zz.1 zz.2) (fun zz => ⟨[sl 0 (I st), sl 1 (I a), sl 3 (.ptr 1 0), sl 7 (I zz.1), sl 12 (qrgD21 good), sl 13 (I zz.2)], [.gone, .box [.pe (qrgD20 p) 2] 157 true]⟩) (0, 0) h0_2 (sub_ok (by kernel_rfl)) ?_
 rintro ⟨x7, x13⟩ h
 replace h := hI_2 _ _ h
 show En c ⟨[sl 0 (I st), sl 1 (I a), sl 3 (.ptr 1 0), sl 7 (I x7), sl 12 (qrgD21 good), sl 13 (I x13)], [.gone, .box [.pe (qrgD20 p) 2] 157 true]⟩ _
 refine En.seq ?_
 refine En.region ?_
 refine WL.run ht hn 1 ⟨[sl 0 (I st), sl 1 (I a), sl 3 (.ptr 1 0), sl 7 (I x7), sl 12 (qrgD21 good), sl 13 (I x13), sl 14 (B (decide (x13 < (good.length : Int))))], [.gone, .box [.pe (qrgD20 p) 2] 157 true]⟩ (by kernel_rfl) ?_
 refine WL.nil ?_
 refine En.seq ?_
 refine En.cond (b := (decide (x13 < (good.length : Int)))) (by kernel_rfl) (fun hb => ?_) (fun hb => ?_)
 replace h := h.1 hb
 refine En.skip ?_
 obtain ⟨J, h, hJ⟩ := h
 refine En.seqJ (σ := Int) (fun zz => J zz) (fun zz => ⟨[sl 0 (I st), sl 1 (I a), sl 3 (.ptr 1 0), sl 7 (I zz), sl 12 (qrgD21 good), sl 13 (I x13)], [.gone, .box [.pe (qrgD20 p) 2] 157 true]⟩) ?_ ?_
 refine En.block ?_
 refine En.seq ?_
 refine En.region ?_
 refine WL.run ht hn 2 ⟨[sl 0 (I st), sl 1 (I a), sl 3 (.ptr 1 0), sl 7 (I x7), sl 8 (I x13), sl 12 (qrgD21 good), sl 13 (I x13)], [.gone, .box [.pe (qrgD20 p) 2] 157 true]⟩ (by kernel_rfl) ?_
 refine WL.nil ?_
 refine En.seq ?_
 refine En.seq ?_
 refine En.region ?_
 refine WL.run ht hn 2 ⟨[sl 0 (I st), sl 1 (I a), sl 3 (.ptr 1 0), sl 7 (I x7), sl 8 (I x13), sl 12 (qrgD21 good), sl 13 (I x13), sl 16 (I st), sl 17 (I x13)], [.gone, .box [.pe (qrgD20 p) 2] 157 true]⟩ (by kernel_rfl) ?_
 have hz := h.1
 replace h := h.2
 refine WL.val hn (by rfl) (val_shift (u := st) (v := x13) rfl (by rfl) (by rfl) hz (.inr ⟨rfl, rfl⟩)) (by rfl) ?_
 refine WL.run ht hn 2 ⟨[sl 0 (I st), sl 1 (I a), sl 3 (.ptr 1 0), sl 7 (I x7), sl 8 (I x13), sl 12 (qrgD21 good), sl 13 (I x13), sl 20 (B ((bitsI .and .i64 (Int.fdiv st (2 ^ (min (x13).toNat 64))) 1) == 0))], [.gone, .box [.pe (qrgD20 p) 2] 157 true]⟩ (by kernel_rfl) ?_
 refine WL.nil ?_
 refine En.cond (b := ((bitsI .and .i64 (Int.fdiv st (2 ^ (min (x13).toNat 64))) 1) == 0)) (by kernel_rfl) (fun hb => ?_) (fun hb => ?_)
 replace h := h.1 hb
 refine En.exit rfl ?_
 exact En.at (I := fun zz => J zz) (T := fun zz => ⟨[sl 0 (I st), sl 1 (I a), sl 3 (.ptr 1 0), sl 7 (I zz), sl 12 (qrgD21 good), sl 13 (I x13)], [.gone, .box [.pe (qrgD20 p) 2] 157 true]⟩) x7 h (by kernel_rfl)
 replace h := h.2 hb
 refine En.skip ?_
 refine En.seq ?_
 refine En.region ?_
 refine WL.run ht hn 2 ⟨[sl 0 (I st), sl 1 (I a), sl 3 (.ptr 1 0), sl 7 (I x7), sl 8 (I x13), sl 12 (qrgD21 good), sl 13 (I x13), sl 22 (.pe (qrgD20 p) 2)], [.gone, .box [.pe (qrgD20 p) 2] 157 true]⟩ (by kernel_rfl) ?_
 refine WL.val hn (by rfl) (val_field (l := [LS intT p.fLetters, LS (lsT intT) p.fNext]) (r := .one (LS (lsT intT) p.fNext)) ht rfl (by rfl) (by rfl) (by rfl) (by rfl) (by rfl) (by rfl)) (by rfl) ?_
 refine WL.val hn (by rfl) (val_load (s := .one (LS (lsT intT) p.fNext)) ht rfl (by rfl) (by rfl) (by rfl) (by rfl) (by rfl)) (by rfl) ?_
 refine WL.run ht hn 1 ⟨[sl 0 (I st), sl 1 (I a), sl 3 (.ptr 1 0), sl 7 (I x7), sl 12 (qrgD21 good), sl 13 (I x13), sl 24 (LS (lsT intT) p.fNext), sl 25 (I x13)], [.gone, .box [.pe (qrgD20 p) 2] 157 true]⟩ (by kernel_rfl) ?_
 obtain ⟨e, he, h⟩ := h
 refine WL.val hn (by rfl) (val_index (T := (lsT intT)) (l := p.fNext) (i := x13) ht rfl (by rfl) (by rfl) (by rfl) (by rfl) (by rfl) (by rfl) he) (by rfl) ?_
 refine WL.val hn (by rfl) (val_load (s := .one (LS intT e)) ht rfl (by rfl) (by rfl) (by rfl) (by rfl) (by rfl)) (by rfl) ?_
 refine WL.run ht hn 2 ⟨[sl 0 (I st), sl 1 (I a), sl 3 (.ptr 1 0), sl 7 (I x7), sl 12 (qrgD21 good), sl 13 (I x13), sl 27 (LS intT e), sl 28 (I (e.length : Int)), sl 29 (I 0)], [.gone, .box [.pe (qrgD20 p) 2] 157 true]⟩ (by kernel_rfl) ?_
 refine WL.nil ?_
 refine En.block ?_
 obtain ⟨Inv_2, mu_2, h0, hI⟩ := h
 refine En.loop (σ := Int × Int) (fun zz => Inv_2 zz.1 zz.2) (fun zz => mu_2 zz.1 zz.2) (fun zz => ⟨[sl 0 (I st), sl 1 (I a), sl 3 (.ptr 1 0), sl 7 (I zz.1), sl 12 (qrgD21 good), sl 13 (I x13), sl 27 (LS intT e), sl 28 (I (e.length : Int)), sl 29 (I zz.2)], [.gone, .box [.pe (qrgD20 p) 2] 157 true]⟩) (x7, 0) h0 (sub_ok (by kernel_rfl)) ?_
 rintro ⟨x7_3, x29⟩ h
 replace h := hI _ _ h
 show En c ⟨[sl 0 (I st), sl 1 (I a), sl 3 (.ptr 1 0), sl 7 (I x7_3), sl 12 (qrgD21 good), sl 13 (I x13), sl 27 (LS intT e), sl 28 (I (e.length : Int)), sl 29 (I x29)], [.gone, .box [.pe (qrgD20 p) 2] 157 true]⟩ _
 refine En.seq ?_
 refine En.region ?_
 refine WL.run ht hn 1 ⟨[sl 0 (I st), sl 1 (I a), sl 3 (.ptr 1 0), sl 7 (I x7_3), sl 12 (qrgD21 good), sl 13 (I x13), sl 27 (LS intT e), sl 28 (I (e.length : Int)), sl 29 (I x29), sl 30 (B (decide (x29 < (e.length : Int))))], [.gone, .box [.pe (qrgD20 p) 2] 157 true]⟩ (by kernel_rfl) ?_
 refine WL.nil ?_
 refine En.seq ?_
 refine En.cond (b := (decide (x29 < (e.length : Int)))) (by kernel_rfl) (fun hb => ?_) (fun hb => ?_)
 replace h := h.1 hb
 refine En.skip ?_
 obtain ⟨J_2, h, hJ_2⟩ := h
 refine En.seqJ (σ := Int) (fun zz => J_2 zz) (fun zz => ⟨[sl 0 (I st), sl 1 (I a), sl 3 (.ptr 1 0), sl 7 (I zz), sl 12 (qrgD21 good), sl 13 (I x13), sl 27 (LS intT e), sl 28 (I (e.length : Int)), sl 29 (I x29)], [.gone, .box [.pe (qrgD20 p) 2] 157 true]⟩) ?_ ?_
 refine En.block ?_
 refine En.seq ?_
 refine En.region ?_
 obtain ⟨e_2, he_2, h⟩ := h
 refine WL.val hn (by rfl) (val_index (T := intT) (l := e) (i := x29) ht rfl (by rfl) (by rfl) (by rfl) (by rfl) (by rfl) (by rfl) he_2) (by rfl) ?_
 refine WL.val hn (by rfl) (val_load (s := .one (I e_2)) ht rfl (by rfl) (by rfl) (by rfl) (by rfl) (by rfl)) (by rfl) ?_
 refine WL.run ht hn 1 ⟨[sl 0 (I st), sl 1 (I a), sl 3 (.ptr 1 0), sl 7 (I x7_3), sl 10 (I e_2), sl 12 (qrgD21 good), sl 13 (I x13), sl 27 (LS intT e), sl 28 (I (e.length : Int)), sl 29 (I x29)], [.gone, .box [.pe (qrgD20 p) 2] 157 true]⟩ (by kernel_rfl) ?_
 refine WL.nil ?_
 refine En.seq ?_
 refine En.region ?_
 refine WL.run ht hn 2 ⟨[sl 0 (I st), sl 1 (I a), sl 3 (.ptr 1 0), sl 7 (I x7_3), sl 10 (I e_2), sl 12 (qrgD21 good), sl 13 (I x13), sl 27 (LS intT e), sl 28 (I (e.length : Int)), sl 29 (I x29), sl 34 (.pe (qrgD20 p) 2)], [.gone, .box [.pe (qrgD20 p) 2] 157 true]⟩ (by kernel_rfl) ?_
 refine WL.val hn (by rfl) (val_field (l := [LS intT p.fLetters, LS (lsT intT) p.fNext]) (r := .one (LS intT p.fLetters)) ht rfl (by rfl) (by rfl) (by rfl) (by rfl) (by rfl) (by rfl)) (by rfl) ?_
 refine WL.val hn (by rfl) (val_load (s := .one (LS intT p.fLetters)) ht rfl (by rfl) (by rfl) (by rfl) (by rfl) (by rfl)) (by rfl) ?_
 refine WL.run ht hn 1 ⟨[sl 0 (I st), sl 1 (I a), sl 3 (.ptr 1 0), sl 7 (I x7_3), sl 10 (I e_2), sl 12 (qrgD21 good), sl 13 (I x13), sl 27 (LS intT e), sl 28 (I (e.length : Int)), sl 29 (I x29), sl 36 (LS intT p.fLetters), sl 37 (I e_2)], [.gone, .box [.pe (qrgD20 p) 2] 157 true]⟩ (by kernel_rfl) ?_
 obtain ⟨e_3, he_3, h⟩ := h
 refine WL.val hn (by rfl) (val_index (T := intT) (l := p.fLetters) (i := e_2) ht rfl (by rfl) (by rfl) (by rfl) (by rfl) (by rfl) (by rfl) he_3) (by rfl) ?_
 refine WL.val hn (by rfl) (val_load (s := .one (I e_3)) ht rfl (by rfl) (by rfl) (by rfl) (by rfl) (by rfl)) (by rfl) ?_
 refine WL.run ht hn 2 ⟨[sl 0 (I st), sl 1 (I a), sl 3 (.ptr 1 0), sl 7 (I x7_3), sl 10 (I e_2), sl 12 (qrgD21 good), sl 13 (I x13), sl 27 (LS intT e), sl 28 (I (e.length : Int)), sl 29 (I x29), sl 41 (B (e_3 == a))], [.gone, .box [.pe (qrgD20 p) 2] 157 true]⟩ (by kernel_rfl) ?_
 refine WL.nil ?_
 refine En.cond (b := (e_3 == a)) (by kernel_rfl) (fun hb => ?_) (fun hb => ?_)
 replace h := h.1 hb
 refine En.region ?_
 refine WL.run ht hn 2 ⟨[sl 0 (I st), sl 1 (I a), sl 3 (.ptr 1 0), sl 12 (qrgD21 good), sl 13 (I x13), sl 27 (LS intT e), sl 28 (I (e.length : Int)), sl 29 (I x29), sl 42 (I x7_3), sl 43 (I e_2)], [.gone, .box [.pe (qrgD20 p) 2] 157 true]⟩ (by kernel_rfl) ?_
 have hz_2 := h.1
 replace h := h.2
 refine WL.val hn (by rfl) (val_shift (u := 1) (v := e_2) rfl (by rfl) (by rfl) hz_2 (.inl ⟨rfl, rfl⟩)) (by rfl) ?_
 refine WL.run ht hn 2 ⟨[sl 0 (I st), sl 1 (I a), sl 3 (.ptr 1 0), sl 7 (I (bitsI .or .i64 x7_3 (wr (1 * (2 ^ (min (e_2).toNat 64)))))), sl 12 (qrgD21 good), sl 13 (I x13), sl 27 (LS intT e), sl 28 (I (e.length : Int)), sl 29 (I x29)], [.gone, .box [.pe (qrgD20 p) 2] 157 true]⟩ (by kernel_rfl) ?_
 refine WL.nil ?_
 exact En.at (I := fun zz => J_2 zz) (T := fun zz => ⟨[sl 0 (I st), sl 1 (I a), sl 3 (.ptr 1 0), sl 7 (I zz), sl 12 (qrgD21 good), sl 13 (I x13), sl 27 (LS intT e), sl 28 (I (e.length : Int)), sl 29 (I x29)], [.gone, .box [.pe (qrgD20 p) 2] 157 true]⟩) (bitsI .or .i64 x7_3 (wr (1 * (2 ^ (min (e_2).toNat 64))))) h (by kernel_rfl)
 replace h := h.2 hb
 refine En.skip ?_
 exact En.at (I := fun zz => J_2 zz) (T := fun zz => ⟨[sl 0 (I st), sl 1 (I a), sl 3 (.ptr 1 0), sl 7 (I zz), sl 12 (qrgD21 good), sl 13 (I x13), sl 27 (LS intT e), sl 28 (I (e.length : Int)), sl 29 (I x29)], [.gone, .box [.pe (qrgD20 p) 2] 157 true]⟩) x7_3 h (by kernel_rfl)
 intro x7_4 h
 replace h := hJ_2 _ h
 show En c ⟨[sl 0 (I st), sl 1 (I a), sl 3 (.ptr 1 0), sl 7 (I x7_4), sl 12 (qrgD21 good), sl 13 (I x13), sl 27 (LS intT e), sl 28 (I (e.length : Int)), sl 29 (I x29)], [.gone, .box [.pe (qrgD20 p) 2] 157 true]⟩ _
 refine En.region ?_
 refine WL.run ht hn 2 ⟨[sl 0 (I st), sl 1 (I a), sl 3 (.ptr 1 0), sl 7 (I x7_4), sl 12 (qrgD21 good), sl 13 (I x13), sl 27 (LS intT e), sl 28 (I (e.length : Int)), sl 29 (I (wr (x29 + 1)))], [.gone, .box [.pe (qrgD20 p) 2] 157 true]⟩ (by kernel_rfl) ?_
 refine WL.nil ?_
 exact En.at (I := fun zz => Inv_2 zz.1 zz.2 ∧ mu_2 zz.1 zz.2 < mu_2 x7_3 x29) (T := fun zz => ⟨[sl 0 (I st), sl 1 (I a), sl 3 (.ptr 1 0), sl 7 (I zz.1), sl 12 (qrgD21 good), sl 13 (I x13), sl 27 (LS intT e), sl 28 (I (e.length : Int)), sl 29 (I zz.2)], [.gone, .box [.pe (qrgD20 p) 2] 157 true]⟩) (x7_4, (wr (x29 + 1))) h (by kernel_rfl)
 replace h := h.2 hb
 refine En.exit rfl ?_
 exact En.at (I := fun zz => J zz) (T := fun zz => ⟨[sl 0 (I st), sl 1 (I a), sl 3 (.ptr 1 0), sl 7 (I zz), sl 12 (qrgD21 good), sl 13 (I x13)], [.gone, .box [.pe (qrgD20 p) 2] 157 true]⟩) x7_3 h (by kernel_rfl)
 intro x7_2 h
 replace h := hJ _ h
 show En c ⟨[sl 0 (I st), sl 1 (I a), sl 3 (.ptr 1 0), sl 7 (I x7_2), sl 12 (qrgD21 good), sl 13 (I x13)], [.gone, .box [.pe (qrgD20 p) 2] 157 true]⟩ _
 refine En.region ?_
 refine WL.run ht hn 2 ⟨[sl 0 (I st), sl 1 (I a), sl 3 (.ptr 1 0), sl 7 (I x7_2), sl 12 (qrgD21 good), sl 13 (I (wr (x13 + 1)))], [.gone, .box [.pe (qrgD20 p) 2] 157 true]⟩ (by kernel_rfl) ?_
 refine WL.nil ?_
 exact En.at (I := fun zz => Inv zz.1 zz.2 ∧ mu zz.1 zz.2 < mu x7 x13) (T := fun zz => ⟨[sl 0 (I st), sl 1 (I a), sl 3 (.ptr 1 0), sl 7 (I zz.1), sl 12 (qrgD21 good), sl 13 (I zz.2)], [.gone, .box [.pe (qrgD20 p) 2] 157 true]⟩) (x7_2, (wr (x13 + 1))) h (by kernel_rfl)
 replace h := h.2 hb
 refine En.exit rfl ?_
 refine En.seq ?_
 refine En.region ?_
 refine WL.run ht hn 2 ⟨[sl 6 (I x7)], [.gone, .gone]⟩ (by kernel_rfl) ?_
 refine WL.nil ?_
 refine En.ret ?_
 exact En.back ht x7 h (by kernel_rfl) rfl
theorem en75 : ∀ args w, (callFunc 75 args).run Try.prog w = .ok (.enter 75 args) w := enters_of Try.func75 (by kernel_rfl) rfl
def rgD3_vc (st : Int) (last : Int) (Q : Int → Prop) : Prop :=
 IfP ((bitsI .and .i64 st last) != 0) (Q 1) (Q 0)
theorem rgD3_walk (st : Int) (last : Int) (Q : Int → Prop) (h : rgD3_vc st last Q) : Ct 76 [.sv (.one (I st)), .sv (.one (.ptr 0 0))] [.box [I last] 3 true] Q (fun (r : Int) => .sv (.one (I r))) := by
 have ht := tab_ok
 refine Ct.body Try.func76 rfl rfl rfl rfl (fun c hn => ?_)
 unfold rgD3_vc at h
 refine En.seq ?_
 refine En.region ?_
 refine WL.run ht hn 1 ⟨[sl 0 (I st), sl 1 (.ptr 0 0)], [.box [I last] 3 true]⟩ (by kernel_rfl) ?_
 refine WL.nil ?_
 refine En.seq ?_
 refine En.seq ?_
 refine En.region ?_
 refine WL.run ht hn 4 ⟨[sl 7 (B ((bitsI .and .i64 st last) != 0))], [.gone]⟩ (by kernel_rfl) ?_
 refine WL.nil ?_
 refine En.cond (b := ((bitsI .and .i64 st last) != 0)) (by kernel_rfl) (fun hb => ?_) (fun hb => ?_)
 replace h := h.1 hb
 refine En.seq ?_
 refine En.region ?_
 refine WL.run ht hn 1 ⟨[sl 3 (I 1)], [.gone]⟩ (by kernel_rfl) ?_
 refine WL.nil ?_
 refine En.ret ?_
 exact En.back ht 1 h (by kernel_rfl) rfl
 replace h := h.2 hb
 refine En.skip ?_
 refine En.seq ?_
 refine En.region ?_
 refine WL.run ht hn 1 ⟨[sl 3 (I 0)], [.gone]⟩ (by kernel_rfl) ?_
 refine WL.nil ?_
 refine En.ret ?_
 exact En.back ht 0 h (by kernel_rfl) rfl
theorem en76 : ∀ args w, (callFunc 76 args).run Try.prog w = .ok (.enter 76 args) w := enters_of Try.func76 (by kernel_rfl) rfl
def d1R (m ch : Int) : Bool := (decide (ch ≥ (IntKind.wrap .i32 (97 + (IntKind.wrap .i32 m))))) && (decide (ch ≤ 100))
def gone1 (p : RegularPlaces) (a : Int) : List Int → Int → Option Int
 | [], tt => some tt
 | n :: l, tt => match idx p.fLetters n with
  | none => none
  | some b => if (b == a) = true then gone1 p a l (bitsI .or .i64 tt (wr (1 * (2 ^ (min n.toNat 64))))) else gone1 p a l tt
def gone2 (p : RegularPlaces) (st a : Int) : Nat → Nat → Int → Option Int
 | 0, _, tt => some tt
 | m + 1, x, tt => if ((bitsI .and .i64 (Int.fdiv st (2 ^ (min ((x : Int)).toNat 64))) 1) == 0) = true then gone2 p st a m (x + 1) tt
  else match idx p.fNext (x : Int) with
   | none => none
   | some e => if 4611686018427387904 < e.length then none else match gone1 p a e tt with
    | none => none
    | some t => gone2 p st a m (x + 1) t
def goS (good : List Bool) (p : RegularPlaces) (st a : Int) : Option Int := if 1048576 < good.length then none else gone2 p st a good.length 0 0
def goR (good : List Bool) (p : RegularPlaces) (st a : Int) : Int := (goS good p st a).getD 0
def goDom (good : List Bool) (p : RegularPlaces) (st a : Int) : Prop := (goS good p st a).isSome
def mkR (last st : Int) : Int := if ((bitsI .and .i64 st last) != 0) = true then 1 else 0
theorem rgD1_ct (ch : Int) (m : Int)  : Ct 72 [.sv (.one (.v (.int .i32 ch))), .sv (.one (.ptr 0 0))] [.box [I m] 3 true] (fun (_ : Unit) => True) (fun _ => .sv (.one (B (d1R m ch)))) := by
 refine (rgD1_walk ch m (fun res_ => res_ = (d1R m ch)) ?_).fun
 rfl
theorem rgD2_ct (st : Int) (a : Int) (good : (List Bool)) (p : RegularPlaces) (hd : goDom good p st a)  : Ct 75 [.sv (.one (I st)), .sv (.one (I a)), .sv (.one (.ptr 0 0)), .sv (.one (.ptr 1 0))] [.box [LS boolT good] 56 true, .box [.pe (svR (.agg [LS intT p.fLetters, LS (lsT intT) p.fNext])) 2] 157 true] (fun (_ : Unit) => True) (fun _ => .sv (.one (I (goR good p st a)))) := by
 refine (rgD2_walk st a good p (fun res_ => res_ = (goR good p st a)) ?_).fun
 obtain ⟨R, hR⟩ := Option.isSome_iff_exists.1 hd
 have hz : goR good p st a = R := by
  unfold goR
  rw [hR]
  rfl
 rw [hz]
 unfold goS at hR
 split at hR
 ·cases hR
 rename_i hlen
 unfold rgD2_vc
 refine ⟨fun tt x => ∃ n : Nat, x = n ∧ n ≤ good.length ∧ gone2 p st a (good.length - n) n tt = some R, fun _ x => good.length - x.toNat, ⟨0, rfl, Nat.zero_le _, hR⟩, ?_⟩
 rintro tt _ ⟨n, rfl, hn, he⟩
 refine ⟨fun hb => ?_, fun hb => ?_⟩
 ·have hlt : n < good.length := by have := of_decide_eq_true hb; exact Int.ofNat_lt.1 this
  obtain ⟨m, hm⟩ : ∃ m, good.length - n = m + 1 := ⟨good.length - n - 1, by omega⟩
  have hm2 : good.length - (n + 1) = m := by omega
  rw [hm, gone2] at he
  refine ⟨fun t => gone2 p st a m (n + 1) t = some R, ⟨Int.natCast_nonneg n, fun hb2 => ?_, fun hb2 => ?_⟩, fun t ht => ⟨⟨n + 1, wr_len (n := good.length) (by omega) hlt, hlt, by rw [hm2]; exact ht⟩, ?_⟩⟩
  ·rw [if_pos hb2] at he
   exact he
  ·rw [if_neg (by rw [hb2]; decide)] at he
   split at he
   ·cases he
   rename_i e hx
   split at he
   ·cases he
   rename_i hel
   split at he
   ·cases he
   rename_i t ht
   refine ⟨e, hx, fun to2 x => ∃ i : Nat, x = i ∧ i ≤ e.length ∧ gone1 p a (e.drop i) to2 = some t, fun _ x => e.length - x.toNat, ⟨0, rfl, Nat.zero_le _, ht⟩, ?_⟩
   rintro to2 _ ⟨i, rfl, hi, hg⟩
   refine ⟨fun hb3 => ?_, fun hb3 => ?_⟩
   ·have hlt2 : i < e.length := by have := of_decide_eq_true hb3; exact Int.ofNat_lt.1 this
    rw [List.drop_eq_getElem_cons hlt2, gone1] at hg
    split at hg
    ·cases hg
    rename_i b hbx
    refine ⟨fun t2 => gone1 p a (e.drop (i + 1)) t2 = some t, ⟨e[i], by simp [idx, hlt2], b, hbx, fun hb4 => ⟨(idx_some hbx).1, ?_⟩, fun hb4 => ?_⟩, fun t2 h2 => ⟨⟨i + 1, wr_len (n := e.length) (by omega) hlt2, hlt2, h2⟩, ?_⟩⟩
    ·rw [if_pos hb4] at hg
     exact hg
    ·rw [if_neg (by rw [hb4]; decide)] at hg
     exact hg
    ·rw [wr_len (n := e.length) (by omega) hlt2]
     show e.length - (i + 1) < e.length - i
     omega
   ·have hge : e.length ≤ i := by have := of_decide_eq_false hb3; exact Nat.le_of_not_lt fun h => this (Int.ofNat_lt.2 h)
    rw [List.drop_eq_nil_of_le hge, gone1] at hg
    cases hg
    exact he
  ·rw [wr_len (n := good.length) (by omega) hlt]
   show good.length - (n + 1) < good.length - n
   omega
 ·have hge : good.length - n = 0 := by have := of_decide_eq_false hb; have : ¬ n < good.length := fun h => this (Int.ofNat_lt.2 h); omega
  rw [hge, gone2] at he
  cases he
  rfl
theorem rgD3_ct (st : Int) (last : Int)  : Ct 76 [.sv (.one (I st)), .sv (.one (.ptr 0 0))] [.box [I last] 3 true] (fun (_ : Unit) => True) (fun _ => .sv (.one (I (mkR last st)))) := by
 refine (rgD3_walk st last (fun res_ => res_ = (mkR last st)) ?_).fun
 unfold rgD3_vc mkR
 exact ⟨fun hb => by rw [if_pos hb], fun hb => by rw [if_neg (by rw [hb]; decide)]⟩
def rDet_vc (fu : Nat) (letters : Int) (text : ByteArray) (Q : (ApiDet × Int) → Prop) : Prop :=
 ∀ r : (Option RTr × ApiFault), (ParsedQ text) r →
 (IfP (r.2.fCode != 0) (Q ((ApiDet.mk 0 0 [] []), 4)) (∃ J : Bool → Prop, (IfP (decide (letters < 1)) (J true) (IfP (decide (letters > 4)) (J true) ((∀ x_ : Int, (fun _ => True) x_) ∧
 J (decide (0 ≤ strIdx (fun (x : Int) => d1R letters x) true text ((text).size + 1) 0))))) ∧
 (∀ (x34 : Bool), J x34 → IfP x34 (Q ((ApiDet.mk 0 0 [] []), 2)) (∃ t, r.1 = some t ∧
 ((machS fu t).isSome) ∧
 IfP (decide (((machR fu t).1.fLetters.length : Int) > 10)) (Q ((ApiDet.mk 0 0 [] []), 7)) (∃ (Inv : Int → Int → Prop) (mu : Int → Int → Nat), Inv 0 0 ∧
 ∀ (x50 : Int) (y5 : Int) , Inv x50 y5 → (IfP (decide (x50 < ((machR fu t).2.length : Int))) (∃ J_2 : Int → Prop, (∃ e, idx (machR fu t).2 x50 = some e ∧
 IfP e ((0 ≤ x50) ∧
 J_2 (bitsI .or .i64 y5 (wr (1 * (2 ^ (min (x50).toNat 64)))))) (J_2 y5)) ∧
 (∀ (y5_2 : Int), J_2 y5_2 → (Inv (wr (x50 + 1)) y5_2 ∧ mu (wr (x50 + 1)) y5_2 < mu x50 y5))) ((0 ≤ ((machR fu t).1.fLetters.length : Int)) ∧
 (ExplPre letters (wr (1 * (2 ^ (min (((machR fu t).1.fLetters.length : Int)).toNat 64)))) (fun (x : Int × Int) => goDom (machR fu t).2 (machR fu t).1 x.1 x.2) (fun (x : Int × Int) => goR (machR fu t).2 (machR fu t).1 x.1 x.2) (fun _ => True) 3000) ∧
 (ClsOk (explR (fun k (a : Nat) => (fun (x : Int × Int) => goR (machR fu t).2 (machR fu t).1 x.1 x.2) (k, (a : Int))) (fun (x : Int) => mkR y5 x) (letters).toNat (wr (1 * (2 ^ (min (((machR fu t).1.fLetters.length : Int)).toNat 64)))) 3000).1) ∧
 Q ((canon ((explR (fun k (a : Nat) => (fun (x : Int × Int) => goR (machR fu t).2 (machR fu t).1 x.1 x.2) (k, (a : Int))) (fun (x : Int) => mkR y5 x) (letters).toNat (wr (1 * (2 ^ (min (((machR fu t).1.fLetters.length : Int)).toNat 64)))) 3000).1).fLetters.toNat (langD (explR (fun k (a : Nat) => (fun (x : Int × Int) => goR (machR fu t).2 (machR fu t).1 x.1 x.2) (k, (a : Int))) (fun (x : Int) => mkR y5 x) (letters).toNat (wr (1 * (2 ^ (min (((machR fu t).1.fLetters.length : Int)).toNat 64)))) 3000).1 ((explR (fun k (a : Nat) => (fun (x : Int × Int) => goR (machR fu t).2 (machR fu t).1 x.1 x.2) (k, (a : Int))) (fun (x : Int) => mkR y5 x) (letters).toNat (wr (1 * (2 ^ (min (((machR fu t).1.fLetters.length : Int)).toNat 64)))) 3000).1).fStart.toNat)), 0))))))))
theorem rDet_walk (fu : Nat) (letters : Int) (text : ByteArray) (Q : (ApiDet × Int) → Prop) (h : rDet_vc fu letters text Q) : Ct 27 [.sv (.one (I letters)), .sv (.one (.v (.string text)))] [] Q (fun (r : (ApiDet × Int)) => .tup [.agg [I r.1.fLetters, I r.1.fStart, LS (lsT intT) r.1.fNext, LS intT r.1.fMark], .one (I r.2)]) := by
 have ht := tab_ok
 refine Ct.body Try.func27 rfl rfl rfl rfl (fun c hn => ?_)
 unfold rDet_vc at h
 refine En.seq ?_
 refine En.region ?_
 refine WL.run ht hn 3 ⟨[sl 1 (.v (.string text)), sl 2 (.ptr 0 0), sl 4 (.ptr 1 0)], [.box [I letters] 3 false, .box [I 0, I 0, .v (.slice none 0 0), .v (.slice none 0 0)] 73 false]⟩ (by kernel_rfl) ?_
 refine WL.nil ?_
 refine En.seq ?_
 refine En.region ?_
 refine WL.run ht hn 1 ⟨[sl 1 (.v (.string text)), sl 2 (.ptr 0 0), sl 4 (.ptr 1 0), sl 16 (.v (.string text))], [.box [I letters] 3 false, .box [I 0, I 0, .v (.slice none 0 0), .v (.slice none 0 0)] 73 false]⟩ (by kernel_rfl) ?_
 refine WL.mtQ (Q := ParsedQ text) (x := fun (r : (Option RTr × ApiFault)) => .tup [.one (.rd (optR rLab r.1)), .agg [I r.2.fCode, I r.2.fAt]]) (p := fun _ => none) hn (by rfl) (mtq_call (rParsed_ct text) en70 (caps := []) [] rfl (by rfl) (by kernel_rfl) (by kernel_rfl) (by rfl) (fun _ => rfl) (by rfl)) (fun r hr_2 => ⟨by rfl, _, by rfl, ?_⟩)
 replace h := h r hr_2
 refine WL.run ht hn 6 ⟨[sl 1 (.v (.string text)), sl 2 (.ptr 0 0), sl 4 (.ptr 1 0), sl 6 (.rd (optR rLab r.1)), sl 7 (.ptr 2 0)], [.box [I letters] 3 false, .box [I 0, I 0, .v (.slice none 0 0), .v (.slice none 0 0)] 73 false, .box [I r.2.fCode, I r.2.fAt] 63 false]⟩ (by kernel_rfl) ?_
 refine WL.nil ?_
 refine En.seq ?_
 refine En.seq ?_
 refine En.region ?_
 refine WL.run ht hn 3 ⟨[sl 1 (.v (.string text)), sl 2 (.ptr 0 0), sl 4 (.ptr 1 0), sl 6 (.rd (optR rLab r.1)), sl 22 (B (r.2.fCode != 0))], [.box [I letters] 3 false, .box [I 0, I 0, .v (.slice none 0 0), .v (.slice none 0 0)] 73 false, .gone]⟩ (by kernel_rfl) ?_
 refine WL.nil ?_
 refine En.cond (b := (r.2.fCode != 0)) (by kernel_rfl) (fun hb => ?_) (fun hb => ?_)
 replace h := h.1 hb
 refine En.seq ?_
 refine En.region ?_
 refine WL.run ht hn 3 ⟨[sl 4 (.ptr 1 0), sl 5 (I 4)], [.gone, .box [I 0, I 0, .v (.slice none 0 0), .v (.slice none 0 0)] 73 false, .gone]⟩ (by kernel_rfl) ?_
 refine WL.nil ?_
 refine En.ret ?_
 refine En.nilBox (T := (lsT intT)) 1 2 (by rfl) (by rfl) ?_
 refine En.nilBox (T := intT) 1 3 (by rfl) (by rfl) ?_
 exact En.back ht ((ApiDet.mk 0 0 [] []), 4) h (by kernel_rfl) rfl
 replace h := h.2 hb
 refine En.skip ?_
 refine En.seq ?_
 obtain ⟨J, h, hJ⟩ := h
 refine En.seqJ (σ := Bool) (fun zz => J zz) (fun zz => ⟨[sl 2 (.ptr 0 0), sl 4 (.ptr 1 0), sl 6 (.rd (optR rLab r.1)), sl 34 (B zz)], [.box [I letters] 3 false, .box [I 0, I 0, .v (.slice none 0 0), .v (.slice none 0 0)] 73 false, .gone]⟩) ?_ ?_
 refine En.region ?_
 refine WL.run ht hn 3 ⟨[sl 1 (.v (.string text)), sl 2 (.ptr 0 0), sl 4 (.ptr 1 0), sl 6 (.rd (optR rLab r.1)), sl 26 (B (decide (letters < 1)))], [.box [I letters] 3 false, .box [I 0, I 0, .v (.slice none 0 0), .v (.slice none 0 0)] 73 false, .gone]⟩ (by kernel_rfl) ?_
 refine splitB (decide (letters < 1)) (fun hb => ?_) (fun hb => ?_)
 replace h := h.1 hb
 refine WL.setB 26 hb (by kernel_rfl) ?_
 refine WL.run ht hn 8 ⟨[sl 2 (.ptr 0 0), sl 4 (.ptr 1 0), sl 6 (.rd (optR rLab r.1)), sl 34 (B true)], [.box [I letters] 3 false, .box [I 0, I 0, .v (.slice none 0 0), .v (.slice none 0 0)] 73 false, .gone]⟩ (by kernel_rfl) ?_
 refine WL.nil ?_
 exact En.at (I := fun zz => J zz) (T := fun zz => ⟨[sl 2 (.ptr 0 0), sl 4 (.ptr 1 0), sl 6 (.rd (optR rLab r.1)), sl 34 (B zz)], [.box [I letters] 3 false, .box [I 0, I 0, .v (.slice none 0 0), .v (.slice none 0 0)] 73 false, .gone]⟩) true h (by kernel_rfl)
 replace h := h.2 hb
 refine WL.setB 26 hb (by kernel_rfl) ?_
 refine WL.run ht hn 4 ⟨[sl 1 (.v (.string text)), sl 2 (.ptr 0 0), sl 4 (.ptr 1 0), sl 6 (.rd (optR rLab r.1)), sl 30 (B (decide (letters > 4)))], [.box [I letters] 3 false, .box [I 0, I 0, .v (.slice none 0 0), .v (.slice none 0 0)] 73 false, .gone]⟩ (by kernel_rfl) ?_
 refine splitB (decide (letters > 4)) (fun hb => ?_) (fun hb => ?_)
 replace h := h.1 hb
 refine WL.setB 30 hb (by kernel_rfl) ?_
 refine WL.run ht hn 4 ⟨[sl 2 (.ptr 0 0), sl 4 (.ptr 1 0), sl 6 (.rd (optR rLab r.1)), sl 34 (B true)], [.box [I letters] 3 false, .box [I 0, I 0, .v (.slice none 0 0), .v (.slice none 0 0)] 73 false, .gone]⟩ (by kernel_rfl) ?_
 refine WL.nil ?_
 exact En.at (I := fun zz => J zz) (T := fun zz => ⟨[sl 2 (.ptr 0 0), sl 4 (.ptr 1 0), sl 6 (.rd (optR rLab r.1)), sl 34 (B zz)], [.box [I letters] 3 false, .box [I 0, I 0, .v (.slice none 0 0), .v (.slice none 0 0)] 73 false, .gone]⟩) true h (by kernel_rfl)
 replace h := h.2 hb
 refine WL.setB 30 hb (by kernel_rfl) ?_
 refine WL.run ht hn 2 ⟨[sl 2 (.ptr 0 0), sl 4 (.ptr 1 0), sl 6 (.rd (optR rLab r.1)), sl 30 (B false), sl 31 (.v (.string text)), sl 32 (.fn 72 [0])], [.box [I letters] 3 false, .box [I 0, I 0, .v (.slice none 0 0), .v (.slice none 0 0)] 73 false, .gone]⟩ (by kernel_rfl) ?_
 have hp := h.1
 replace h := h.2
 refine WL.mt0 (K := []) (p := none) hn (by rfl) (mt_lendF [0] (by rfl) (by rfl) (mt_ghost 32 (o1 (.rd (fvR (fun (x_ : Int) => [.sv (.one (.v (.int .i32 x_)))]) (fun (r : Bool) => .sv (.one (B r))) (fun _ => True) (fun (x : Int) => d1R letters x)))) (by rfl) (fv_of (M := [.box [I letters] 3 true]) (caps := [0]) (fun x_ _ => rgD1_ct x_ letters) en72 rfl (by kernel_rfl) (by rfl) (fun _ => rfl)) (mt_call (sHas_ct text (fun _ => True) (fun (x : Int) => d1R letters x) hp) en71 (caps := []) [] rfl (by rfl) (by kernel_rfl) (by kernel_rfl) (by rfl) (by rfl) (by rfl)))) (by rfl) (by rfl) (by rfl) ?_
 refine WL.run ht hn 1 ⟨[sl 2 (.ptr 0 0), sl 4 (.ptr 1 0), sl 6 (.rd (optR rLab r.1)), sl 34 (B (decide (0 ≤ strIdx (fun (x : Int) => d1R letters x) true text ((text).size + 1) 0)))], [.box [I letters] 3 false, .box [I 0, I 0, .v (.slice none 0 0), .v (.slice none 0 0)] 73 false, .gone]⟩ (by kernel_rfl) ?_
 refine WL.nil ?_
 exact En.at (I := fun zz => J zz) (T := fun zz => ⟨[sl 2 (.ptr 0 0), sl 4 (.ptr 1 0), sl 6 (.rd (optR rLab r.1)), sl 34 (B zz)], [.box [I letters] 3 false, .box [I 0, I 0, .v (.slice none 0 0), .v (.slice none 0 0)] 73 false, .gone]⟩) (decide (0 ≤ strIdx (fun (x : Int) => d1R letters x) true text ((text).size + 1) 0)) h (by kernel_rfl)
 intro x34 h
 replace h := hJ _ h
 show En c ⟨[sl 2 (.ptr 0 0), sl 4 (.ptr 1 0), sl 6 (.rd (optR rLab r.1)), sl 34 (B x34)], [.box [I letters] 3 false, .box [I 0, I 0, .v (.slice none 0 0), .v (.slice none 0 0)] 73 false, .gone]⟩ _
 refine En.cond (b := x34) (by kernel_rfl) (fun hb => ?_) (fun hb => ?_)
 replace h := h.1 hb
 refine En.seq ?_
 refine En.region ?_
 refine WL.run ht hn 3 ⟨[sl 4 (.ptr 1 0), sl 5 (I 2)], [.gone, .box [I 0, I 0, .v (.slice none 0 0), .v (.slice none 0 0)] 73 false, .gone]⟩ (by kernel_rfl) ?_
 refine WL.nil ?_
 refine En.ret ?_
 refine En.nilBox (T := (lsT intT)) 1 2 (by rfl) (by rfl) ?_
 refine En.nilBox (T := intT) 1 3 (by rfl) (by rfl) ?_
 exact En.back ht ((ApiDet.mk 0 0 [] []), 2) h (by kernel_rfl) rfl
 replace h := h.2 hb
 refine En.skip ?_
 refine En.seq ?_
 refine En.region ?_
 refine WL.run ht hn 1 ⟨[sl 2 (.ptr 0 0), sl 4 (.ptr 1 0), sl 37 (.rd (optR rLab r.1))], [.box [I letters] 3 false, .box [I 0, I 0, .v (.slice none 0 0), .v (.slice none 0 0)] 73 false, .gone]⟩ (by kernel_rfl) ?_
 obtain ⟨t, ht_2, h⟩ := h
 refine WL.ghost 37 (o1 (.rd (trR rLab t))) (by rfl) (some_of ht_2) ?_
 have hp := h.1
 replace h := h.2
 refine WL.mt0 (K := []) (p := none) hn (by rfl) (mt_call (rMach_ct fu t hp) en73 (caps := []) [] rfl (by rfl) (by kernel_rfl) (by kernel_rfl) (by rfl) (by rfl) (by rfl)) (by rfl) (by rfl) (by rfl) ?_
 refine WL.run ht hn 7 ⟨[sl 2 (.ptr 0 0), sl 4 (.ptr 1 0), sl 8 (.ptr 3 0), sl 9 (.ptr 4 0)], [.box [I letters] 3 false, .box [I 0, I 0, .v (.slice none 0 0), .v (.slice none 0 0)] 73 false, .gone, .box [.pe (svR (.agg [LS intT (machR fu t).1.fLetters, LS (lsT intT) (machR fu t).1.fNext])) 2] 157 false, .box [LS boolT (machR fu t).2] 56 false]⟩ (by kernel_rfl) ?_
 refine WL.nil ?_
 refine En.seq ?_
 refine En.seq ?_
 refine En.region ?_
 refine WL.run ht hn 2 ⟨[sl 2 (.ptr 0 0), sl 4 (.ptr 1 0), sl 8 (.ptr 3 0), sl 9 (.ptr 4 0), sl 42 (.pe (svR (.agg [LS intT (machR fu t).1.fLetters, LS (lsT intT) (machR fu t).1.fNext])) 2)], [.box [I letters] 3 false, .box [I 0, I 0, .v (.slice none 0 0), .v (.slice none 0 0)] 73 false, .gone, .box [.pe (svR (.agg [LS intT (machR fu t).1.fLetters, LS (lsT intT) (machR fu t).1.fNext])) 2] 157 false, .box [LS boolT (machR fu t).2] 56 false]⟩ (by kernel_rfl) ?_
 refine WL.val hn (by rfl) (val_field (l := [LS intT (machR fu t).1.fLetters, LS (lsT intT) (machR fu t).1.fNext]) (r := .one (LS intT (machR fu t).1.fLetters)) ht rfl (by rfl) (by rfl) (by rfl) (by rfl) (by rfl) (by rfl)) (by rfl) ?_
 refine WL.val hn (by rfl) (val_load (s := .one (LS intT (machR fu t).1.fLetters)) ht rfl (by rfl) (by rfl) (by rfl) (by rfl) (by rfl)) (by rfl) ?_
 refine WL.run ht hn 2 ⟨[sl 2 (.ptr 0 0), sl 4 (.ptr 1 0), sl 8 (.ptr 3 0), sl 9 (.ptr 4 0), sl 46 (B (decide (((machR fu t).1.fLetters.length : Int) > 10)))], [.box [I letters] 3 false, .box [I 0, I 0, .v (.slice none 0 0), .v (.slice none 0 0)] 73 false, .gone, .box [.pe (svR (.agg [LS intT (machR fu t).1.fLetters, LS (lsT intT) (machR fu t).1.fNext])) 2] 157 false, .box [LS boolT (machR fu t).2] 56 false]⟩ (by kernel_rfl) ?_
 refine WL.nil ?_
 refine En.cond (b := (decide (((machR fu t).1.fLetters.length : Int) > 10))) (by kernel_rfl) (fun hb => ?_) (fun hb => ?_)
 replace h := h.1 hb
 refine En.seq ?_
 refine En.region ?_
 refine WL.run ht hn 3 ⟨[sl 4 (.ptr 1 0), sl 5 (I 7)], [.gone, .box [I 0, I 0, .v (.slice none 0 0), .v (.slice none 0 0)] 73 false, .gone, .gone, .gone]⟩ (by kernel_rfl) ?_
 refine WL.nil ?_
 refine En.ret ?_
 refine En.nilBox (T := (lsT intT)) 1 2 (by rfl) (by rfl) ?_
 refine En.nilBox (T := intT) 1 3 (by rfl) (by rfl) ?_
 exact En.back ht ((ApiDet.mk 0 0 [] []), 7) h (by kernel_rfl) rfl
 replace h := h.2 hb
 refine En.skip ?_
 refine En.seq ?_
 refine En.region ?_
 refine WL.run ht hn 2 ⟨[sl 2 (.ptr 0 0), sl 4 (.ptr 1 0), sl 8 (.ptr 3 0), sl 9 (.ptr 4 0), sl 10 (.ptr 5 0)], [.box [I letters] 3 false, .box [I 0, I 0, .v (.slice none 0 0), .v (.slice none 0 0)] 73 false, .gone, .box [.pe (svR (.agg [LS intT (machR fu t).1.fLetters, LS (lsT intT) (machR fu t).1.fNext])) 2] 157 false, .box [LS boolT (machR fu t).2] 56 false, .box [I 0] 3 false]⟩ (by kernel_rfl) ?_
 refine WL.nil ?_
 refine En.seq ?_
 refine En.seq ?_
 refine En.region ?_
 refine WL.run ht hn 3 ⟨[sl 2 (.ptr 0 0), sl 4 (.ptr 1 0), sl 8 (.ptr 3 0), sl 9 (.ptr 4 0), sl 10 (.ptr 5 0), sl 48 (LS boolT (machR fu t).2), sl 49 (I ((machR fu t).2.length : Int)), sl 50 (I 0)], [.box [I letters] 3 false, .box [I 0, I 0, .v (.slice none 0 0), .v (.slice none 0 0)] 73 false, .gone, .box [.pe (svR (.agg [LS intT (machR fu t).1.fLetters, LS (lsT intT) (machR fu t).1.fNext])) 2] 157 false, .box [LS boolT (machR fu t).2] 56 false, .box [I 0] 3 false]⟩ (by kernel_rfl) ?_
 refine WL.nil ?_
 refine En.block ?_
 obtain ⟨Inv, mu, h0, hI⟩ := h
 refine En.loop (σ := Int × Int) (fun zz => Inv zz.1 zz.2) (fun zz => mu zz.1 zz.2) (fun zz => ⟨[sl 2 (.ptr 0 0), sl 4 (.ptr 1 0), sl 8 (.ptr 3 0), sl 9 (.ptr 4 0), sl 10 (.ptr 5 0), sl 48 (LS boolT (machR fu t).2), sl 49 (I ((machR fu t).2.length : Int)), sl 50 (I zz.1)], [.box [I letters] 3 false, .box [I 0, I 0, .v (.slice none 0 0), .v (.slice none 0 0)] 73 false, .gone, .box [.pe (svR (.agg [LS intT (machR fu t).1.fLetters, LS (lsT intT) (machR fu t).1.fNext])) 2] 157 false, .box [LS boolT (machR fu t).2] 56 false, .box [I zz.2] 3 false]⟩) (0, 0) h0 (sub_ok (by kernel_rfl)) ?_
 rintro ⟨x50, y5⟩ h
 replace h := hI _ _ h
 show En c ⟨[sl 2 (.ptr 0 0), sl 4 (.ptr 1 0), sl 8 (.ptr 3 0), sl 9 (.ptr 4 0), sl 10 (.ptr 5 0), sl 48 (LS boolT (machR fu t).2), sl 49 (I ((machR fu t).2.length : Int)), sl 50 (I x50)], [.box [I letters] 3 false, .box [I 0, I 0, .v (.slice none 0 0), .v (.slice none 0 0)] 73 false, .gone, .box [.pe (svR (.agg [LS intT (machR fu t).1.fLetters, LS (lsT intT) (machR fu t).1.fNext])) 2] 157 false, .box [LS boolT (machR fu t).2] 56 false, .box [I y5] 3 false]⟩ _
 refine En.seq ?_
 refine En.region ?_
 refine WL.run ht hn 1 ⟨[sl 2 (.ptr 0 0), sl 4 (.ptr 1 0), sl 8 (.ptr 3 0), sl 9 (.ptr 4 0), sl 10 (.ptr 5 0), sl 48 (LS boolT (machR fu t).2), sl 49 (I ((machR fu t).2.length : Int)), sl 50 (I x50), sl 51 (B (decide (x50 < ((machR fu t).2.length : Int))))], [.box [I letters] 3 false, .box [I 0, I 0, .v (.slice none 0 0), .v (.slice none 0 0)] 73 false, .gone, .box [.pe (svR (.agg [LS intT (machR fu t).1.fLetters, LS (lsT intT) (machR fu t).1.fNext])) 2] 157 false, .box [LS boolT (machR fu t).2] 56 false, .box [I y5] 3 false]⟩ (by kernel_rfl) ?_
 refine WL.nil ?_
 refine En.seq ?_
 refine En.cond (b := (decide (x50 < ((machR fu t).2.length : Int)))) (by kernel_rfl) (fun hb => ?_) (fun hb => ?_)
 replace h := h.1 hb
 refine En.skip ?_
 obtain ⟨J_2, h, hJ_2⟩ := h
 refine En.seqJ (σ := Int) (fun zz => J_2 zz) (fun zz => ⟨[sl 2 (.ptr 0 0), sl 4 (.ptr 1 0), sl 8 (.ptr 3 0), sl 9 (.ptr 4 0), sl 10 (.ptr 5 0), sl 48 (LS boolT (machR fu t).2), sl 49 (I ((machR fu t).2.length : Int)), sl 50 (I x50)], [.box [I letters] 3 false, .box [I 0, I 0, .v (.slice none 0 0), .v (.slice none 0 0)] 73 false, .gone, .box [.pe (svR (.agg [LS intT (machR fu t).1.fLetters, LS (lsT intT) (machR fu t).1.fNext])) 2] 157 false, .box [LS boolT (machR fu t).2] 56 false, .box [I zz] 3 false]⟩) ?_ ?_
 refine En.block ?_
 refine En.seq ?_
 refine En.region ?_
 refine WL.run ht hn 1 ⟨[sl 2 (.ptr 0 0), sl 4 (.ptr 1 0), sl 8 (.ptr 3 0), sl 9 (.ptr 4 0), sl 10 (.ptr 5 0), sl 48 (LS boolT (machR fu t).2), sl 49 (I ((machR fu t).2.length : Int)), sl 50 (I x50), sl 52 (I x50)], [.box [I letters] 3 false, .box [I 0, I 0, .v (.slice none 0 0), .v (.slice none 0 0)] 73 false, .gone, .box [.pe (svR (.agg [LS intT (machR fu t).1.fLetters, LS (lsT intT) (machR fu t).1.fNext])) 2] 157 false, .box [LS boolT (machR fu t).2] 56 false, .box [I y5] 3 false]⟩ (by kernel_rfl) ?_
 obtain ⟨e, he, h⟩ := h
 refine WL.val hn (by rfl) (val_index (T := boolT) (l := (machR fu t).2) (i := x50) ht rfl (by rfl) (by rfl) (by rfl) (by rfl) (by rfl) (by rfl) he) (by rfl) ?_
 refine WL.val hn (by rfl) (val_load (s := .one (B e)) ht rfl (by rfl) (by rfl) (by rfl) (by rfl) (by rfl)) (by rfl) ?_
 refine WL.run ht hn 2 ⟨[sl 2 (.ptr 0 0), sl 4 (.ptr 1 0), sl 8 (.ptr 3 0), sl 9 (.ptr 4 0), sl 10 (.ptr 5 0), sl 11 (I x50), sl 12 (B e), sl 48 (LS boolT (machR fu t).2), sl 49 (I ((machR fu t).2.length : Int)), sl 50 (I x50)], [.box [I letters] 3 false, .box [I 0, I 0, .v (.slice none 0 0), .v (.slice none 0 0)] 73 false, .gone, .box [.pe (svR (.agg [LS intT (machR fu t).1.fLetters, LS (lsT intT) (machR fu t).1.fNext])) 2] 157 false, .box [LS boolT (machR fu t).2] 56 false, .box [I y5] 3 false]⟩ (by kernel_rfl) ?_
 refine WL.nil ?_
 refine En.seq ?_
 refine En.region ?_
 refine WL.run ht hn 1 ⟨[sl 2 (.ptr 0 0), sl 4 (.ptr 1 0), sl 8 (.ptr 3 0), sl 9 (.ptr 4 0), sl 10 (.ptr 5 0), sl 11 (I x50), sl 48 (LS boolT (machR fu t).2), sl 49 (I ((machR fu t).2.length : Int)), sl 50 (I x50), sl 55 (B e)], [.box [I letters] 3 false, .box [I 0, I 0, .v (.slice none 0 0), .v (.slice none 0 0)] 73 false, .gone, .box [.pe (svR (.agg [LS intT (machR fu t).1.fLetters, LS (lsT intT) (machR fu t).1.fNext])) 2] 157 false, .box [LS boolT (machR fu t).2] 56 false, .box [I y5] 3 false]⟩ (by kernel_rfl) ?_
 refine WL.nil ?_
 refine En.cond (b := e) (by kernel_rfl) (fun hb => ?_) (fun hb => ?_)
 replace h := h.1 hb
 have hz := h.1
 replace h := h.2
 refine En.regionA ⟨[sl 2 (.ptr 0 0), sl 4 (.ptr 1 0), sl 8 (.ptr 3 0), sl 9 (.ptr 4 0), sl 10 (.ptr 5 0), sl 11 (I x50), sl 48 (LS boolT (machR fu t).2), sl 49 (I ((machR fu t).2.length : Int)), sl 50 (I x50)], [.sv (.one (I y5)), .sv (.one (I x50)), .sv (.one (I (wr (1 * (2 ^ (min (x50).toNat 64)))))), .sv (.one (I (bitsI .or .i64 y5 (wr (1 * (2 ^ (min (x50).toNat 64))))))), .tup []], [⟨.box [I letters] 3 false, none, none, none⟩, ⟨.box [I 0, I 0, .v (.slice none 0 0), .v (.slice none 0 0)] 73 false, none, none, none⟩, ⟨.gone, none, none, none⟩, ⟨.box [.pe (svR (.agg [LS intT (machR fu t).1.fLetters, LS (lsT intT) (machR fu t).1.fNext])) 2] 157 false, none, none, none⟩, ⟨.box [LS boolT (machR fu t).2] 56 false, none, none, none⟩, ⟨.box [I y5] 3 false, none, none, some (4, .box [I (bitsI .or .i64 y5 (wr (1 * (2 ^ (min (x50).toNat 64)))))] 3 false)⟩]⟩ ⟨[sl 2 (.ptr 0 0), sl 4 (.ptr 1 0), sl 8 (.ptr 3 0), sl 9 (.ptr 4 0), sl 10 (.ptr 5 0), sl 48 (LS boolT (machR fu t).2), sl 49 (I ((machR fu t).2.length : Int)), sl 50 (I x50)], [.box [I letters] 3 false, .box [I 0, I 0, .v (.slice none 0 0), .v (.slice none 0 0)] 73 false, .gone, .box [.pe (svR (.agg [LS intT (machR fu t).1.fLetters, LS (lsT intT) (machR fu t).1.fNext])) 2] 157 false, .box [LS boolT (machR fu t).2] 56 false, .box [I (bitsI .or .i64 y5 (wr (1 * (2 ^ (min (x50).toNat 64)))))] 3 false]⟩ (by kernel_rfl) hn (by kernel_rfl) (by rfl) (by kernel_rfl) ?_ (by kernel_rfl) ?_
 exact ⟨.mt ⟨[sl 10 (.ptr 5 0)], [.gone, .gone, .gone, .gone, .gone, .box [I y5] 3 false]⟩ [] none (by kernel_rfl) (by rfl) (mt_ev ht (by kernel_rfl)) rfl rfl rfl rfl,
 .mt ⟨[sl 11 (I x50)], []⟩ [] none (by kernel_rfl) (by rfl) (mt_ev ht (by kernel_rfl)) rfl rfl rfl rfl,
 .mt ⟨[sl 57 (I x50)], []⟩ [] none (by kernel_rfl) (by rfl) (mt_val (val_shift (u := 1) (v := x50) rfl (by rfl) (by rfl) hz (.inl ⟨rfl, rfl⟩))) rfl rfl rfl rfl,
 .mt ⟨[sl 56 (I y5), sl 58 (I (wr (1 * (2 ^ (min (x50).toNat 64)))))], []⟩ [] none (by kernel_rfl) (by rfl) (mt_ev ht (by kernel_rfl)) rfl rfl rfl rfl,
 .mu ⟨[sl 10 (.ptr 5 0), sl 59 (I (bitsI .or .i64 y5 (wr (1 * (2 ^ (min (x50).toNat 64))))))], [.gone, .gone, .gone, .gone, .gone, .box [I y5] 3 false]⟩ 5 _ _ rfl rfl (by kernel_rfl) (by rfl) (mu_store2 ht rfl (by rfl) (by rfl) (by rfl) (by rfl) (fun h => by cases h) (by rfl) (by rfl)) rfl rfl rfl rfl rfl rfl rfl,
 trivial⟩
 exact En.at (I := fun zz => J_2 zz) (T := fun zz => ⟨[sl 2 (.ptr 0 0), sl 4 (.ptr 1 0), sl 8 (.ptr 3 0), sl 9 (.ptr 4 0), sl 10 (.ptr 5 0), sl 48 (LS boolT (machR fu t).2), sl 49 (I ((machR fu t).2.length : Int)), sl 50 (I x50)], [.box [I letters] 3 false, .box [I 0, I 0, .v (.slice none 0 0), .v (.slice none 0 0)] 73 false, .gone, .box [.pe (svR (.agg [LS intT (machR fu t).1.fLetters, LS (lsT intT) (machR fu t).1.fNext])) 2] 157 false, .box [LS boolT (machR fu t).2] 56 false, .box [I zz] 3 false]⟩) (bitsI .or .i64 y5 (wr (1 * (2 ^ (min (x50).toNat 64))))) h (by kernel_rfl)
 replace h := h.2 hb
 refine En.skip ?_
 exact En.at (I := fun zz => J_2 zz) (T := fun zz => ⟨[sl 2 (.ptr 0 0), sl 4 (.ptr 1 0), sl 8 (.ptr 3 0), sl 9 (.ptr 4 0), sl 10 (.ptr 5 0), sl 48 (LS boolT (machR fu t).2), sl 49 (I ((machR fu t).2.length : Int)), sl 50 (I x50)], [.box [I letters] 3 false, .box [I 0, I 0, .v (.slice none 0 0), .v (.slice none 0 0)] 73 false, .gone, .box [.pe (svR (.agg [LS intT (machR fu t).1.fLetters, LS (lsT intT) (machR fu t).1.fNext])) 2] 157 false, .box [LS boolT (machR fu t).2] 56 false, .box [I zz] 3 false]⟩) y5 h (by kernel_rfl)
 intro y5_2 h
 replace h := hJ_2 _ h
 show En c ⟨[sl 2 (.ptr 0 0), sl 4 (.ptr 1 0), sl 8 (.ptr 3 0), sl 9 (.ptr 4 0), sl 10 (.ptr 5 0), sl 48 (LS boolT (machR fu t).2), sl 49 (I ((machR fu t).2.length : Int)), sl 50 (I x50)], [.box [I letters] 3 false, .box [I 0, I 0, .v (.slice none 0 0), .v (.slice none 0 0)] 73 false, .gone, .box [.pe (svR (.agg [LS intT (machR fu t).1.fLetters, LS (lsT intT) (machR fu t).1.fNext])) 2] 157 false, .box [LS boolT (machR fu t).2] 56 false, .box [I y5_2] 3 false]⟩ _
 refine En.region ?_
 refine WL.run ht hn 2 ⟨[sl 2 (.ptr 0 0), sl 4 (.ptr 1 0), sl 8 (.ptr 3 0), sl 9 (.ptr 4 0), sl 10 (.ptr 5 0), sl 48 (LS boolT (machR fu t).2), sl 49 (I ((machR fu t).2.length : Int)), sl 50 (I (wr (x50 + 1)))], [.box [I letters] 3 false, .box [I 0, I 0, .v (.slice none 0 0), .v (.slice none 0 0)] 73 false, .gone, .box [.pe (svR (.agg [LS intT (machR fu t).1.fLetters, LS (lsT intT) (machR fu t).1.fNext])) 2] 157 false, .box [LS boolT (machR fu t).2] 56 false, .box [I y5_2] 3 false]⟩ (by kernel_rfl) ?_
 refine WL.nil ?_
 exact En.at (I := fun zz => Inv zz.1 zz.2 ∧ mu zz.1 zz.2 < mu x50 y5) (T := fun zz => ⟨[sl 2 (.ptr 0 0), sl 4 (.ptr 1 0), sl 8 (.ptr 3 0), sl 9 (.ptr 4 0), sl 10 (.ptr 5 0), sl 48 (LS boolT (machR fu t).2), sl 49 (I ((machR fu t).2.length : Int)), sl 50 (I zz.1)], [.box [I letters] 3 false, .box [I 0, I 0, .v (.slice none 0 0), .v (.slice none 0 0)] 73 false, .gone, .box [.pe (svR (.agg [LS intT (machR fu t).1.fLetters, LS (lsT intT) (machR fu t).1.fNext])) 2] 157 false, .box [LS boolT (machR fu t).2] 56 false, .box [I zz.2] 3 false]⟩) ((wr (x50 + 1)), y5_2) h (by kernel_rfl)
 replace h := h.2 hb
 refine En.exit rfl ?_
 refine En.seq ?_
 refine En.freeze [4, 3] (by rfl) ?_
 refine En.freeze [5] (by rfl) ?_
 have hz_2 := h.1
 replace h := h.2
 have hp_2 := h.1
 replace h := h.2
 refine En.regionA ⟨[sl 2 (.ptr 0 0), sl 4 (.ptr 1 0), sl 8 (.ptr 3 0), sl 9 (.ptr 4 0), sl 10 (.ptr 5 0)], [.sv (.one (I letters)), .sv (.one (.pe (svR (.agg [LS intT (machR fu t).1.fLetters, LS (lsT intT) (machR fu t).1.fNext])) 2)), .sv (.one (.pe (svR (.agg [LS intT (machR fu t).1.fLetters, LS (lsT intT) (machR fu t).1.fNext])) 2)), .sv (.one (.pe (svR (.one (LS intT (machR fu t).1.fLetters))) 1)), .sv (.one (LS intT (machR fu t).1.fLetters)), .sv (.one (I ((machR fu t).1.fLetters.length : Int))), .sv (.one (I (wr (1 * (2 ^ (min (((machR fu t).1.fLetters.length : Int)).toNat 64)))))), .sv (.one (.rd (fvR (fun (x_ : (Int × Int)) => [.sv (.one (I x_.1)), .sv (.one (I x_.2))]) (fun (r : Int) => .sv (.one (I r))) (fun (x : Int × Int) => goDom (machR fu t).2 (machR fu t).1 x.1 x.2) (fun (x : Int × Int) => goR (machR fu t).2 (machR fu t).1 x.1 x.2)))), .sv (.one (.rd (fvR (fun (x_ : Int) => [.sv (.one (I x_))]) (fun (r : Int) => .sv (.one (I r))) (fun _ => True) (fun (x : Int) => mkR y5 x)))), .tup [.agg (ApiDet.cl (explR (fun k (a : Nat) => (fun (x : Int × Int) => goR (machR fu t).2 (machR fu t).1 x.1 x.2) (k, (a : Int))) (fun (x : Int) => mkR y5 x) (letters).toNat (wr (1 * (2 ^ (min (((machR fu t).1.fLetters.length : Int)).toNat 64)))) 3000).1), .one (B (explR (fun k (a : Nat) => (fun (x : Int × Int) => goR (machR fu t).2 (machR fu t).1 x.1 x.2) (k, (a : Int))) (fun (x : Int) => mkR y5 x) (letters).toNat (wr (1 * (2 ^ (min (((machR fu t).1.fLetters.length : Int)).toNat 64)))) 3000).2)], .tup [.agg (ApiDet.cl (explR (fun k (a : Nat) => (fun (x : Int × Int) => goR (machR fu t).2 (machR fu t).1 x.1 x.2) (k, (a : Int))) (fun (x : Int) => mkR y5 x) (letters).toNat (wr (1 * (2 ^ (min (((machR fu t).1.fLetters.length : Int)).toNat 64)))) 3000).1), .one (B (explR (fun k (a : Nat) => (fun (x : Int × Int) => goR (machR fu t).2 (machR fu t).1 x.1 x.2) (k, (a : Int))) (fun (x : Int) => mkR y5 x) (letters).toNat (wr (1 * (2 ^ (min (((machR fu t).1.fLetters.length : Int)).toNat 64)))) 3000).2)], .sv (.agg (ApiDet.cl (explR (fun k (a : Nat) => (fun (x : Int × Int) => goR (machR fu t).2 (machR fu t).1 x.1 x.2) (k, (a : Int))) (fun (x : Int) => mkR y5 x) (letters).toNat (wr (1 * (2 ^ (min (((machR fu t).1.fLetters.length : Int)).toNat 64)))) 3000).1)), .sv (.one (B (explR (fun k (a : Nat) => (fun (x : Int × Int) => goR (machR fu t).2 (machR fu t).1 x.1 x.2) (k, (a : Int))) (fun (x : Int) => mkR y5 x) (letters).toNat (wr (1 * (2 ^ (min (((machR fu t).1.fLetters.length : Int)).toNat 64)))) 3000).2)), .sv (.one (.ptr 6 0)), .tup [], .sv (.one (B (explR (fun k (a : Nat) => (fun (x : Int × Int) => goR (machR fu t).2 (machR fu t).1 x.1 x.2) (k, (a : Int))) (fun (x : Int) => mkR y5 x) (letters).toNat (wr (1 * (2 ^ (min (((machR fu t).1.fLetters.length : Int)).toNat 64)))) 3000).2))], [⟨.box [I letters] 3 false, none, none, none⟩, ⟨.box [I 0, I 0, .v (.slice none 0 0), .v (.slice none 0 0)] 73 false, none, none, none⟩, ⟨.gone, none, none, none⟩, ⟨.box [.pe (svR (.agg [LS intT (machR fu t).1.fLetters, LS (lsT intT) (machR fu t).1.fNext])) 2] 157 true, none, none, none⟩, ⟨.box [LS boolT (machR fu t).2] 56 true, none, none, none⟩, ⟨.box [I y5] 3 true, none, none, none⟩, ⟨.box [I 0, I 0, .v (.slice none 0 0), .v (.slice none 0 0)] 73 false, some 13, none, some (14, .box (ApiDet.cl (explR (fun k (a : Nat) => (fun (x : Int × Int) => goR (machR fu t).2 (machR fu t).1 x.1 x.2) (k, (a : Int))) (fun (x : Int) => mkR y5 x) (letters).toNat (wr (1 * (2 ^ (min (((machR fu t).1.fLetters.length : Int)).toNat 64)))) 3000).1) 73 false)⟩]⟩ ⟨[sl 4 (.ptr 1 0), sl 13 (.ptr 6 0)], [.gone, .box [I 0, I 0, .v (.slice none 0 0), .v (.slice none 0 0)] 73 false, .gone, .gone, .gone, .gone, .box (ApiDet.cl (explR (fun k (a : Nat) => (fun (x : Int × Int) => goR (machR fu t).2 (machR fu t).1 x.1 x.2) (k, (a : Int))) (fun (x : Int) => mkR y5 x) (letters).toNat (wr (1 * (2 ^ (min (((machR fu t).1.fLetters.length : Int)).toNat 64)))) 3000).1) 73 false]⟩ (by kernel_rfl) hn (by kernel_rfl) (by rfl) (by kernel_rfl) ?_ (by kernel_rfl) ?_
 exact ⟨.mt ⟨[sl 2 (.ptr 0 0)], [.box [I letters] 3 false]⟩ [] none (by kernel_rfl) (by rfl) (mt_ev ht (by kernel_rfl)) rfl rfl rfl rfl,
 .mt ⟨[sl 8 (.ptr 3 0)], [.gone, .gone, .gone, .box [.pe (svR (.agg [LS intT (machR fu t).1.fLetters, LS (lsT intT) (machR fu t).1.fNext])) 2] 157 true]⟩ [] none (by kernel_rfl) (by rfl) (mt_ev ht (by kernel_rfl)) rfl rfl rfl rfl,
 .mt ⟨[sl 63 (.pe (svR (.agg [LS intT (machR fu t).1.fLetters, LS (lsT intT) (machR fu t).1.fNext])) 2)], []⟩ [] none (by kernel_rfl) (by rfl) (mt_ev ht (by kernel_rfl)) rfl rfl rfl rfl,
 .mt ⟨[sl 64 (.pe (svR (.agg [LS intT (machR fu t).1.fLetters, LS (lsT intT) (machR fu t).1.fNext])) 2)], []⟩ [] none (by kernel_rfl) (by rfl) (mt_val (val_field (l := [LS intT (machR fu t).1.fLetters, LS (lsT intT) (machR fu t).1.fNext]) (r := .one (LS intT (machR fu t).1.fLetters)) ht rfl (by rfl) (by rfl) (by rfl) (by rfl) (by rfl) (by rfl))) rfl rfl rfl rfl,
 .mt ⟨[sl 65 (.pe (svR (.one (LS intT (machR fu t).1.fLetters))) 1)], []⟩ [] none (by kernel_rfl) (by rfl) (mt_val (val_load (s := .one (LS intT (machR fu t).1.fLetters)) ht rfl (by rfl) (by rfl) (by rfl) (by rfl) (by rfl))) rfl rfl rfl rfl,
 .mt ⟨[sl 66 (LS intT (machR fu t).1.fLetters)], []⟩ [] none (by kernel_rfl) (by rfl) (mt_ev ht (by kernel_rfl)) rfl rfl rfl rfl,
 .mt ⟨[sl 67 (I ((machR fu t).1.fLetters.length : Int))], []⟩ [] none (by kernel_rfl) (by rfl) (mt_val (val_shift (u := 1) (v := ((machR fu t).1.fLetters.length : Int)) rfl (by rfl) (by rfl) hz_2 (.inl ⟨rfl, rfl⟩))) rfl rfl rfl rfl,
 .mt ⟨[sl 8 (.ptr 3 0), sl 9 (.ptr 4 0)], [.gone, .gone, .gone, .box [.pe (svR (.agg [LS intT (machR fu t).1.fLetters, LS (lsT intT) (machR fu t).1.fNext])) 2] 157 true, .box [LS boolT (machR fu t).2] 56 true]⟩ [] none (by kernel_rfl) (by rfl) (mt_fv (x := .sv (.one (.fn 75 [4, 3]))) ht (by kernel_rfl) (fv_of (M := [.box [LS boolT (machR fu t).2] 56 true, .box [.pe (svR (.agg [LS intT (machR fu t).1.fLetters, LS (lsT intT) (machR fu t).1.fNext])) 2] 157 true]) (caps := [4, 3]) (fun x_ hx => rgD2_ct x_.1 x_.2 (machR fu t).2 (machR fu t).1 hx) en75 rfl (by kernel_rfl) (by rfl) (fun _ => rfl))) rfl rfl rfl rfl,
 .mt ⟨[sl 10 (.ptr 5 0)], [.gone, .gone, .gone, .gone, .gone, .box [I y5] 3 true]⟩ [] none (by kernel_rfl) (by rfl) (mt_fv (x := .sv (.one (.fn 76 [5]))) ht (by kernel_rfl) (fv_of (M := [.box [I y5] 3 true]) (caps := [5]) (fun x_ _ => rgD3_ct x_ y5) en76 rfl (by kernel_rfl) (by rfl) (fun _ => rfl))) rfl rfl rfl rfl,
 .mt ⟨[sl 62 (I letters), sl 68 (I (wr (1 * (2 ^ (min (((machR fu t).1.fLetters.length : Int)).toNat 64))))), sl 69 (.rd (fvR (fun (x_ : (Int × Int)) => [.sv (.one (I x_.1)), .sv (.one (I x_.2))]) (fun (r : Int) => .sv (.one (I r))) (fun (x : Int × Int) => goDom (machR fu t).2 (machR fu t).1 x.1 x.2) (fun (x : Int × Int) => goR (machR fu t).2 (machR fu t).1 x.1 x.2))), sl 70 (.rd (fvR (fun (x_ : Int) => [.sv (.one (I x_))]) (fun (r : Int) => .sv (.one (I r))) (fun _ => True) (fun (x : Int) => mkR y5 x)))], []⟩ [] none (by kernel_rfl) (by rfl) (mt_call (exploreInt_ct letters (wr (1 * (2 ^ (min (((machR fu t).1.fLetters.length : Int)).toNat 64)))) (fun (x : Int × Int) => goDom (machR fu t).2 (machR fu t).1 x.1 x.2) (fun (x : Int × Int) => goR (machR fu t).2 (machR fu t).1 x.1 x.2) (fun _ => True) (fun (x : Int) => mkR y5 x) 3000 hp_2) en74 (caps := []) [] rfl (by rfl) (by kernel_rfl) (by kernel_rfl) (by rfl) (by rfl) (by rfl)) rfl rfl rfl rfl,
 .mt ⟨[(71, .tup [.agg (ApiDet.cl (explR (fun k (a : Nat) => (fun (x : Int × Int) => goR (machR fu t).2 (machR fu t).1 x.1 x.2) (k, (a : Int))) (fun (x : Int) => mkR y5 x) (letters).toNat (wr (1 * (2 ^ (min (((machR fu t).1.fLetters.length : Int)).toNat 64)))) 3000).1), .one (B (explR (fun k (a : Nat) => (fun (x : Int × Int) => goR (machR fu t).2 (machR fu t).1 x.1 x.2) (k, (a : Int))) (fun (x : Int) => mkR y5 x) (letters).toNat (wr (1 * (2 ^ (min (((machR fu t).1.fLetters.length : Int)).toNat 64)))) 3000).2)])], []⟩ [] none (by kernel_rfl) (by rfl) (mt_ev ht (by kernel_rfl)) rfl rfl rfl rfl,
 .mt ⟨[(61, .tup [.agg (ApiDet.cl (explR (fun k (a : Nat) => (fun (x : Int × Int) => goR (machR fu t).2 (machR fu t).1 x.1 x.2) (k, (a : Int))) (fun (x : Int) => mkR y5 x) (letters).toNat (wr (1 * (2 ^ (min (((machR fu t).1.fLetters.length : Int)).toNat 64)))) 3000).1), .one (B (explR (fun k (a : Nat) => (fun (x : Int × Int) => goR (machR fu t).2 (machR fu t).1 x.1 x.2) (k, (a : Int))) (fun (x : Int) => mkR y5 x) (letters).toNat (wr (1 * (2 ^ (min (((machR fu t).1.fLetters.length : Int)).toNat 64)))) 3000).2)])], []⟩ [] none (by kernel_rfl) (by rfl) (mt_ev ht (by kernel_rfl)) rfl rfl rfl rfl,
 .mt ⟨[(61, .tup [.agg (ApiDet.cl (explR (fun k (a : Nat) => (fun (x : Int × Int) => goR (machR fu t).2 (machR fu t).1 x.1 x.2) (k, (a : Int))) (fun (x : Int) => mkR y5 x) (letters).toNat (wr (1 * (2 ^ (min (((machR fu t).1.fLetters.length : Int)).toNat 64)))) 3000).1), .one (B (explR (fun k (a : Nat) => (fun (x : Int × Int) => goR (machR fu t).2 (machR fu t).1 x.1 x.2) (k, (a : Int))) (fun (x : Int) => mkR y5 x) (letters).toNat (wr (1 * (2 ^ (min (((machR fu t).1.fLetters.length : Int)).toNat 64)))) 3000).2)])], []⟩ [] none (by kernel_rfl) (by rfl) (mt_ev ht (by kernel_rfl)) rfl rfl rfl rfl,
 .mt ⟨[], []⟩ [] (some 6) (by kernel_rfl) (by rfl) (mt_alloc2 6 73 ht rfl (by rfl) (by rfl)) rfl rfl rfl rfl,
 .mu ⟨[sl 13 (.ptr 6 0), (72, .sv (.agg (ApiDet.cl (explR (fun k (a : Nat) => (fun (x : Int × Int) => goR (machR fu t).2 (machR fu t).1 x.1 x.2) (k, (a : Int))) (fun (x : Int) => mkR y5 x) (letters).toNat (wr (1 * (2 ^ (min (((machR fu t).1.fLetters.length : Int)).toNat 64)))) 3000).1)))], [.gone, .gone, .gone, .gone, .gone, .gone, .box [I 0, I 0, .v (.slice none 0 0), .v (.slice none 0 0)] 73 false]⟩ 6 _ _ rfl rfl (by kernel_rfl) (by rfl) (mu_store2 ht rfl (by rfl) (by rfl) (by rfl) (by rfl) (fun h => by cases h) (by rfl) (by rfl)) rfl rfl rfl rfl rfl rfl rfl,
 .mt ⟨[sl 73 (B (explR (fun k (a : Nat) => (fun (x : Int × Int) => goR (machR fu t).2 (machR fu t).1 x.1 x.2) (k, (a : Int))) (fun (x : Int) => mkR y5 x) (letters).toNat (wr (1 * (2 ^ (min (((machR fu t).1.fLetters.length : Int)).toNat 64)))) 3000).2)], []⟩ [] none (by kernel_rfl) (by rfl) (mt_ev ht (by kernel_rfl)) rfl rfl rfl rfl,
 trivial⟩
 refine En.seq ?_
 refine En.region ?_
 refine WL.run ht hn 1 ⟨[sl 4 (.ptr 1 0), (74, .sv (.agg (ApiDet.cl (explR (fun k (a : Nat) => (fun (x : Int × Int) => goR (machR fu t).2 (machR fu t).1 x.1 x.2) (k, (a : Int))) (fun (x : Int) => mkR y5 x) (letters).toNat (wr (1 * (2 ^ (min (((machR fu t).1.fLetters.length : Int)).toNat 64)))) 3000).1)))], [.gone, .box [I 0, I 0, .v (.slice none 0 0), .v (.slice none 0 0)] 73 false, .gone, .gone, .gone, .gone, .gone]⟩ (by kernel_rfl) ?_
 have hp := h.1
 replace h := h.2
 refine WL.mt0 (K := []) (p := none) hn (by rfl) (mt_call (smallest_ct (explR (fun k (a : Nat) => (fun (x : Int × Int) => goR (machR fu t).2 (machR fu t).1 x.1 x.2) (k, (a : Int))) (fun (x : Int) => mkR y5 x) (letters).toNat (wr (1 * (2 ^ (min (((machR fu t).1.fLetters.length : Int)).toNat 64)))) 3000).1 hp) en77 (caps := []) [] rfl (by rfl) (by kernel_rfl) (by kernel_rfl) (by rfl) (by rfl) (by rfl)) (by rfl) (by rfl) (by rfl) ?_
 refine WL.run ht hn 2 ⟨[sl 4 (.ptr 1 0), sl 5 (I 0)], [.gone, .box (ApiDet.cl (canon ((explR (fun k (a : Nat) => (fun (x : Int × Int) => goR (machR fu t).2 (machR fu t).1 x.1 x.2) (k, (a : Int))) (fun (x : Int) => mkR y5 x) (letters).toNat (wr (1 * (2 ^ (min (((machR fu t).1.fLetters.length : Int)).toNat 64)))) 3000).1).fLetters.toNat (langD (explR (fun k (a : Nat) => (fun (x : Int × Int) => goR (machR fu t).2 (machR fu t).1 x.1 x.2) (k, (a : Int))) (fun (x : Int) => mkR y5 x) (letters).toNat (wr (1 * (2 ^ (min (((machR fu t).1.fLetters.length : Int)).toNat 64)))) 3000).1 ((explR (fun k (a : Nat) => (fun (x : Int × Int) => goR (machR fu t).2 (machR fu t).1 x.1 x.2) (k, (a : Int))) (fun (x : Int) => mkR y5 x) (letters).toNat (wr (1 * (2 ^ (min (((machR fu t).1.fLetters.length : Int)).toNat 64)))) 3000).1).fStart.toNat))) 73 false, .gone, .gone, .gone, .gone, .gone]⟩ (by kernel_rfl) ?_
 refine WL.nil ?_
 refine En.ret ?_
 exact En.back ht ((canon ((explR (fun k (a : Nat) => (fun (x : Int × Int) => goR (machR fu t).2 (machR fu t).1 x.1 x.2) (k, (a : Int))) (fun (x : Int) => mkR y5 x) (letters).toNat (wr (1 * (2 ^ (min (((machR fu t).1.fLetters.length : Int)).toNat 64)))) 3000).1).fLetters.toNat (langD (explR (fun k (a : Nat) => (fun (x : Int × Int) => goR (machR fu t).2 (machR fu t).1 x.1 x.2) (k, (a : Int))) (fun (x : Int) => mkR y5 x) (letters).toNat (wr (1 * (2 ^ (min (((machR fu t).1.fLetters.length : Int)).toNat 64)))) 3000).1 ((explR (fun k (a : Nat) => (fun (x : Int × Int) => goR (machR fu t).2 (machR fu t).1 x.1 x.2) (k, (a : Int))) (fun (x : Int) => mkR y5 x) (letters).toNat (wr (1 * (2 ^ (min (((machR fu t).1.fLetters.length : Int)).toNat 64)))) 3000).1).fStart.toNat)), 0) h (by kernel_rfl) rfl
theorem en27 : ∀ args w, (callFunc 27 args).run Try.prog w = .ok (.enter 27 args) w := enters_of Try.func27 (by kernel_rfl) rfl
end Go.Proofs.Ytapnmjeadbhffaa


namespace Go.Proofs.Ytapnmjeadbhffaa
open Go.RowKit Go.MapKept
set_option linter.unusedSimpArgs false
set_option linter.unusedVariables false
set_option maxRecDepth 100000
def lastL : List Bool → Nat → Int → Int
 | [], _, y => y
 | b :: l, x, y => lastL l (x + 1) (if b = true then bitsI .or .i64 y (wr (1 * (2 ^ (min ((x : Int)).toNat 64)))) else y)
def startR (p : RegularPlaces) : Int := wr (1 * (2 ^ (min ((p.fLetters.length : Int)).toNat 64)))
def rLang (M : RegularPlaces × List Bool) : Lang := langK (fun st (a : Nat) => goR M.2 M.1 st (a : Int)) (mkR (lastL M.2 0 0)) (startR M.1)
theorem rDet_ok (fu : Nat) (letters : Int) (text : ByteArray) (t : RTr) (M : RegularPlaces × List Bool) (m : List Int) (ht : fullS text = some t) (hl : 1 ≤ letters ∧ letters ≤ 4) (hs : ¬ 0 ≤ strIdx (fun (x : Int) => d1R letters x) true text (text.size + 1) 0) (hm : machS fu t = some M)
  (hn : M.1.fLetters.length ≤ 10) (hg : M.2.length ≤ 1048576) (h0 : startR M.1 ∈ m) (hP : ∀ st (a : Nat), st ∈ m → a < letters.toNat → goDom M.2 M.1 st (a : Int) ∧ goR M.2 M.1 st (a : Int) ∈ m) (hml : m.length ≤ 3000) :
  Ct 27 [.sv (.one (I letters)), .sv (.one (.v (.string text)))] [] (fun (_ : Unit) => True) (fun _ => .tup [.agg [I (canon letters.toNat (rLang M)).fLetters, I (canon letters.toNat (rLang M)).fStart, LS (lsT intT) (canon letters.toNat (rLang M)).fNext, LS intT (canon letters.toNat (rLang M)).fMark], .one (I 0)]) := by
 refine (rDet_walk fu letters text (fun r => r = (canon letters.toNat (rLang M), 0)) ?_).fun
 unfold rDet_vc
 intro r hr
 have hr : r = (some t, ⟨0, 0⟩) := by
  unfold ParsedQ at hr
  rw [ht] at hr
  exact hr
 subst hr
 refine ⟨fun hb => (by cases hb), fun _ => ⟨fun b => b = false, ⟨fun hb => absurd (of_decide_eq_true hb) (by omega), fun _ => ⟨fun hb => absurd (of_decide_eq_true hb) (by omega), fun _ => ⟨fun _ => trivial, decide_eq_false hs⟩⟩⟩, ?_⟩⟩
 rintro _ rfl
 refine ⟨fun hb => (by cases hb), fun _ => ⟨t, rfl, by rw [hm]; rfl, ?_⟩⟩
 have hz : machR fu t = M := by
  unfold machR
  rw [hm]
  rfl
 rw [hz]
 refine ⟨fun hb => absurd (of_decide_eq_true hb) (by omega), fun _ => ⟨fun x y => ∃ n : Nat, x = n ∧ n ≤ M.2.length ∧ lastL (M.2.drop n) n y = lastL M.2 0 0, fun x _ => M.2.length - x.toNat, ⟨0, rfl, Nat.zero_le _, rfl⟩, ?_⟩⟩
 rintro _ y ⟨n, rfl, hnl, he⟩
 refine ⟨fun hb => ?_, fun hb => ?_⟩
 ·have hlt : n < M.2.length := by have := of_decide_eq_true hb; exact Int.ofNat_lt.1 this
  rw [List.drop_eq_getElem_cons hlt, lastL] at he
  refine ⟨fun y2 => lastL (M.2.drop (n + 1)) (n + 1) y2 = lastL M.2 0 0, ⟨M.2[n], by simp [idx, hlt], fun hb2 => ⟨Int.natCast_nonneg _, ?_⟩, fun hb2 => ?_⟩, fun y2 h2 => ⟨⟨n + 1, wr_len (n := M.2.length) (by omega) hlt, hlt, h2⟩, ?_⟩⟩
  ·rw [if_pos hb2] at he
   exact he
  ·rw [if_neg (by rw [hb2]; decide)] at he
   exact he
  ·rw [wr_len (n := M.2.length) (by omega) hlt]
   show M.2.length - (n + 1) < M.2.length - n
   omega
 ·have hge : M.2.length ≤ n := by have := of_decide_eq_false hb; exact Nat.le_of_not_lt fun h => this (Int.ofNat_lt.2 h)
  rw [List.drop_eq_nil_of_le hge, lastL] at he
  subst he
  have hP2 : ∀ k a, k ∈ m → a < letters.toNat → goR M.2 M.1 k ((a : Nat) : Int) ∈ m := fun k a hk ha => (hP k a hk ha).2
  have key : ∀ E : ApiDet × Bool, E = (explD (fun st (a : Nat) => goR M.2 M.1 st (a : Int)) (mkR (lastL M.2 0 0)) letters.toNat (startR M.1), true) → ClsOk E.1 ∧ canon (E.1).fLetters.toNat (langD E.1 (E.1).fStart.toNat) = canon letters.toNat (rLang M) := by
   rintro E rfl
   have hcount := explD_count (mark := mkR (lastL M.2 0 0)) h0 hP2
   refine ⟨⟨explD_wf h0 hP2, Nat.le_trans hcount (by omega), ?_, explD_marks h0 hP2 fun k hk => ?_⟩, canon_congr fun w hw => explD_lang h0 hP2 hw⟩
   ·show ((letters.toNat : Nat) : Int) ≤ 1000
    omega
   ·unfold mkR
    split <;> decide
  obtain ⟨k1, k2⟩ := key _ (explR_ends (limit := 3000) h0 hP2 (by omega))
  exact ⟨Int.natCast_nonneg _, ⟨⟨by omega, by omega⟩, by decide, fun st => st ∈ m, h0, fun st a hk ha => hP st a hk (by omega), fun _ _ => trivial⟩, k1, congrArg (fun d => (d, (0 : Int))) k2⟩
def textC : ByteArray := ByteArray.mk #[40, 97, 43, 98, 41, 42, 97]
def treeC : RTr := nd 3 0 [nd 4 0 [nd 5 0 [nd 3 0 [nd 4 0 [nd 2 0 []], nd 4 0 [nd 2 1 []]]], nd 2 0 []]]
def machC : RegularPlaces × List Bool := (⟨[0, 1, 0], [[0, 1, 2], [0, 1, 2], [], [0, 1, 2]]⟩, [false, false, true, false])
theorem fullC : fullS textC = some treeC := by kernel_rfl
theorem machC_eq : machS 8 treeC = some machC := by kernel_rfl
theorem strC : strIdx (fun (x : Int) => d1R 2 x) true textC (textC.size + 1) 0 = -1 := by kernel_rfl
theorem goC : goS machC.2 machC.1 8 0 = some 5 ∧ goS machC.2 machC.1 8 1 = some 2 ∧ goS machC.2 machC.1 5 0 = some 5 ∧ goS machC.2 machC.1 5 1 = some 2 ∧ goS machC.2 machC.1 2 0 = some 5 ∧ goS machC.2 machC.1 2 1 = some 2 := by
 refine ⟨?_, ?_, ?_, ?_, ?_, ?_⟩ <;> kernel_rfl
theorem startC : startR machC.1 = 8 := by kernel_rfl
theorem lastC : lastL machC.2 0 0 = 4 := by kernel_rfl
def go2 (_ : Bool) (a : Nat) : Bool := decide (a = 0)
def mk2 (b : Bool) : Int := if b = true then 1 else 0
theorem mkC : mkR 4 8 = 0 ∧ mkR 4 5 = 1 ∧ mkR 4 2 = 0 := by
 refine ⟨?_, ?_, ?_⟩ <;> kernel_rfl
theorem goR_of {good : List Bool} {p : RegularPlaces} {st a r : Int} (h : goS good p st a = some r) : goDom good p st a ∧ goR good p st a = r := ⟨by unfold goDom; rw [h]; rfl, by unfold goR; rw [h]; rfl⟩
theorem stepC {st : Int} {a : Nat} (hs : st ∈ [(8 : Int), 5, 2]) (ha : a < 2) : goDom machC.2 machC.1 st (a : Int) ∧ goR machC.2 machC.1 st (a : Int) = if a = 0 then 5 else 2 := by
 obtain ⟨g1, g2, g3, g4, g5, g6⟩ := goC
 have h2 : a = 0 ∨ a = 1 := by omega
 simp only [List.mem_cons, List.not_mem_nil, or_false] at hs
 rcases h2 with rfl | rfl <;> rcases hs with rfl | rfl | rfl
 ·exact goR_of g1
 ·exact goR_of g3
 ·exact goR_of g5
 ·exact goR_of g2
 ·exact goR_of g4
 ·exact goR_of g6
theorem langC : ∀ (w : List Nat) (st : Int) (b : Bool), (∀ a ∈ w, a < 2) → ((st = 8 ∧ b = false) ∨ (st = 5 ∧ b = true) ∨ (st = 2 ∧ b = false)) → mkR 4 (w.foldl (fun st (a : Nat) => goR machC.2 machC.1 st (a : Int)) st) = mk2 (w.foldl go2 b)
 | [], st, b, _, h => by
  obtain ⟨h1, h2, h3⟩ := mkC
  rcases h with ⟨rfl, rfl⟩ | ⟨rfl, rfl⟩ | ⟨rfl, rfl⟩
  ·exact h1
  ·exact h2
  ·exact h3
 | a :: w, st, b, hw, h => by
  have ha : a < 2 := hw a List.mem_cons_self
  have hs : st ∈ [(8 : Int), 5, 2] := by
   simp only [List.mem_cons, List.not_mem_nil, or_false]
   rcases h with ⟨h, _⟩ | ⟨h, _⟩ | ⟨h, _⟩ <;> simp [h]
  rw [List.foldl_cons, List.foldl_cons]
  refine langC w _ _ (fun x hx => hw x (List.mem_cons_of_mem _ hx)) ?_
  rw [(stepC hs ha).2]
  unfold go2
  by_cases e : a = 0
  ·exact .inr (.inl ⟨if_pos e, decide_eq_true e⟩)
  ·exact .inr (.inr ⟨if_neg e, decide_eq_false e⟩)
theorem canonC : canon 2 (rLang machC) = explD go2 mk2 2 false := by
 have h := canon_of (K := Bool) (go := go2) (mark := mk2) (L := 2) (k0 := false) (P := fun _ => True) trivial (fun _ _ _ _ => trivial) (fun x y _ _ hxy => by
  have := congrFun hxy []
  unfold rs langK at this
  simp only [List.not_mem_nil, false_implies, implies_true, if_true, List.foldl_nil] at this
  revert this
  cases x <;> cases y <;> simp [mk2])
 rw [h]
 refine canon_congr fun w hw => ?_
 show mkR (lastL machC.2 0 0) (w.foldl _ (startR machC.1)) = _
 rw [lastC, startC]
 exact langC w 8 false hw (.inl ⟨rfl, rfl⟩)
theorem lenC : (canon 2 (rLang machC)).fNext.length = 2 := by
 rw [canonC]
 obtain ⟨l, h1, h2, h3, h4, h5, h6⟩ := explD_facts (go := go2) (L := 2) (k0 := false) (m := [false, true]) (by simp) (fun k a _ _ => by cases go2 k a <;> simp)
 have hl : (explD go2 mk2 2 false).fNext.length = l.length := by
  show ((explL go2 2 false).map _).length = _
  rw [List.length_map, h1]
 rw [hl]
 have h4 : l.length ≤ 2 := h4
 match l, h5, h6, h4 with
 | [x], h5, h6, _ =>
  simp only [List.getElem?_cons_zero, Option.some.injEq] at h5
  subst h5
  have := h6 false (by simp) 0 (by decide)
  simp [go2] at this
 | [x, y], _, _, _ => rfl
theorem detC_ct (letters : Int) (text : ByteArray) (hp : letters = 2 ∧ text = textC) : Ct 27 [.sv (.one (I letters)), .sv (.one (.v (.string text)))] [] (fun (_ : Unit) => True) (fun _ => .tup [.agg [I (canon 2 (rLang machC)).fLetters, I (canon 2 (rLang machC)).fStart, LS (lsT intT) (canon 2 (rLang machC)).fNext, LS intT (canon 2 (rLang machC)).fMark], .one (I 0)]) := by
 obtain ⟨rfl, rfl⟩ := hp
 refine rDet_ok 8 2 textC treeC machC [8, 5, 2] fullC ⟨by decide, by decide⟩ (by rw [strC]; decide) machC_eq (by decide) (by decide) (by rw [startC]; decide) (fun st a hs ha => ?_) (by decide)
 obtain ⟨k1, k2⟩ := stepC hs ha
 refine ⟨k1, ?_⟩
 rw [k2]
 split <;> decide
def closed_vc (Q : Bool → Prop) : Prop :=
 ((2 : Int) = 2 ∧ (ByteArray.mk #[40, 97, 43, 98, 41, 42, 97]) = textC) ∧
 Q ((((canon 2 (rLang machC), (0 : Int))).2 == 0) && ((((canon 2 (rLang machC), (0 : Int))).1.fNext.length : Int) == 2))
theorem closed_walk (Q : Bool → Prop) (h : closed_vc  Q) : Ct 26 [] [] Q (fun (r : Bool) => .sv (.one (B r))) := by
 have ht := tab_ok
 refine Ct.body Try.func26 rfl rfl rfl rfl (fun c hn => ?_)
 unfold closed_vc at h
 refine En.seq ?_
 refine En.region ?_
 refine WL.run ht hn 1 ⟨[], []⟩ (by kernel_rfl) ?_
 refine WL.nil ?_
 refine En.seq ?_
 refine En.region ?_
 have hp := h.1
 replace h := h.2
 refine WL.mt0 (K := []) (p := none) hn (by rfl) (mt_call (detC_ct 2 (ByteArray.mk #[40, 97, 43, 98, 41, 42, 97]) hp) en27 (caps := []) [] rfl (by rfl) (by kernel_rfl) (by kernel_rfl) (by rfl) (by rfl) (by rfl)) (by rfl) (by rfl) (by rfl) ?_
 refine WL.run ht hn 6 ⟨[sl 1 (.ptr 0 0), sl 2 (I ((canon 2 (rLang machC), (0 : Int))).2)], [.box (ApiDet.cl ((canon 2 (rLang machC), (0 : Int))).1) 73 false]⟩ (by kernel_rfl) ?_
 refine WL.nil ?_
 refine En.seq ?_
 refine En.region ?_
 refine WL.run ht hn 3 ⟨[sl 1 (.ptr 0 0), sl 9 (B (((canon 2 (rLang machC), (0 : Int))).2 == 0))], [.box (ApiDet.cl ((canon 2 (rLang machC), (0 : Int))).1) 73 false]⟩ (by kernel_rfl) ?_
 refine WL.thru ⟨[sl 0 (B ((((canon 2 (rLang machC), (0 : Int))).2 == 0) && ((((canon 2 (rLang machC), (0 : Int))).1.fNext.length : Int) == 2)))], [.gone]⟩ ?_ ?_
 refine splitB (((canon 2 (rLang machC), (0 : Int))).2 == 0) (fun hb0 => ?_) (fun hb0 => ?_)
 refine WL.setB 9 hb0 (by kernel_rfl) ?_
 refine WL.run ht hn 6 ⟨[sl 0 (B ((((canon 2 (rLang machC), (0 : Int))).1.fNext.length : Int) == 2))], [.gone]⟩ (by kernel_rfl) ?_
 exact WL.nil (sub_ok (by simp only [hb0]; kernel_rfl))
 refine WL.setB 9 hb0 (by kernel_rfl) ?_
 refine WL.run ht hn 6 ⟨[sl 0 (B false)], [.gone]⟩ (by kernel_rfl) ?_
 exact WL.nil (sub_ok (by simp only [hb0]; kernel_rfl))
 refine En.ret ?_
 exact En.back ht ((((canon 2 (rLang machC), (0 : Int))).2 == 0) && ((((canon 2 (rLang machC), (0 : Int))).1.fNext.length : Int) == 2)) h (by kernel_rfl) rfl
theorem en26 : ∀ args w, (callFunc 26 args).run Try.prog w = .ok (.enter 26 args) w := enters_of Try.func26 (by kernel_rfl) rfl
theorem closed_ct  : Ct 26 [] [] (fun (_ : Unit) => True) (fun _ => .sv (.one (B (true)))) := by
 refine (closed_walk  (fun res_ => res_ = (true)) ?_).fun
 unfold closed_vc
 refine ⟨⟨rfl, rfl⟩, ?_⟩
 rw [lenC]
 rfl
end Go.Proofs.Ytapnmjeadbhffaa


namespace Go.Proofs.Ytapnmjeadbhffaa
open Go.RowKit Go.MapKept
set_option linter.unusedSimpArgs false
set_option linter.unusedVariables false
set_option maxRecDepth 100000
def monPow_vc (d : ApiDet) (u : (List Int)) (Q : Bool → Prop) : Prop :=
 d.fNext.length ≤ 9223372036854775807 →
 d.fMark.length ≤ 9223372036854775807 →
 u.length ≤ 9223372036854775807 →
 (IfP (!(true)) (Q false) (∀ r : ((List Int) × Int × Bool × Int), (CountsQ d) r →
 (IfP (r.2.2.2 != 0) (Q true) (IfP r.2.2.1 (∃ (Inv : Int → (List Int) → Prop) (mu : Int → (List Int) → Nat), Inv 0 ([] : (List Int)) ∧
 ∀ (x11 : Int) (l1 : (List Int)) , Inv x11 l1 → (IfP (decide (x11 < 5)) (capOk l1.length (r.1 : (List Int)).length 8 ∧
 (Inv (wr (x11 + 1)) (l1 ++ r.1) ∧ mu (wr (x11 + 1)) (l1 ++ r.1) < mu x11 l1)) (capOk ([] : (List Int)).length (l1 : (List Int)).length 8 ∧
 capOk (([] : (List Int)) ++ l1).length (r.1 : (List Int)).length 8 ∧
 IfP (decide ((((([] : (List Int)) ++ l1) ++ r.1).length : Int) > 60)) (Q true) (∀ r_2 : ((List Int) × (List Int) × Bool × Int), (AlikeQ d l1 ((([] : (List Int)) ++ l1) ++ r.1)) r_2 →
 (Q (((decide (r.2.1 > 1)) && (r_2.2.2.2 == 0)) && (!r_2.2.2.1))))))) (IfP (decide ((wr ((u.length : Int) * 6)) > 60)) (Q true) (∃ (Inv_2 : Int → (List Int) → Prop) (mu_2 : Int → (List Int) → Nat), Inv_2 0 ([] : (List Int)) ∧
 ∀ (x18 : Int) (l1_2 : (List Int)) , Inv_2 x18 l1_2 → (IfP (decide (x18 < 5)) (capOk l1_2.length (u : (List Int)).length 8 ∧
 (Inv_2 (wr (x18 + 1)) (l1_2 ++ u) ∧ mu_2 (wr (x18 + 1)) (l1_2 ++ u) < mu_2 x18 l1_2)) (capOk ([] : (List Int)).length (l1_2 : (List Int)).length 8 ∧
 capOk (([] : (List Int)) ++ l1_2).length (u : (List Int)).length 8 ∧
 ∀ r_3 : ((List Int) × (List Int) × Bool × Int), (AlikeQ d l1_2 ((([] : (List Int)) ++ l1_2) ++ u)) r_3 →
 (Q ((r_3.2.2.2 != 0) || r_3.2.2.1))))))))))
set_option maxHeartbeats 2000000 in
theorem monPow_walk (d : ApiDet) (u : (List Int)) (Q : Bool → Prop) (h : monPow_vc d u Q) : Ct 12 [.sv (.agg [I d.fLetters, I d.fStart, LS (lsT intT) d.fNext, LS intT d.fMark]), .sv (.one (LS intT u))] [] Q (fun (r : Bool) => .sv (.one (B r))) := by
 have ht := tab_ok
 refine Ct.body Try.func12 rfl rfl rfl rfl (fun c hn => ?_)
 unfold monPow_vc at h
 refine En.lenA 0 2 (by rfl) (by rfl) (fun hl => ?_)
 replace h := h hl
 clear hl
 refine En.lenA 0 3 (by rfl) (by rfl) (fun hl => ?_)
 replace h := h hl
 clear hl
 refine En.lenL 1 (by rfl) (fun hl => ?_)
 replace h := h hl
 clear hl
 refine En.seq ?_
 refine En.region ?_
 refine WL.run ht hn 2 ⟨[sl 1 (LS intT u), sl 2 (.ptr 0 0)], [.box (ApiDet.cl d) 73 false]⟩ (by kernel_rfl) ?_
 refine WL.nil ?_
 refine En.seq ?_
 refine En.region ?_
 refine WL.mt0 (K := []) (p := none) hn (by rfl) (mt_call (closed_ct ) en26 (caps := []) [] rfl (by rfl) (by kernel_rfl) (by kernel_rfl) (by rfl) (by rfl) (by rfl)) (by rfl) (by rfl) (by rfl) ?_
 refine WL.run ht hn 1 ⟨[sl 1 (LS intT u), sl 2 (.ptr 0 0), sl 5 (B (true))], [.box (ApiDet.cl d) 73 false]⟩ (by kernel_rfl) ?_
 refine WL.nil ?_
 refine En.seq ?_
 refine En.seq ?_
 refine En.region ?_
 refine WL.run ht hn 2 ⟨[sl 1 (LS intT u), sl 2 (.ptr 0 0), sl 26 (B (!(true)))], [.box (ApiDet.cl d) 73 false]⟩ (by kernel_rfl) ?_
 refine WL.nil ?_
 refine En.cond (b := (!(true))) (by kernel_rfl) (fun hb => ?_) (fun hb => ?_)
 replace h := h.1 hb
 refine En.seq ?_
 refine En.region ?_
 refine WL.run ht hn 1 ⟨[sl 4 (B false)], [.gone]⟩ (by kernel_rfl) ?_
 refine WL.nil ?_
 refine En.ret ?_
 exact En.back ht false h (by kernel_rfl) rfl
 replace h := h.2 hb
 refine En.skip ?_
 refine En.seq ?_
 refine En.region ?_
 refine WL.run ht hn 1 ⟨[sl 1 (LS intT u), sl 2 (.ptr 0 0), (28, .sv (.agg (ApiDet.cl d)))], [.box (ApiDet.cl d) 73 false]⟩ (by kernel_rfl) ?_
 refine WL.mtQ (Q := CountsQ d) (x := fun (r : ((List Int) × Int × Bool × Int)) => .tup [.one (LS intT r.1), .one (I r.2.1), .one (B r.2.2.1), .one (I r.2.2.2)]) (p := fun _ => none) hn (by rfl) (mtq_call (countsM_ct d) en33 (caps := []) [] rfl (by rfl) (by kernel_rfl) (by kernel_rfl) (by rfl) (fun _ => rfl) (by rfl)) (fun r hr_2 => ⟨by rfl, _, by rfl, ?_⟩)
 replace h := h r hr_2
 refine WL.run ht hn 9 ⟨[sl 1 (LS intT u), sl 2 (.ptr 0 0), sl 6 (LS intT r.1), sl 7 (I r.2.1), sl 8 (B r.2.2.1), sl 9 (I r.2.2.2)], [.box (ApiDet.cl d) 73 false]⟩ (by kernel_rfl) ?_
 refine WL.nil ?_
 refine En.seq ?_
 refine En.seq ?_
 refine En.region ?_
 refine WL.run ht hn 2 ⟨[sl 1 (LS intT u), sl 2 (.ptr 0 0), sl 6 (LS intT r.1), sl 7 (I r.2.1), sl 8 (B r.2.2.1), sl 35 (B (r.2.2.2 != 0))], [.box (ApiDet.cl d) 73 false]⟩ (by kernel_rfl) ?_
 refine WL.nil ?_
 refine En.cond (b := (r.2.2.2 != 0)) (by kernel_rfl) (fun hb => ?_) (fun hb => ?_)
 replace h := h.1 hb
 refine En.seq ?_
 refine En.region ?_
 refine WL.run ht hn 1 ⟨[sl 4 (B true)], [.gone]⟩ (by kernel_rfl) ?_
 refine WL.nil ?_
 refine En.ret ?_
 exact En.back ht true h (by kernel_rfl) rfl
 replace h := h.2 hb
 refine En.skip ?_
 refine En.seq ?_
 refine En.seq ?_
 refine En.region ?_
 refine WL.run ht hn 1 ⟨[sl 1 (LS intT u), sl 2 (.ptr 0 0), sl 6 (LS intT r.1), sl 7 (I r.2.1), sl 36 (B r.2.2.1)], [.box (ApiDet.cl d) 73 false]⟩ (by kernel_rfl) ?_
 refine WL.nil ?_
 refine En.cond (b := r.2.2.1) (by kernel_rfl) (fun hb => ?_) (fun hb => ?_)
 replace h := h.1 hb
 refine En.seq ?_
 refine En.region ?_
 refine WL.run ht hn 1 ⟨[sl 2 (.ptr 0 0), sl 6 (LS intT r.1), sl 7 (I r.2.1), sl 10 (.v (.slice none 0 0))], [.box (ApiDet.cl d) 73 false]⟩ (by kernel_rfl) ?_
 refine WL.nil ?_
 refine En.seq ?_
 refine En.seq ?_
 refine En.region ?_
 refine WL.run ht hn 1 ⟨[sl 2 (.ptr 0 0), sl 6 (LS intT r.1), sl 7 (I r.2.1), sl 10 (.v (.slice none 0 0)), sl 11 (I 0)], [.box (ApiDet.cl d) 73 false]⟩ (by kernel_rfl) ?_
 refine WL.nil ?_
 refine En.block ?_
 refine En.rowNil 10 1 3 intT (by rfl) (by rfl) ?_
 obtain ⟨Inv, mu, h0, hI⟩ := h
 refine En.loop (σ := Int × (List Int)) (fun zz => Inv zz.1 zz.2) (fun zz => mu zz.1 zz.2) (fun zz => ⟨[sl 2 (.ptr 0 0), sl 6 (LS intT r.1), sl 7 (I r.2.1), sl 10 (.own 1), sl 11 (I zz.1)], [.box (ApiDet.cl d) 73 false, rowI 3 intT zz.2]⟩) (0, ([] : (List Int))) h0 (sub_ok (by kernel_rfl)) ?_
 rintro ⟨x11, l1⟩ h
 replace h := hI _ _ h
 show En c ⟨[sl 2 (.ptr 0 0), sl 6 (LS intT r.1), sl 7 (I r.2.1), sl 10 (.own 1), sl 11 (I x11)], [.box (ApiDet.cl d) 73 false, rowI 3 intT l1]⟩ _
 refine En.seq ?_
 refine En.seq ?_
 refine En.region ?_
 refine WL.run ht hn 2 ⟨[sl 2 (.ptr 0 0), sl 6 (LS intT r.1), sl 7 (I r.2.1), sl 10 (.own 1), sl 11 (I x11), sl 38 (B (decide (x11 < 5)))], [.box (ApiDet.cl d) 73 false, rowI 3 intT l1]⟩ (by kernel_rfl) ?_
 refine WL.nil ?_
 refine En.cond (b := (decide (x11 < 5))) (by kernel_rfl) (fun hb => ?_) (fun hb => ?_)
 replace h := h.1 hb
 refine En.skip ?_
 refine En.seq ?_
 refine En.block ?_
 refine En.region ?_
 refine WL.run ht hn 2 ⟨[sl 2 (.ptr 0 0), sl 6 (LS intT r.1), sl 7 (I r.2.1), sl 11 (I x11), sl 41 (.own 1), sl 42 (LS intT r.1)], [.box (ApiDet.cl d) 73 false, rowI 3 intT l1]⟩ (by kernel_rfl) ?_
 have hp := h.1
 replace h := h.2
 refine WL.mt (S2 := ⟨[sl 2 (.ptr 0 0), sl 6 (LS intT r.1), sl 7 (I r.2.1), sl 11 (I x11), sl 42 (LS intT r.1)], [.box (ApiDet.cl d) 73 false, rowI 3 intT l1]⟩) (K := [1]) (p := some (1, rowI 3 intT (l1 ++ r.1))) hn (by rfl) (mt_append (T := intT) (l := l1) (es := r.1) ht rfl (by rfl) (by rfl) (by rfl) (by rfl) (by decide) (by rfl) (by rfl) (srcLS (T := intT) (es := r.1) (fun _ h => by cases h) (by decide) (by rfl)) (by exact hp) (by exact hp.le (by decide))) (by kernel_rfl) (by rfl) (by rfl) (by rfl) ?_
 refine WL.run ht hn 1 ⟨[sl 2 (.ptr 0 0), sl 6 (LS intT r.1), sl 7 (I r.2.1), sl 10 (.own 1), sl 11 (I x11)], [.box (ApiDet.cl d) 73 false, rowI 3 intT (l1 ++ r.1)]⟩ (by kernel_rfl) ?_
 refine WL.nil ?_
 refine En.region ?_
 refine WL.run ht hn 3 ⟨[sl 2 (.ptr 0 0), sl 6 (LS intT r.1), sl 7 (I r.2.1), sl 10 (.own 1), sl 11 (I (wr (x11 + 1)))], [.box (ApiDet.cl d) 73 false, rowI 3 intT (l1 ++ r.1)]⟩ (by kernel_rfl) ?_
 refine WL.nil ?_
 exact En.at (I := fun zz => Inv zz.1 zz.2 ∧ mu zz.1 zz.2 < mu x11 l1) (T := fun zz => ⟨[sl 2 (.ptr 0 0), sl 6 (LS intT r.1), sl 7 (I r.2.1), sl 10 (.own 1), sl 11 (I zz.1)], [.box (ApiDet.cl d) 73 false, rowI 3 intT zz.2]⟩) ((wr (x11 + 1)), (l1 ++ r.1)) h (by kernel_rfl)
 replace h := h.2 hb
 refine En.exit rfl ?_
 refine En.seq ?_
 refine En.region ?_
 refine WL.mt0 (K := []) (p := some (2, rowI 3 intT ([] : (List Int)))) hn (by rfl) (mt_empty intT 2 ht rfl (by rfl) (by rfl) (by rfl)) (by rfl) (by rfl) (by rfl) ?_
 refine WL.run ht hn 1 ⟨[sl 2 (.ptr 0 0), sl 6 (LS intT r.1), sl 7 (I r.2.1), sl 10 (.own 1), sl 44 (.own 2), sl 45 (.own 1)], [.box (ApiDet.cl d) 73 false, rowI 3 intT l1, rowI 3 intT ([] : (List Int))]⟩ (by kernel_rfl) ?_
 refine WL.seal (T := intT) (l := l1) (e := 3) 1 rfl ?_
 refine WL.run ht hn 0 ⟨[sl 2 (.ptr 0 0), sl 6 (LS intT r.1), sl 7 (I r.2.1), sl 10 (LS intT l1), sl 44 (.own 2), sl 45 (LS intT l1)], [.box (ApiDet.cl d) 73 false, .gone, rowI 3 intT ([] : (List Int))]⟩ (by kernel_rfl) ?_
 have hp := h.1
 replace h := h.2
 refine WL.mt (S2 := ⟨[sl 2 (.ptr 0 0), sl 6 (LS intT r.1), sl 7 (I r.2.1), sl 10 (LS intT l1), sl 45 (LS intT l1)], [.box (ApiDet.cl d) 73 false, .gone, rowI 3 intT ([] : (List Int))]⟩) (K := [2]) (p := some (2, rowI 3 intT (([] : (List Int)) ++ l1))) hn (by rfl) (mt_append (T := intT) (l := ([] : (List Int))) (es := l1) ht rfl (by rfl) (by rfl) (by rfl) (by rfl) (by decide) (by rfl) (by rfl) (srcLS (T := intT) (es := l1) (fun _ h => by cases h) (by decide) (by rfl)) (by exact hp) (by exact hp.le (by decide))) (by kernel_rfl) (by rfl) (by rfl) (by rfl) ?_
 refine WL.run ht hn 1 ⟨[sl 2 (.ptr 0 0), sl 6 (LS intT r.1), sl 7 (I r.2.1), sl 10 (LS intT l1), sl 12 (.own 2)], [.box (ApiDet.cl d) 73 false, .gone, rowI 3 intT (([] : (List Int)) ++ l1)]⟩ (by kernel_rfl) ?_
 refine WL.nil ?_
 refine En.seq ?_
 refine En.region ?_
 refine WL.run ht hn 2 ⟨[sl 2 (.ptr 0 0), sl 7 (I r.2.1), sl 10 (LS intT l1), sl 47 (.own 2), sl 48 (LS intT r.1)], [.box (ApiDet.cl d) 73 false, .gone, rowI 3 intT (([] : (List Int)) ++ l1)]⟩ (by kernel_rfl) ?_
 have hp := h.1
 replace h := h.2
 refine WL.mt (S2 := ⟨[sl 2 (.ptr 0 0), sl 7 (I r.2.1), sl 10 (LS intT l1), sl 48 (LS intT r.1)], [.box (ApiDet.cl d) 73 false, .gone, rowI 3 intT (([] : (List Int)) ++ l1)]⟩) (K := [2]) (p := some (2, rowI 3 intT ((([] : (List Int)) ++ l1) ++ r.1))) hn (by rfl) (mt_append (T := intT) (l := (([] : (List Int)) ++ l1)) (es := r.1) ht rfl (by rfl) (by rfl) (by rfl) (by rfl) (by decide) (by rfl) (by rfl) (srcLS (T := intT) (es := r.1) (fun _ h => by cases h) (by decide) (by rfl)) (by exact hp) (by exact hp.le (by decide))) (by kernel_rfl) (by rfl) (by rfl) (by rfl) ?_
 refine WL.run ht hn 1 ⟨[sl 2 (.ptr 0 0), sl 7 (I r.2.1), sl 10 (LS intT l1), sl 12 (.own 2)], [.box (ApiDet.cl d) 73 false, .gone, rowI 3 intT ((([] : (List Int)) ++ l1) ++ r.1)]⟩ (by kernel_rfl) ?_
 refine WL.nil ?_
 refine En.seq ?_
 refine En.seq ?_
 refine En.region ?_
 refine WL.run ht hn 3 ⟨[sl 2 (.ptr 0 0), sl 7 (I r.2.1), sl 10 (LS intT l1), sl 12 (.own 2), sl 52 (B (decide ((((([] : (List Int)) ++ l1) ++ r.1).length : Int) > 60)))], [.box (ApiDet.cl d) 73 false, .gone, rowI 3 intT ((([] : (List Int)) ++ l1) ++ r.1)]⟩ (by kernel_rfl) ?_
 refine WL.nil ?_
 refine En.cond (b := (decide ((((([] : (List Int)) ++ l1) ++ r.1).length : Int) > 60))) (by kernel_rfl) (fun hb => ?_) (fun hb => ?_)
 replace h := h.1 hb
 refine En.seq ?_
 refine En.region ?_
 refine WL.run ht hn 1 ⟨[sl 4 (B true)], [.gone, .gone, .gone]⟩ (by kernel_rfl) ?_
 refine WL.nil ?_
 refine En.ret ?_
 exact En.back ht true h (by kernel_rfl) rfl
 replace h := h.2 hb
 refine En.skip ?_
 refine En.seq ?_
 refine En.region ?_
 refine WL.run ht hn 3 ⟨[sl 7 (I r.2.1), (54, .sv (.agg (ApiDet.cl d))), sl 55 (LS intT l1), sl 56 (.own 2)], [.gone, .gone, rowI 3 intT ((([] : (List Int)) ++ l1) ++ r.1)]⟩ (by kernel_rfl) ?_
 refine WL.seal (T := intT) (l := ((([] : (List Int)) ++ l1) ++ r.1)) (e := 3) 2 rfl ?_
 refine WL.run ht hn 0 ⟨[sl 7 (I r.2.1), (54, .sv (.agg (ApiDet.cl d))), sl 55 (LS intT l1), sl 56 (LS intT ((([] : (List Int)) ++ l1) ++ r.1))], [.gone, .gone, .gone]⟩ (by kernel_rfl) ?_
 refine WL.mtQ (Q := AlikeQ d l1 ((([] : (List Int)) ++ l1) ++ r.1)) (x := fun (r : ((List Int) × (List Int) × Bool × Int)) => .tup [.one (LS intT r.1), .one (LS intT r.2.1), .one (B r.2.2.1), .one (I r.2.2.2)]) (p := fun _ => none) hn (by rfl) (mtq_call (alikeM_ct d l1 ((([] : (List Int)) ++ l1) ++ r.1)) en34 (caps := []) [] rfl (by rfl) (by kernel_rfl) (by kernel_rfl) (by rfl) (fun _ => rfl) (by rfl)) (fun r_2 hr_2_2 => ⟨by rfl, _, by rfl, ?_⟩)
 replace h := h r_2 hr_2_2
 refine WL.run ht hn 9 ⟨[sl 7 (I r.2.1), sl 15 (B r_2.2.2.1), sl 16 (I r_2.2.2.2)], [.gone, .gone, .gone]⟩ (by kernel_rfl) ?_
 refine WL.nil ?_
 refine En.seq ?_
 refine En.region ?_
 refine WL.run ht hn 3 ⟨[sl 15 (B r_2.2.2.1), sl 16 (I r_2.2.2.2), sl 64 (B (decide (r.2.1 > 1)))], [.gone, .gone, .gone]⟩ (by kernel_rfl) ?_
 refine WL.thru ⟨[sl 4 (B (((decide (r.2.1 > 1)) && (r_2.2.2.2 == 0)) && (!r_2.2.2.1)))], [.gone, .gone, .gone]⟩ ?_ ?_
 refine splitB (decide (r.2.1 > 1)) (fun hb0 => ?_) (fun hb0 => ?_)
 refine WL.setB 64 hb0 (by kernel_rfl) ?_
 refine WL.run ht hn 4 ⟨[sl 15 (B r_2.2.2.1), sl 68 (B (r_2.2.2.2 == 0))], [.gone, .gone, .gone]⟩ (by kernel_rfl) ?_
 refine splitB (r_2.2.2.2 == 0) (fun hb1 => ?_) (fun hb1 => ?_)
 refine WL.setB 68 hb1 (by kernel_rfl) ?_
 refine WL.run ht hn 4 ⟨[sl 4 (B (!r_2.2.2.1))], [.gone, .gone, .gone]⟩ (by kernel_rfl) ?_
 exact WL.nil (sub_ok (by simp only [hb0, hb1]; kernel_rfl))
 refine WL.setB 68 hb1 (by kernel_rfl) ?_
 refine WL.run ht hn 4 ⟨[sl 4 (B false)], [.gone, .gone, .gone]⟩ (by kernel_rfl) ?_
 exact WL.nil (sub_ok (by simp only [hb0, hb1]; kernel_rfl))
 refine WL.setB 64 hb0 (by kernel_rfl) ?_
 refine WL.run ht hn 8 ⟨[sl 4 (B false)], [.gone, .gone, .gone]⟩ (by kernel_rfl) ?_
 exact WL.nil (sub_ok (by simp only [hb0]; kernel_rfl))
 refine En.ret ?_
 exact En.back ht (((decide (r.2.1 > 1)) && (r_2.2.2.2 == 0)) && (!r_2.2.2.1)) h (by kernel_rfl) rfl
 replace h := h.2 hb
 refine En.skip ?_
 refine En.seq ?_
 refine En.seq ?_
 refine En.region ?_
 refine WL.run ht hn 4 ⟨[sl 1 (LS intT u), sl 2 (.ptr 0 0), sl 75 (B (decide ((wr ((u.length : Int) * 6)) > 60)))], [.box (ApiDet.cl d) 73 false]⟩ (by kernel_rfl) ?_
 refine WL.nil ?_
 refine En.cond (b := (decide ((wr ((u.length : Int) * 6)) > 60))) (by kernel_rfl) (fun hb => ?_) (fun hb => ?_)
 replace h := h.1 hb
 refine En.seq ?_
 refine En.region ?_
 refine WL.run ht hn 1 ⟨[sl 4 (B true)], [.gone]⟩ (by kernel_rfl) ?_
 refine WL.nil ?_
 refine En.ret ?_
 exact En.back ht true h (by kernel_rfl) rfl
 replace h := h.2 hb
 refine En.skip ?_
 refine En.seq ?_
 refine En.region ?_
 refine WL.run ht hn 1 ⟨[sl 1 (LS intT u), sl 2 (.ptr 0 0), sl 17 (.v (.slice none 0 0))], [.box (ApiDet.cl d) 73 false]⟩ (by kernel_rfl) ?_
 refine WL.nil ?_
 refine En.seq ?_
 refine En.seq ?_
 refine En.region ?_
 refine WL.run ht hn 1 ⟨[sl 1 (LS intT u), sl 2 (.ptr 0 0), sl 17 (.v (.slice none 0 0)), sl 18 (I 0)], [.box (ApiDet.cl d) 73 false]⟩ (by kernel_rfl) ?_
 refine WL.nil ?_
 refine En.block ?_
 refine En.rowNil 17 1 3 intT (by rfl) (by rfl) ?_
 obtain ⟨Inv_2, mu_2, h0_2, hI_2⟩ := h
 refine En.loop (σ := Int × (List Int)) (fun zz => Inv_2 zz.1 zz.2) (fun zz => mu_2 zz.1 zz.2) (fun zz => ⟨[sl 1 (LS intT u), sl 2 (.ptr 0 0), sl 17 (.own 1), sl 18 (I zz.1)], [.box (ApiDet.cl d) 73 false, rowI 3 intT zz.2]⟩) (0, ([] : (List Int))) h0_2 (sub_ok (by kernel_rfl)) ?_
 rintro ⟨x18, l1_2⟩ h
 replace h := hI_2 _ _ h
 show En c ⟨[sl 1 (LS intT u), sl 2 (.ptr 0 0), sl 17 (.own 1), sl 18 (I x18)], [.box (ApiDet.cl d) 73 false, rowI 3 intT l1_2]⟩ _
 refine En.seq ?_
 refine En.seq ?_
 refine En.region ?_
 refine WL.run ht hn 2 ⟨[sl 1 (LS intT u), sl 2 (.ptr 0 0), sl 17 (.own 1), sl 18 (I x18), sl 77 (B (decide (x18 < 5)))], [.box (ApiDet.cl d) 73 false, rowI 3 intT l1_2]⟩ (by kernel_rfl) ?_
 refine WL.nil ?_
 refine En.cond (b := (decide (x18 < 5))) (by kernel_rfl) (fun hb => ?_) (fun hb => ?_)
 replace h := h.1 hb
 refine En.skip ?_
 refine En.seq ?_
 refine En.block ?_
 refine En.region ?_
 refine WL.run ht hn 2 ⟨[sl 1 (LS intT u), sl 2 (.ptr 0 0), sl 18 (I x18), sl 80 (.own 1), sl 81 (LS intT u)], [.box (ApiDet.cl d) 73 false, rowI 3 intT l1_2]⟩ (by kernel_rfl) ?_
 have hp := h.1
 replace h := h.2
 refine WL.mt (S2 := ⟨[sl 1 (LS intT u), sl 2 (.ptr 0 0), sl 18 (I x18), sl 81 (LS intT u)], [.box (ApiDet.cl d) 73 false, rowI 3 intT l1_2]⟩) (K := [1]) (p := some (1, rowI 3 intT (l1_2 ++ u))) hn (by rfl) (mt_append (T := intT) (l := l1_2) (es := u) ht rfl (by rfl) (by rfl) (by rfl) (by rfl) (by decide) (by rfl) (by rfl) (srcLS (T := intT) (es := u) (fun _ h => by cases h) (by decide) (by rfl)) (by exact hp) (by exact hp.le (by decide))) (by kernel_rfl) (by rfl) (by rfl) (by rfl) ?_
 refine WL.run ht hn 1 ⟨[sl 1 (LS intT u), sl 2 (.ptr 0 0), sl 17 (.own 1), sl 18 (I x18)], [.box (ApiDet.cl d) 73 false, rowI 3 intT (l1_2 ++ u)]⟩ (by kernel_rfl) ?_
 refine WL.nil ?_
 refine En.region ?_
 refine WL.run ht hn 3 ⟨[sl 1 (LS intT u), sl 2 (.ptr 0 0), sl 17 (.own 1), sl 18 (I (wr (x18 + 1)))], [.box (ApiDet.cl d) 73 false, rowI 3 intT (l1_2 ++ u)]⟩ (by kernel_rfl) ?_
 refine WL.nil ?_
 exact En.at (I := fun zz => Inv_2 zz.1 zz.2 ∧ mu_2 zz.1 zz.2 < mu_2 x18 l1_2) (T := fun zz => ⟨[sl 1 (LS intT u), sl 2 (.ptr 0 0), sl 17 (.own 1), sl 18 (I zz.1)], [.box (ApiDet.cl d) 73 false, rowI 3 intT zz.2]⟩) ((wr (x18 + 1)), (l1_2 ++ u)) h (by kernel_rfl)
 replace h := h.2 hb
 refine En.exit rfl ?_
 refine En.seq ?_
 refine En.region ?_
 refine WL.mt0 (K := []) (p := some (2, rowI 3 intT ([] : (List Int)))) hn (by rfl) (mt_empty intT 2 ht rfl (by rfl) (by rfl) (by rfl)) (by rfl) (by rfl) (by rfl) ?_
 refine WL.run ht hn 1 ⟨[sl 1 (LS intT u), sl 2 (.ptr 0 0), sl 17 (.own 1), sl 83 (.own 2), sl 84 (.own 1)], [.box (ApiDet.cl d) 73 false, rowI 3 intT l1_2, rowI 3 intT ([] : (List Int))]⟩ (by kernel_rfl) ?_
 refine WL.seal (T := intT) (l := l1_2) (e := 3) 1 rfl ?_
 refine WL.run ht hn 0 ⟨[sl 1 (LS intT u), sl 2 (.ptr 0 0), sl 17 (LS intT l1_2), sl 83 (.own 2), sl 84 (LS intT l1_2)], [.box (ApiDet.cl d) 73 false, .gone, rowI 3 intT ([] : (List Int))]⟩ (by kernel_rfl) ?_
 have hp := h.1
 replace h := h.2
 refine WL.mt (S2 := ⟨[sl 1 (LS intT u), sl 2 (.ptr 0 0), sl 17 (LS intT l1_2), sl 84 (LS intT l1_2)], [.box (ApiDet.cl d) 73 false, .gone, rowI 3 intT ([] : (List Int))]⟩) (K := [2]) (p := some (2, rowI 3 intT (([] : (List Int)) ++ l1_2))) hn (by rfl) (mt_append (T := intT) (l := ([] : (List Int))) (es := l1_2) ht rfl (by rfl) (by rfl) (by rfl) (by rfl) (by decide) (by rfl) (by rfl) (srcLS (T := intT) (es := l1_2) (fun _ h => by cases h) (by decide) (by rfl)) (by exact hp) (by exact hp.le (by decide))) (by kernel_rfl) (by rfl) (by rfl) (by rfl) ?_
 refine WL.run ht hn 1 ⟨[sl 1 (LS intT u), sl 2 (.ptr 0 0), sl 17 (LS intT l1_2), sl 19 (.own 2)], [.box (ApiDet.cl d) 73 false, .gone, rowI 3 intT (([] : (List Int)) ++ l1_2)]⟩ (by kernel_rfl) ?_
 refine WL.nil ?_
 refine En.seq ?_
 refine En.region ?_
 refine WL.run ht hn 2 ⟨[sl 2 (.ptr 0 0), sl 17 (LS intT l1_2), sl 86 (.own 2), sl 87 (LS intT u)], [.box (ApiDet.cl d) 73 false, .gone, rowI 3 intT (([] : (List Int)) ++ l1_2)]⟩ (by kernel_rfl) ?_
 have hp := h.1
 replace h := h.2
 refine WL.mt (S2 := ⟨[sl 2 (.ptr 0 0), sl 17 (LS intT l1_2), sl 87 (LS intT u)], [.box (ApiDet.cl d) 73 false, .gone, rowI 3 intT (([] : (List Int)) ++ l1_2)]⟩) (K := [2]) (p := some (2, rowI 3 intT ((([] : (List Int)) ++ l1_2) ++ u))) hn (by rfl) (mt_append (T := intT) (l := (([] : (List Int)) ++ l1_2)) (es := u) ht rfl (by rfl) (by rfl) (by rfl) (by rfl) (by decide) (by rfl) (by rfl) (srcLS (T := intT) (es := u) (fun _ h => by cases h) (by decide) (by rfl)) (by exact hp) (by exact hp.le (by decide))) (by kernel_rfl) (by rfl) (by rfl) (by rfl) ?_
 refine WL.run ht hn 1 ⟨[sl 2 (.ptr 0 0), sl 17 (LS intT l1_2), sl 19 (.own 2)], [.box (ApiDet.cl d) 73 false, .gone, rowI 3 intT ((([] : (List Int)) ++ l1_2) ++ u)]⟩ (by kernel_rfl) ?_
 refine WL.nil ?_
 refine En.seq ?_
 refine En.region ?_
 refine WL.run ht hn 3 ⟨[(90, .sv (.agg (ApiDet.cl d))), sl 91 (LS intT l1_2), sl 92 (.own 2)], [.gone, .gone, rowI 3 intT ((([] : (List Int)) ++ l1_2) ++ u)]⟩ (by kernel_rfl) ?_
 refine WL.seal (T := intT) (l := ((([] : (List Int)) ++ l1_2) ++ u)) (e := 3) 2 rfl ?_
 refine WL.run ht hn 0 ⟨[(90, .sv (.agg (ApiDet.cl d))), sl 91 (LS intT l1_2), sl 92 (LS intT ((([] : (List Int)) ++ l1_2) ++ u))], [.gone, .gone, .gone]⟩ (by kernel_rfl) ?_
 refine WL.mtQ (Q := AlikeQ d l1_2 ((([] : (List Int)) ++ l1_2) ++ u)) (x := fun (r : ((List Int) × (List Int) × Bool × Int)) => .tup [.one (LS intT r.1), .one (LS intT r.2.1), .one (B r.2.2.1), .one (I r.2.2.2)]) (p := fun _ => none) hn (by rfl) (mtq_call (alikeM_ct d l1_2 ((([] : (List Int)) ++ l1_2) ++ u)) en34 (caps := []) [] rfl (by rfl) (by kernel_rfl) (by kernel_rfl) (by rfl) (fun _ => rfl) (by rfl)) (fun r_3 hr_3 => ⟨by rfl, _, by rfl, ?_⟩)
 replace h := h r_3 hr_3
 refine WL.run ht hn 9 ⟨[sl 22 (B r_3.2.2.1), sl 23 (I r_3.2.2.2)], [.gone, .gone, .gone]⟩ (by kernel_rfl) ?_
 refine WL.nil ?_
 refine En.seq ?_
 refine En.region ?_
 refine WL.run ht hn 3 ⟨[sl 22 (B r_3.2.2.1), sl 100 (B (r_3.2.2.2 != 0))], [.gone, .gone, .gone]⟩ (by kernel_rfl) ?_
 refine WL.thru ⟨[sl 4 (B ((r_3.2.2.2 != 0) || r_3.2.2.1))], [.gone, .gone, .gone]⟩ ?_ ?_
 refine splitB (r_3.2.2.2 != 0) (fun hb0 => ?_) (fun hb0 => ?_)
 refine WL.setB 100 hb0 (by kernel_rfl) ?_
 refine WL.run ht hn 3 ⟨[sl 4 (B true)], [.gone, .gone, .gone]⟩ (by kernel_rfl) ?_
 exact WL.nil (sub_ok (by simp only [hb0]; kernel_rfl))
 refine WL.setB 100 hb0 (by kernel_rfl) ?_
 refine WL.run ht hn 3 ⟨[sl 4 (B r_3.2.2.1)], [.gone, .gone, .gone]⟩ (by kernel_rfl) ?_
 exact WL.nil (sub_ok (by simp only [hb0]; kernel_rfl))
 refine En.ret ?_
 exact En.back ht ((r_3.2.2.2 != 0) || r_3.2.2.1) h (by kernel_rfl) rfl
theorem mayE_zero {n : Int} {w : List Int} (hn : 1 ≤ n ∧ n ≤ 4) (hl : w.length ≤ 60) (hw : ∀ a ∈ w, 0 ≤ a ∧ a < n) : mayE n w = 0 := by
 unfold mayE
 rw [if_neg (by simp only [Bool.or_eq_true, decide_eq_true_eq]; omega), if_neg (by omega), if_neg]
 rw [List.any_eq_true]
 rintro ⟨a, ha, h⟩
 have := hw a ha
 simp only [Bool.or_eq_true, decide_eq_true_eq] at h
 omega
theorem pw_len (w : List Int) : ∀ k, (pw w k).length = k * w.length
 | 0 => by simp [pw]
 | k + 1 => by rw [pw, List.length_append, pw_len w k, Nat.succ_mul]
theorem pw_six (w : List Int) : (([] : List Int) ++ pw w 5) ++ w = pw w 6 := rfl
theorem monPow_ct (d : ApiDet) (u : (List Int)) (hp : u.length ≤ 1048576)  : Ct 12 [.sv (.agg [I d.fLetters, I d.fStart, LS (lsT intT) d.fNext, LS intT d.fMark]), .sv (.one (LS intT u))] [] (fun (_ : Unit) => True) (fun _ => .sv (.one (B (true)))) := by
 refine (monPow_walk d u (fun res_ => res_ = (true)) ?_).fun
 unfold monPow_vc
 intro _ _ _
 refine ⟨fun h => (by cases h), fun _ => fun r hr => ⟨fun _ => rfl, fun h0 => ⟨fun hc => ?_, fun hc => ⟨fun _ => rfl, fun h6 => ?_⟩⟩⟩⟩
 ·rw [bne_eq_false_iff_eq] at h0
  have hs : (smallR d).2 = 0 := Decidable.byContradiction fun hn => hr.1 hn h0
  obtain ⟨_, hcs⟩ := hr.2 hs
  obtain ⟨hM, hL⟩ := smallR_ok hs
  have hdet := hM.det
  have hlet := hdet.letters
  rcases hcs with ⟨_, c1, c2, c3, c4⟩ | ⟨c1, _⟩
  ·have hlen := pw_len r.1
   refine ⟨fun i l => ∃ k : Nat, i = k ∧ k ≤ 5 ∧ l = pw r.1 k, fun i _ => 5 - i.toNat, ⟨0, rfl, by decide, rfl⟩, ?_⟩
   rintro _ _ ⟨k, rfl, hk, rfl⟩
   have hkl : k * r.1.length ≤ 5 * 4000 := Nat.mul_le_mul hk c3
   refine ⟨fun hb => ?_, fun hb => ?_⟩
   ·have hb := of_decide_eq_true hb
    have hw : wr ((k : Int) + 1) = ((k + 1 : Nat) : Int) := wr_nat (by omega)
    refine ⟨capOk_of (by rw [hlen]; omega), ⟨k + 1, hw, by omega, rfl⟩, ?_⟩
    rw [hw]
    show 5 - (k + 1) < 5 - k
    omega
   ·have hb := of_decide_eq_false hb
    have hk5 : k = 5 := by omega
    subst hk5
    rw [pw_six]
    refine ⟨capOk_of (by simp only [List.length_nil]; rw [hlen]; omega), capOk_of (by rw [List.nil_append, hlen]; omega), fun _ => rfl, fun hl r2 hr2 => ?_⟩
    have hl6 : (pw r.1 6).length ≤ 60 := by have := of_decide_eq_false hl; omega
    have hl5 : (pw r.1 5).length ≤ 60 := by
     rw [hlen] at hl6 ⊢
     omega
    have hv : ∀ k, ∀ a ∈ pw r.1 k, 0 ≤ a ∧ a < d.fLetters := fun k a ha => by
     have := pw_ok c2 k a ha
     rw [← hL]
     exact this
    obtain ⟨d1, d2⟩ := hr2.2 hs (mayE_zero (by rw [← hL]; exact hlet) hl5 (hv 5)) (mayE_zero (by rw [← hL]; exact hlet) hl6 (hv 6))
    obtain ⟨q, hq, hne⟩ := hasC_56 hdet c2 c4
    have hfalse : r2.2.2.1 = false := by
     cases e : r2.2.2.1 with
     | false => rfl
     | true => exact absurd (d2.1 e q hq) hne
    rw [hfalse, d1, decide_eq_true c1]
    rfl
  ·rw [c1] at hc
   cases hc
 ·have h6 := of_decide_eq_false h6
  rw [bne_eq_false_iff_eq] at h0
  have hs : (smallR d).2 = 0 := Decidable.byContradiction fun hn => hr.1 hn h0
  obtain ⟨_, hcs⟩ := hr.2 hs
  obtain ⟨hM, hL⟩ := smallR_ok hs
  have hdet := hM.det
  rw [wr_in (by omega) (by omega)] at h6
  rcases hcs with ⟨c1, _⟩ | ⟨_, hno⟩
  ·rw [c1] at hc
   cases hc
  ·have hlen := pw_len u
   refine ⟨fun i l => ∃ k : Nat, i = k ∧ k ≤ 5 ∧ l = pw u k, fun i _ => 5 - i.toNat, ⟨0, rfl, by decide, rfl⟩, ?_⟩
   rintro _ _ ⟨k, rfl, hk, rfl⟩
   have hkl : k * u.length ≤ 5 * 4000 := Nat.mul_le_mul hk (by omega)
   refine ⟨fun hb => ?_, fun hb => ?_⟩
   ·have hb := of_decide_eq_true hb
    have hw : wr ((k : Int) + 1) = ((k + 1 : Nat) : Int) := wr_nat (by omega)
    refine ⟨capOk_of (by rw [hlen]; omega), ⟨k + 1, hw, by omega, rfl⟩, ?_⟩
    rw [hw]
    show 5 - (k + 1) < 5 - k
    omega
   ·have hb := of_decide_eq_false hb
    have hk5 : k = 5 := by omega
    subst hk5
    rw [pw_six]
    refine ⟨capOk_of (by simp only [List.length_nil]; rw [hlen]; omega), capOk_of (by rw [List.nil_append, hlen]; omega), fun r3 hr3 => ?_⟩
    by_cases hz : r3.2.2.2 = 0
    ·have h5 : mayE d.fLetters (pw u 5) = 0 := Decidable.byContradiction fun hn => hr3.1 (.inr (.inl hn)) hz
     have h6' : mayE d.fLetters (pw u 6) = 0 := Decidable.byContradiction fun hn => hr3.1 (.inr (.inr hn)) hz
     have hwu : wOk (smallR d).1 u := fun a ha => by
      have := (mayE_ok h6').2 a (List.mem_append_right _ ha)
      rw [← hL] at this
      exact this
     have := (hr3.2 hs h5 h6').2.2 fun q hq => noC_56 hdet hM.five hwu (fun q hq => hno u hwu q hq) hq
     rw [this, Bool.or_true]
    ·rw [show (r3.2.2.2 != 0) = true from bne_iff_ne.2 hz, Bool.true_or]
end Go.Proofs.Ytapnmjeadbhffaa

