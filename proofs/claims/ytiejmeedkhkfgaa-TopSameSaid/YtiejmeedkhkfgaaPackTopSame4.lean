/- Lemmas towards the statement: mirrors of functions, and plain laws. No condition. -/
import Derived.Test.YtiejmeedkhkfgaaPackTopSame3


namespace Go.Proofs.Ytiejmeedkhkfgaa
open Go.RowKit Go.MapKept
set_option linter.unusedSimpArgs false
set_option linter.unusedVariables false
set_option maxRecDepth 100000
theorem letsOut_any {c : Cfg} {N Z : Po} (h : LetsOut (OnlyP c N)) : LetsOut (OnlyP c Z) := by
 obtain ⟨a, w, h⟩ := h
 exact h.elim
theorem wp_anyN {c : Cfg} {o : Oper} {a : Act} {w : World} {K N Z : Po} (hh : o.wp Try.prog a w K (OnlyP c N)) : o.wp Try.prog a w K (OnlyP c Z) := by
 unfold Oper.wp at *
 generalize (execOp a.eval o).run Try.prog w = r at *
 cases r with
 | ok n w' =>
  cases n <;> simp only [Oper.upon] at hh ⊢ <;>
   first
    | exact hh
    | exact Calls.mono hh (fun e w'' he => by cases e <;> first | exact he | exact letsOut_any he)
 | halt x w' => cases x <;> simp only [Oper.upon] at hh ⊢ <;> exact hh
section
variable {c : Cfg} {l : List Oper} {N : Po} {S : St} {fuel : Nat} {listed : Array Bool}
def RD (c : Cfg) (l : List Oper) (N : Po) (fuel : Nat) (listed : Array Bool) (S : St) : Prop := ∀ a w, Ok c S a w → wpAny Try.prog .any l.toArray (OnlyP c N) fuel listed a w
theorem RD.nil (hr : Region.ready .any l.toArray listed = []) (h : En c S N) : RD c l N 0 listed S := fun a w hk => ⟨hr, h a w hk⟩
def RDs (c : Cfg) (l : List Oper) (N : Po) (fuel : Nat) (listed : Array Bool) (S : St) : List Nat → Prop
 | [] => True
 | i :: r => (∃ (o : Oper) (S' : St) (L' : Array Bool), l[i]? = some o ∧ WL c l.toArray [o] S (fun a w => Ok c S' a w) ∧ listed.setIfInBounds i true = L' ∧ RD c l N fuel L' S') ∧ RDs c l N fuel listed S r
theorem RDs.get : ∀ {is : List Nat}, RDs c l N fuel listed S is → ∀ i ∈ is, ∃ (o : Oper) (S' : St), l[i]? = some o ∧ WL c l.toArray [o] S (fun a w => Ok c S' a w) ∧ RD c l N fuel (listed.setIfInBounds i true) S'
 | j :: r, h, i, hi => by
  rcases List.mem_cons.1 hi with e | hi
  ·subst e
   obtain ⟨o, S', L', h1, h2, h3, h4⟩ := h.1
   subst h3
   exact ⟨o, S', h1, h2, h4⟩
  ·exact RDs.get h.2 i hi
theorem RD.succ (is : List Nat) (hr : Region.ready .any l.toArray listed = is) (hne : is.isEmpty = false) (h : RDs c l N fuel listed S is) : RD c l N (fuel + 1) listed S := fun a w hk => by
 refine ⟨fun e => ?_, fun i hi => ?_⟩
 ·rw [hr] at e
  subst e
  cases hne
 ·rw [hr] at hi
  obtain ⟨o, S', ho, hw, hd⟩ := RDs.get h i hi
  have hw := hw a w hk
  have ho' : l.toArray[i]? = some o := by simpa using ho
  unfold wpOp
  rw [ho']
  simp only
  unfold wpList at hw
  split
  ·rename_i hwant
   rw [if_pos hwant] at hw
   rcases hw with hw | hw
   ·exact .inl (wp_anyN (Oper.wp_mono (fun a' w' h' => hd a' w' h') hw))
   ·exact .inr ⟨hw.1, letsOut_any hw.2⟩
  ·rename_i hwant
   rw [if_neg hwant] at hw
   exact hd _ _ hw
theorem RD.have {N : Po} {f : Nat} {L : Array Bool} (f' : Nat) (L' : Array Bool) (S' : St) (h1 : RD c l N f' L' S') (h2 : RD c l N f' L' S' → RD c l N f L S) : RD c l N f L S := h2 h1
theorem RD.start {f : Nat} {L : Array Bool} {S' : St} (h : RD c l N f L S') (hf : f = l.length) (hL : L = Array.replicate l.length false) (hs : ∀ a w, Ok c S a w → Ok c S' a w) : RD c l N l.length (Array.replicate l.length false) S := by
 subst hf
 subst hL
 exact fun a w hk => h a w (hs a w hk)
theorem WL.nilI {ops : Array Oper} : WL c ops [] S (fun a w => Ok c S a w) := fun _ _ hk => hk
theorem En.regionD {id : Nat} {E : List (Nat × Po)} {R : Po} (fin : St) (hm : Try.prog.follows .mixedOrders = true) (h : ∀ N : Po, En c fin N → RD c l N l.length (Array.replicate l.length false) S) (hN : En c fin N) : En c S (cwp (.region id l.toArray true) (PQ c N E R)) := fun a w ⟨g, hs', hok⟩ => by
 have hok1 : Ok' c S a w.drew g hs' := hok.grown (grown_drew w)
 refine Code.wp_mono (fun e a w q => ?_) (wp_region_any (Q := OnlyP c N) hm ?_)
 ·cases e <;> first | exact q | exact (q : False).elim
 ·have := h N hN a w.drew ⟨g, hs', hok1⟩
  simpa using this
end
section
variable {c : Cfg} {S : St}
end
end Go.Proofs.Ytiejmeedkhkfgaa


namespace Go.Proofs.Ytiejmeedkhkfgaa
open Go.RowKit Go.MapKept
set_option linter.unusedSimpArgs false
set_option linter.unusedVariables false
set_option maxRecDepth 100000
theorem en152 : ∀ args w, (callFunc 152 args).run Try.prog w = .ok (.enter 152 args) w := enters_of Try.func152 (by kernel_rfl) rfl
def FC (k : Nat) : Prop := ∀ (text : ByteArray) (pos deep cnt : Int) (ar : List FixName), (fOk k 0 text ar ⟨pos, deep, cnt⟩ → (∀ r, pF text k 0 ar ⟨pos, deep, cnt⟩ = some r → CtE 136 [.sv (.one (.ptr 0 0))] [.box [.v (.string text), I pos, I deep, I cnt, .own 1] 144 false, rowI 236 FixName.ty ar] [0] (fun (_ : Unit) => True) (fun _ => .sv (.one (.rd (trR fLab r.1)))) (fun _ => [.box [.v (.string text), I r.2.pos, I r.2.deep, I r.2.cnt, .own 1] 144 false, rowI 236 FixName.ty ar])) ∧ (pF text k 0 ar ⟨pos, deep, cnt⟩ = none → CtX 136 [.sv (.one (.ptr 0 0))] [.box [.v (.string text), I pos, I deep, I cnt, .own 1] 144 false, rowI 236 FixName.ty ar] (psStop 140))) ∧ (fOk k 1 text ar ⟨pos, deep, cnt⟩ → (∀ r, pF text k 1 ar ⟨pos, deep, cnt⟩ = some r → CtE 109 [.sv (.one (.ptr 0 0))] [.box [.v (.string text), I pos, I deep, I cnt, .own 1] 144 false, rowI 236 FixName.ty ar] [0] (fun (_ : Unit) => True) (fun _ => .sv (.one (.rd (trR fLab r.1)))) (fun _ => [.box [.v (.string text), I r.2.pos, I r.2.deep, I r.2.cnt, .own 1] 144 false, rowI 236 FixName.ty ar])) ∧ (pF text k 1 ar ⟨pos, deep, cnt⟩ = none → CtX 109 [.sv (.one (.ptr 0 0))] [.box [.v (.string text), I pos, I deep, I cnt, .own 1] 144 false, rowI 236 FixName.ty ar] (psStop 140))) ∧ (fOk k 2 text ar ⟨pos, deep, cnt⟩ → (∀ r, pF text k 2 ar ⟨pos, deep, cnt⟩ = some r → CtE 74 [.sv (.one (.ptr 0 0))] [.box [.v (.string text), I pos, I deep, I cnt, .own 1] 144 false, rowI 236 FixName.ty ar] [0] (fun (_ : Unit) => True) (fun _ => .sv (.one (.rd (trR fLab r.1)))) (fun _ => [.box [.v (.string text), I r.2.pos, I r.2.deep, I r.2.cnt, .own 1] 144 false, rowI 236 FixName.ty ar])) ∧ (pF text k 2 ar ⟨pos, deep, cnt⟩ = none → CtX 74 [.sv (.one (.ptr 0 0))] [.box [.v (.string text), I pos, I deep, I cnt, .own 1] 144 false, rowI 236 FixName.ty ar] (psStop 140)))
theorem fI0_ok (k : Nat) (ih : FC k) (text : ByteArray) (pos deep cnt : Int) (ar : List FixName) (hp : fOk k 0 text ar ⟨pos, deep, cnt⟩) (r : FTr × FS) (hx : pF text k 0 ar ⟨pos, deep, cnt⟩ = some r) : CtE 136 [.sv (.one (.ptr 0 0))] [.box [.v (.string text), I pos, I deep, I cnt, .own 1] 144 false, rowI 236 FixName.ty ar] [0] (fun (_ : Unit) => True) (fun _ => .sv (.one (.rd (trR fLab r.1)))) (fun _ => [.box [.v (.string text), I r.2.pos, I r.2.deep, I r.2.cnt, .own 1] 144 false, rowI 236 FixName.ty ar]) := ((ih text pos deep cnt ar).1 hp).1 r hx
theorem fI0_bad (k : Nat) (ih : FC k) (text : ByteArray) (pos deep cnt : Int) (ar : List FixName) (hp : fOk k 0 text ar ⟨pos, deep, cnt⟩) (hx : pF text k 0 ar ⟨pos, deep, cnt⟩ = none) : CtX 136 [.sv (.one (.ptr 0 0))] [.box [.v (.string text), I pos, I deep, I cnt, .own 1] 144 false, rowI 236 FixName.ty ar] (psStop 140) := ((ih text pos deep cnt ar).1 hp).2 hx
theorem en136 : ∀ args w, (callFunc 136 args).run Try.prog w = .ok (.enter 136 args) w := enters_of Try.func136 (by kernel_rfl) rfl
theorem fI1_ok (k : Nat) (ih : FC k) (text : ByteArray) (pos deep cnt : Int) (ar : List FixName) (hp : fOk k 1 text ar ⟨pos, deep, cnt⟩) (r : FTr × FS) (hx : pF text k 1 ar ⟨pos, deep, cnt⟩ = some r) : CtE 109 [.sv (.one (.ptr 0 0))] [.box [.v (.string text), I pos, I deep, I cnt, .own 1] 144 false, rowI 236 FixName.ty ar] [0] (fun (_ : Unit) => True) (fun _ => .sv (.one (.rd (trR fLab r.1)))) (fun _ => [.box [.v (.string text), I r.2.pos, I r.2.deep, I r.2.cnt, .own 1] 144 false, rowI 236 FixName.ty ar]) := ((ih text pos deep cnt ar).2.1 hp).1 r hx
theorem fI1_bad (k : Nat) (ih : FC k) (text : ByteArray) (pos deep cnt : Int) (ar : List FixName) (hp : fOk k 1 text ar ⟨pos, deep, cnt⟩) (hx : pF text k 1 ar ⟨pos, deep, cnt⟩ = none) : CtX 109 [.sv (.one (.ptr 0 0))] [.box [.v (.string text), I pos, I deep, I cnt, .own 1] 144 false, rowI 236 FixName.ty ar] (psStop 140) := ((ih text pos deep cnt ar).2.1 hp).2 hx
theorem en109 : ∀ args w, (callFunc 109 args).run Try.prog w = .ok (.enter 109 args) w := enters_of Try.func109 (by kernel_rfl) rfl
theorem fI2_ok (k : Nat) (ih : FC k) (text : ByteArray) (pos deep cnt : Int) (ar : List FixName) (hp : fOk k 2 text ar ⟨pos, deep, cnt⟩) (r : FTr × FS) (hx : pF text k 2 ar ⟨pos, deep, cnt⟩ = some r) : CtE 74 [.sv (.one (.ptr 0 0))] [.box [.v (.string text), I pos, I deep, I cnt, .own 1] 144 false, rowI 236 FixName.ty ar] [0] (fun (_ : Unit) => True) (fun _ => .sv (.one (.rd (trR fLab r.1)))) (fun _ => [.box [.v (.string text), I r.2.pos, I r.2.deep, I r.2.cnt, .own 1] 144 false, rowI 236 FixName.ty ar]) := ((ih text pos deep cnt ar).2.2 hp).1 r hx
theorem fI2_bad (k : Nat) (ih : FC k) (text : ByteArray) (pos deep cnt : Int) (ar : List FixName) (hp : fOk k 2 text ar ⟨pos, deep, cnt⟩) (hx : pF text k 2 ar ⟨pos, deep, cnt⟩ = none) : CtX 74 [.sv (.one (.ptr 0 0))] [.box [.v (.string text), I pos, I deep, I cnt, .own 1] 144 false, rowI 236 FixName.ty ar] (psStop 140) := ((ih text pos deep cnt ar).2.2 hp).2 hx
theorem en74 : ∀ args w, (callFunc 74 args).run Try.prog w = .ok (.enter 74 args) w := enters_of Try.func74 (by kernel_rfl) rfl
def fArr_vc (k : Nat) (text : ByteArray) (pos : Int) (deep : Int) (cnt : Int) (ar : (List FixName)) (ch : Int) (Q : (Tr FLab) × Int × Int × Int × (List FixName) → Prop) (P : Prop) : Prop :=
 (gF text ⟨pos, deep, cnt⟩ ∧ text.size ≤ 4000) ∧
 ((fcnt ⟨pos, deep, cnt⟩) = none → P) ∧ ∀ r, (fcnt ⟨pos, deep, cnt⟩) = some r →
 ((0 ≤ (wr ((r.pos) + 1))) ∧
 IfP ((decide ((fch text (wr ((r.pos) + 1))) < 97)) || (decide ((fch text (wr ((r.pos) + 1))) > 100))) (((4 : Int) ≠ 0) ∧
 P) (∃ J : Int → Int → Int → Prop, (IfP (ch == 60) ((gF text ⟨(wr (((wr ((r.pos) + 1))) + 1)), ((r.deep)), ((r.cnt))⟩ ∧ text.size ≤ 4000 ∧ (62 : Int) ≠ 0) ∧
 ((fwant 62 text ⟨(wr (((wr ((r.pos) + 1))) + 1)), ((r.deep)), ((r.cnt))⟩) = none → P) ∧ ∀ r_2, (fwant 62 text ⟨(wr (((wr ((r.pos) + 1))) + 1)), ((r.deep)), ((r.cnt))⟩) = some r_2 →
 (J (r_2.pos) (r_2.deep) (r_2.cnt))) ((gF text ⟨(wr (((wr ((r.pos) + 1))) + 1)), ((r.deep)), ((r.cnt))⟩ ∧ text.size ≤ 4000 ∧ (93 : Int) ≠ 0) ∧
 ((fwant 93 text ⟨(wr (((wr ((r.pos) + 1))) + 1)), ((r.deep)), ((r.cnt))⟩) = none → P) ∧ ∀ r_3, (fwant 93 text ⟨(wr (((wr ((r.pos) + 1))) + 1)), ((r.deep)), ((r.cnt))⟩) = some r_3 →
 (J (r_3.pos) (r_3.deep) (r_3.cnt)))) ∧
 (∀ (y01 : Int) (y02 : Int) (y03 : Int), J y01 y02 y03 → (fOk k 0 text (((ar))) ⟨y01, y02, y03⟩) ∧
 ((pF text k 0 (((ar))) ⟨y01, y02, y03⟩) = none → P) ∧ ∀ r_4, (pF text k 0 (((ar))) ⟨y01, y02, y03⟩) = some r_4 →
 (Q ((Tr.node (FLab.mk ch (wr (IntKind.wrap .u8 ((fch text (wr ((r.pos) + 1))) - 97)))) ([(r_4.1)] : (List (Tr FLab)))), (r_4.2.pos), (r_4.2.deep), (r_4.2.cnt), ((((ar)))))))))
theorem fArr_walk (k : Nat) (text : ByteArray) (pos : Int) (deep : Int) (cnt : Int) (ar : (List FixName)) (ch : Int) (ih : FC k) (Q : (Tr FLab) × Int × Int × Int × (List FixName) → Prop) (P : Prop) (h : fArr_vc k text pos deep cnt ar ch Q P) : CtP 150 [.sv (.one (.ptr 0 0)), .sv (.one (.v (.int .u8 ch)))] [.box [.v (.string text), I pos, I deep, I cnt, .own 1] 144 false, rowI 236 FixName.ty ar] [0] Q (fun (r : (Tr FLab) × Int × Int × Int × (List FixName)) => .sv (.one (.rd (trR fLab r.1)))) (fun (r : (Tr FLab) × Int × Int × Int × (List FixName)) => [.box [.v (.string text), I r.2.1, I r.2.2.1, I r.2.2.2.1, .own 1] 144 false, rowI 236 FixName.ty r.2.2.2.2]) (psStop 140) P := by
 have ht := tab_ok
 refine CtP.body Try.func150 rfl rfl rfl (by kernel_rfl) (by kernel_rfl) (fun c Bk hn hpan => ?_)
 unfold fArr_vc at h
 show En c ⟨[sl 0 (.pptr 0 0 (Bk 0)), sl 1 (.v (.int .u8 ch))], [.box [.v (.string text), I pos, I deep, I cnt, .own 1] 144 false, rowI 236 FixName.ty ar]⟩ _
 refine En.seq ?_
 refine En.region ?_
 refine WL.run ht hn 1 ⟨[sl 0 (.pptr 0 0 (Bk 0)), sl 1 (.v (.int .u8 ch))], [.box [.v (.string text), I pos, I deep, I cnt, .own 1] 144 false, rowI 236 FixName.ty ar]⟩ (by kernel_rfl) ?_
 refine WL.nil ?_
 refine En.seq ?_
 refine En.region ?_
 refine WL.run ht hn 1 ⟨[sl 0 (.pptr 0 0 (Bk 0)), sl 1 (.v (.int .u8 ch)), sl 6 (.ptr 0 0)], [.box [.v (.string text), I pos, I deep, I cnt, .own 1] 144 false, rowI 236 FixName.ty ar]⟩ (by kernel_rfl) ?_
 have hp := h.1
 replace h := h.2
 refine splitO ((fcnt ⟨pos, deep, cnt⟩)) (fun hr_2 => ?_) (fun r hr_2 => ?_)
 exact WL.callX (fCnt_bad text pos deep cnt ar hp hr_2) en111 (caps := []) [0, 1] (by rfl) rfl (by rfl) (argsAs (by kernel_rfl) (by rfl)) (by kernel_rfl) (by decide) (leftX hpan (h.1 hr_2))
 replace h := h.2 r hr_2
 refine WL.callE (fCnt_ok text pos deep cnt ar hp r hr_2) en111 (caps := []) [0, 1] hn (by rfl) rfl (by rfl) (argsAs (by kernel_rfl) (by rfl)) (by kernel_rfl) (by decide) (by rfl) (by rfl) (fun _ _ => ⟨by rfl, _, by rfl, ?_⟩)
 refine WL.nil ?_
 refine En.seq ?_
 refine En.region ?_
 refine WL.run ht hn 8 ⟨[sl 0 (.pptr 0 0 (Bk 0)), sl 1 (.v (.int .u8 ch))], [.box [.v (.string text), I (wr ((r.pos) + 1)), I (r.deep), I (r.cnt), .own 1] 144 false, rowI 236 FixName.ty (ar)]⟩ (by kernel_rfl) ?_
 refine WL.nil ?_
 refine En.seq ?_
 refine En.region ?_
 refine WL.run ht hn 1 ⟨[sl 0 (.pptr 0 0 (Bk 0)), sl 1 (.v (.int .u8 ch)), sl 15 (.ptr 0 0)], [.box [.v (.string text), I (wr ((r.pos) + 1)), I (r.deep), I (r.cnt), .own 1] 144 false, rowI 236 FixName.ty (ar)]⟩ (by kernel_rfl) ?_
 have hp := h.1
 replace h := h.2
 refine WL.callE (fNow_ct text (wr ((r.pos) + 1)) (r.deep) (r.cnt) (ar) hp) en110 (caps := []) [0, 1] hn (by rfl) rfl (by rfl) (argsAs (by kernel_rfl) (by rfl)) (by kernel_rfl) (by decide) (by rfl) (by rfl) (fun _ _ => ⟨by rfl, _, by rfl, ?_⟩)
 refine WL.run ht hn 1 ⟨[sl 0 (.pptr 0 0 (Bk 0)), sl 1 (.v (.int .u8 ch)), sl 5 (.v (.int .u8 (fch text (wr ((r.pos) + 1)))))], [.box [.v (.string text), I ((wr ((r.pos) + 1))), I ((r.deep)), I ((r.cnt)), .own 1] 144 false, rowI 236 FixName.ty ((ar))]⟩ (by kernel_rfl) ?_
 refine WL.nil ?_
 refine En.seq ?_
 refine En.seq ?_
 refine En.region ?_
 refine WL.run ht hn 3 ⟨[sl 0 (.pptr 0 0 (Bk 0)), sl 1 (.v (.int .u8 ch)), sl 5 (.v (.int .u8 (fch text (wr ((r.pos) + 1))))), sl 19 (B (decide ((fch text (wr ((r.pos) + 1))) < 97)))], [.box [.v (.string text), I ((wr ((r.pos) + 1))), I ((r.deep)), I ((r.cnt)), .own 1] 144 false, rowI 236 FixName.ty ((ar))]⟩ (by kernel_rfl) ?_
 refine WL.thru ⟨[sl 0 (.pptr 0 0 (Bk 0)), sl 1 (.v (.int .u8 ch)), sl 5 (.v (.int .u8 (fch text (wr ((r.pos) + 1))))), sl 22 (B ((decide ((fch text (wr ((r.pos) + 1))) < 97)) || (decide ((fch text (wr ((r.pos) + 1))) > 100))))], [.box [.v (.string text), I ((wr ((r.pos) + 1))), I ((r.deep)), I ((r.cnt)), .own 1] 144 false, rowI 236 FixName.ty ((ar))]⟩ ?_ ?_
 refine splitB (decide ((fch text (wr ((r.pos) + 1))) < 97)) (fun hb0 => ?_) (fun hb0 => ?_)
 refine WL.setB 19 hb0 (by kernel_rfl) ?_
 refine WL.run ht hn 3 ⟨[sl 0 (.pptr 0 0 (Bk 0)), sl 1 (.v (.int .u8 ch)), sl 5 (.v (.int .u8 (fch text (wr ((r.pos) + 1))))), sl 22 (B true)], [.box [.v (.string text), I ((wr ((r.pos) + 1))), I ((r.deep)), I ((r.cnt)), .own 1] 144 false, rowI 236 FixName.ty ((ar))]⟩ (by kernel_rfl) ?_
 exact WL.nil (sub_ok (by simp only [hb0]; kernel_rfl))
 refine WL.setB 19 hb0 (by kernel_rfl) ?_
 refine WL.run ht hn 3 ⟨[sl 0 (.pptr 0 0 (Bk 0)), sl 1 (.v (.int .u8 ch)), sl 5 (.v (.int .u8 (fch text (wr ((r.pos) + 1))))), sl 22 (B (decide ((fch text (wr ((r.pos) + 1))) > 100)))], [.box [.v (.string text), I ((wr ((r.pos) + 1))), I ((r.deep)), I ((r.cnt)), .own 1] 144 false, rowI 236 FixName.ty ((ar))]⟩ (by kernel_rfl) ?_
 exact WL.nil (sub_ok (by simp only [hb0]; kernel_rfl))
 refine En.cond (b := ((decide ((fch text (wr ((r.pos) + 1))) < 97)) || (decide ((fch text (wr ((r.pos) + 1))) > 100)))) (by kernel_rfl) (fun hb => ?_) (fun hb => ?_)
 replace h := h.1 hb
 refine En.region ?_
 refine WL.run ht hn 1 ⟨[sl 0 (.pptr 0 0 (Bk 0)), sl 1 (.v (.int .u8 ch)), sl 5 (.v (.int .u8 (fch text (wr ((r.pos) + 1))))), sl 23 (.ptr 0 0)], [.box [.v (.string text), I ((wr ((r.pos) + 1))), I ((r.deep)), I ((r.cnt)), .own 1] 144 false, rowI 236 FixName.ty ((ar))]⟩ (by kernel_rfl) ?_
 have hp := h.1
 replace h := h.2
 exact WL.callX (fFail_ct text ((wr ((r.pos) + 1))) ((r.deep)) ((r.cnt)) ((ar)) 4 hp) en75 (caps := []) [0, 1] (by rfl) rfl (by rfl) (argsAs (by kernel_rfl) (by rfl)) (by kernel_rfl) (by decide) (leftX hpan h)
 replace h := h.2 hb
 refine En.skip ?_
 refine En.seq ?_
 refine En.region ?_
 refine WL.run ht hn 8 ⟨[sl 0 (.pptr 0 0 (Bk 0)), sl 1 (.v (.int .u8 ch)), sl 5 (.v (.int .u8 (fch text (wr ((r.pos) + 1)))))], [.box [.v (.string text), I (wr (((wr ((r.pos) + 1))) + 1)), I ((r.deep)), I ((r.cnt)), .own 1] 144 false, rowI 236 FixName.ty ((ar))]⟩ (by kernel_rfl) ?_
 refine WL.nil ?_
 obtain ⟨J, h, hJ⟩ := h
 refine En.seqJ (σ := Int × Int × Int) (fun zz => J zz.1 zz.2.1 zz.2.2) (fun zz => ⟨[sl 0 (.pptr 0 0 (Bk 0)), sl 1 (.v (.int .u8 ch)), sl 5 (.v (.int .u8 (fch text (wr ((r.pos) + 1)))))], [.box [.v (.string text), I zz.1, I zz.2.1, I zz.2.2, .own 1] 144 false, rowI 236 FixName.ty (((ar)))]⟩) ?_ ?_
 refine En.seq ?_
 refine En.region ?_
 refine WL.run ht hn 2 ⟨[sl 0 (.pptr 0 0 (Bk 0)), sl 1 (.v (.int .u8 ch)), sl 5 (.v (.int .u8 (fch text (wr ((r.pos) + 1))))), sl 33 (B (ch == 60))], [.box [.v (.string text), I (wr (((wr ((r.pos) + 1))) + 1)), I ((r.deep)), I ((r.cnt)), .own 1] 144 false, rowI 236 FixName.ty ((ar))]⟩ (by kernel_rfl) ?_
 refine WL.nil ?_
 refine En.cond (b := (ch == 60)) (by kernel_rfl) (fun hb => ?_) (fun hb => ?_)
 replace h := h.1 hb
 refine En.region ?_
 refine WL.run ht hn 1 ⟨[sl 0 (.pptr 0 0 (Bk 0)), sl 1 (.v (.int .u8 ch)), sl 5 (.v (.int .u8 (fch text (wr ((r.pos) + 1))))), sl 34 (.ptr 0 0)], [.box [.v (.string text), I (wr (((wr ((r.pos) + 1))) + 1)), I ((r.deep)), I ((r.cnt)), .own 1] 144 false, rowI 236 FixName.ty ((ar))]⟩ (by kernel_rfl) ?_
 have hp := h.1
 replace h := h.2
 refine splitO ((fwant 62 text ⟨(wr (((wr ((r.pos) + 1))) + 1)), ((r.deep)), ((r.cnt))⟩)) (fun hr_3 => ?_) (fun r_2 hr_3 => ?_)
 exact WL.callX (fWnt_bad text (wr (((wr ((r.pos) + 1))) + 1)) ((r.deep)) ((r.cnt)) ((ar)) 62 hp hr_3) en153 (caps := []) [0, 1] (by rfl) rfl (by rfl) (argsAs (by kernel_rfl) (by rfl)) (by kernel_rfl) (by decide) (leftX hpan (h.1 hr_3))
 replace h := h.2 r_2 hr_3
 refine WL.callE (fWnt_ok text (wr (((wr ((r.pos) + 1))) + 1)) ((r.deep)) ((r.cnt)) ((ar)) 62 hp r_2 hr_3) en153 (caps := []) [0, 1] hn (by rfl) rfl (by rfl) (argsAs (by kernel_rfl) (by rfl)) (by kernel_rfl) (by decide) (by rfl) (by rfl) (fun _ _ => ⟨by rfl, _, by rfl, ?_⟩)
 refine WL.nil ?_
 exact En.at (I := fun zz => J zz.1 zz.2.1 zz.2.2) (T := fun zz => ⟨[sl 0 (.pptr 0 0 (Bk 0)), sl 1 (.v (.int .u8 ch)), sl 5 (.v (.int .u8 (fch text (wr ((r.pos) + 1)))))], [.box [.v (.string text), I zz.1, I zz.2.1, I zz.2.2, .own 1] 144 false, rowI 236 FixName.ty (((ar)))]⟩) ((r_2.pos), (r_2.deep), (r_2.cnt)) h (by kernel_rfl)
 replace h := h.2 hb
 refine En.region ?_
 refine WL.run ht hn 1 ⟨[sl 0 (.pptr 0 0 (Bk 0)), sl 1 (.v (.int .u8 ch)), sl 5 (.v (.int .u8 (fch text (wr ((r.pos) + 1))))), sl 36 (.ptr 0 0)], [.box [.v (.string text), I (wr (((wr ((r.pos) + 1))) + 1)), I ((r.deep)), I ((r.cnt)), .own 1] 144 false, rowI 236 FixName.ty ((ar))]⟩ (by kernel_rfl) ?_
 have hp := h.1
 replace h := h.2
 refine splitO ((fwant 93 text ⟨(wr (((wr ((r.pos) + 1))) + 1)), ((r.deep)), ((r.cnt))⟩)) (fun hr_4 => ?_) (fun r_3 hr_4 => ?_)
 exact WL.callX (fWnt_bad text (wr (((wr ((r.pos) + 1))) + 1)) ((r.deep)) ((r.cnt)) ((ar)) 93 hp hr_4) en153 (caps := []) [0, 1] (by rfl) rfl (by rfl) (argsAs (by kernel_rfl) (by rfl)) (by kernel_rfl) (by decide) (leftX hpan (h.1 hr_4))
 replace h := h.2 r_3 hr_4
 refine WL.callE (fWnt_ok text (wr (((wr ((r.pos) + 1))) + 1)) ((r.deep)) ((r.cnt)) ((ar)) 93 hp r_3 hr_4) en153 (caps := []) [0, 1] hn (by rfl) rfl (by rfl) (argsAs (by kernel_rfl) (by rfl)) (by kernel_rfl) (by decide) (by rfl) (by rfl) (fun _ _ => ⟨by rfl, _, by rfl, ?_⟩)
 refine WL.nil ?_
 exact En.at (I := fun zz => J zz.1 zz.2.1 zz.2.2) (T := fun zz => ⟨[sl 0 (.pptr 0 0 (Bk 0)), sl 1 (.v (.int .u8 ch)), sl 5 (.v (.int .u8 (fch text (wr ((r.pos) + 1)))))], [.box [.v (.string text), I zz.1, I zz.2.1, I zz.2.2, .own 1] 144 false, rowI 236 FixName.ty (((ar)))]⟩) ((r_3.pos), (r_3.deep), (r_3.cnt)) h (by kernel_rfl)
 rintro ⟨y01, y02, y03⟩ h
 replace h := hJ _ _ _ h
 show En c ⟨[sl 0 (.pptr 0 0 (Bk 0)), sl 1 (.v (.int .u8 ch)), sl 5 (.v (.int .u8 (fch text (wr ((r.pos) + 1)))))], [.box [.v (.string text), I y01, I y02, I y03, .own 1] 144 false, rowI 236 FixName.ty (((ar)))]⟩ _
 refine En.seq ?_
 refine En.region ?_
 refine WL.run ht hn 5 ⟨[sl 0 (.pptr 0 0 (Bk 0)), sl 38 (.v (.int .u8 ch)), sl 41 (I (wr (IntKind.wrap .u8 ((fch text (wr ((r.pos) + 1))) - 97)))), sl 42 (.ptr 0 0)], [.box [.v (.string text), I y01, I y02, I y03, .own 1] 144 false, rowI 236 FixName.ty (((ar)))]⟩ (by kernel_rfl) ?_
 have hp := h.1
 replace h := h.2
 refine splitO ((pF text k 0 (((ar))) ⟨y01, y02, y03⟩)) (fun hr_5 => ?_) (fun r_4 hr_5 => ?_)
 exact WL.callX (fI0_bad k ih text y01 y02 y03 (((ar))) hp hr_5) en136 (caps := []) [0, 1] (by rfl) rfl (by rfl) (argsAs (by kernel_rfl) (by rfl)) (by kernel_rfl) (by decide) (leftX hpan (h.1 hr_5))
 replace h := h.2 r_4 hr_5
 refine WL.callE (fI0_ok k ih text y01 y02 y03 (((ar))) hp r_4 hr_5) en136 (caps := []) [0, 1] hn (by rfl) rfl (by rfl) (argsAs (by kernel_rfl) (by rfl)) (by kernel_rfl) (by decide) (by rfl) (by rfl) (fun _ _ => ⟨by rfl, _, by rfl, ?_⟩)
 refine WL.mt0 (K := []) (p := some (2, rowI 83 (TT fLab) ([(r_4.1)] : (List (Tr FLab))))) hn (by rfl) (mt_lit (T := (TT fLab)) ([(r_4.1)] : (List (Tr FLab))) (mt_bsl 2 (r := cellsOf (TT fLab) ([(r_4.1)] : (List (Tr FLab)))) ht rfl (by rfl) (by rfl) (by rfl) (by kernel_rfl) (by rfl)) (fun _ h => by cases h) (fun _ => rfl) (fun _ => rfl) (by rfl) (Nat.le_of_ble_eq_true rfl)) (by rfl) (by rfl) (by rfl) ?_
 refine WL.run ht hn 3 ⟨[sl 0 (.pptr 0 0 (Bk 0)), sl 4 (.ptr 3 0)], [.box [.v (.string text), I (r_4.2.pos), I (r_4.2.deep), I (r_4.2.cnt), .own 1] 144 false, rowI 236 FixName.ty ((((ar)))), rowI 83 (TT fLab) ([(r_4.1)] : (List (Tr FLab))), .box [.v (.int .u8 ch), I (wr (IntKind.wrap .u8 ((fch text (wr ((r.pos) + 1))) - 97))), .own 2] 149 false]⟩ (by kernel_rfl) ?_
 refine WL.nil ?_
 refine En.ret ?_
 refine En.seal (T := (TT fLab)) (l := ([(r_4.1)] : (List (Tr FLab)))) (e := 83) 2 rfl ?_
 refine En.freeze [3] (by rfl) ?_
 refine En.ghost 4 (o1 (.rd (trR fLab (Tr.node (FLab.mk ch (wr (IntKind.wrap .u8 ((fch text (wr ((r.pos) + 1))) - 97)))) ([(r_4.1)] : (List (Tr FLab))))))) (by rfl) (tree_of (lab := fLab) (x := (FLab.mk ch (wr (IntKind.wrap .u8 ((fch text (wr ((r.pos) + 1))) - 97))))) (kids := ([(r_4.1)] : (List (Tr FLab)))) (i := 3) (by rfl) (by rfl) (by rfl)) ?_
 exact En.backE [0] ht ((Tr.node (FLab.mk ch (wr (IntKind.wrap .u8 ((fch text (wr ((r.pos) + 1))) - 97)))) ([(r_4.1)] : (List (Tr FLab)))), (r_4.2.pos), (r_4.2.deep), (r_4.2.cnt), ((((ar))))) h (by kernel_rfl) (by rfl) rfl
theorem en150 : ∀ args w, (callFunc 150 args).run Try.prog w = .ok (.enter 150 args) w := enters_of Try.func150 (by kernel_rfl) rfl
def fLop_vc (k : Nat) (text : ByteArray) (pos : Int) (deep : Int) (cnt : Int) (ar : (List FixName)) (ch : Int) (Q : (Tr FLab) × Int × Int × Int × (List FixName) → Prop) (P : Prop) : Prop :=
 IfP ((ar.length : Int) == 3) (((7 : Int) ≠ 0) ∧
 P) ((gF text ⟨pos, deep, cnt⟩ ∧ text.size ≤ 4000) ∧
 ((fcnt ⟨pos, deep, cnt⟩) = none → P) ∧ ∀ r, (fcnt ⟨pos, deep, cnt⟩) = some r →
 ((0 ≤ (wr ((r.pos) + 1))) ∧
 IfP ((decide ((fch text (wr ((r.pos) + 1))) < 88)) || (decide ((fch text (wr ((r.pos) + 1))) > 90))) (((4 : Int) ≠ 0) ∧
 P) ((gF text ⟨(wr (((wr ((r.pos) + 1))) + 1)), ((r.deep)), ((r.cnt))⟩ ∧ text.size ≤ 4000 ∧ (46 : Int) ≠ 0) ∧
 ((fwant 46 text ⟨(wr (((wr ((r.pos) + 1))) + 1)), ((r.deep)), ((r.cnt))⟩) = none → P) ∧ ∀ r_2, (fwant 46 text ⟨(wr (((wr ((r.pos) + 1))) + 1)), ((r.deep)), ((r.cnt))⟩) = some r_2 →
 (capOk (((ar))).length (([(FixName.mk (fch text (wr ((r.pos) + 1))) false)] : (List FixName)) : (List FixName)).length 2 ∧
 (fOk k 0 text ((((ar))) ++ ([(FixName.mk (fch text (wr ((r.pos) + 1))) false)] : (List FixName))) ⟨(r_2.pos), (r_2.deep), (r_2.cnt)⟩) ∧
 ((pF text k 0 ((((ar))) ++ ([(FixName.mk (fch text (wr ((r.pos) + 1))) false)] : (List FixName))) ⟨(r_2.pos), (r_2.deep), (r_2.cnt)⟩) = none → P) ∧ ∀ r_3, (pF text k 0 ((((ar))) ++ ([(FixName.mk (fch text (wr ((r.pos) + 1))) false)] : (List FixName))) ⟨(r_2.pos), (r_2.deep), (r_2.cnt)⟩) = some r_3 →
 ((0 ≤ (wr (((((((ar))) ++ ([(FixName.mk (fch text (wr ((r.pos) + 1))) false)] : (List FixName)))).length : Int) - 1)) ∧ (wr (((((((ar))) ++ ([(FixName.mk (fch text (wr ((r.pos) + 1))) false)] : (List FixName)))).length : Int) - 1)) ≤ ((((((ar))) ++ ([(FixName.mk (fch text (wr ((r.pos) + 1))) false)] : (List FixName)))).length : Int)) ∧
 Q ((Tr.node (FLab.mk ch (((((((ar))) ++ ([(FixName.mk (fch text (wr ((r.pos) + 1))) false)] : (List FixName)))).take ((wr (((((((ar))) ++ ([(FixName.mk (fch text (wr ((r.pos) + 1))) false)] : (List FixName)))).length : Int) - 1)) : Int).toNat).length : Int)) ([(r_3.1)] : (List (Tr FLab)))), (r_3.2.pos), (r_3.2.deep), (r_3.2.cnt), ((((((ar))) ++ ([(FixName.mk (fch text (wr ((r.pos) + 1))) false)] : (List FixName)))).take ((wr (((((((ar))) ++ ([(FixName.mk (fch text (wr ((r.pos) + 1))) false)] : (List FixName)))).length : Int) - 1)) : Int).toNat)))))))
noncomputable abbrev qfLop0 := (List FixName)
set_option maxHeartbeats 2000000 in
theorem fLop_walk (k : Nat) (text : ByteArray) (pos : Int) (deep : Int) (cnt : Int) (ar : (List FixName)) (ch : Int) (ih : FC k) (Q : (Tr FLab) × Int × Int × Int × (List FixName) → Prop) (P : Prop) (h : fLop_vc k text pos deep cnt ar ch Q P) : CtP 151 [.sv (.one (.ptr 0 0)), .sv (.one (.v (.int .u8 ch)))] [.box [.v (.string text), I pos, I deep, I cnt, .own 1] 144 false, rowI 236 FixName.ty ar] [0] Q (fun (r : (Tr FLab) × Int × Int × Int × (List FixName)) => .sv (.one (.rd (trR fLab r.1)))) (fun (r : (Tr FLab) × Int × Int × Int × (List FixName)) => [.box [.v (.string text), I r.2.1, I r.2.2.1, I r.2.2.2.1, .own 1] 144 false, rowI 236 FixName.ty r.2.2.2.2]) (psStop 140) P := by
 have ht := tab_ok
 refine CtP.body Try.func151 rfl rfl rfl (by kernel_rfl) (by kernel_rfl) (fun c Bk hn hpan => ?_)
 unfold fLop_vc at h
 show En c ⟨[sl 0 (.pptr 0 0 (Bk 0)), sl 1 (.v (.int .u8 ch))], [.box [.v (.string text), I pos, I deep, I cnt, .own 1] 144 false, rowI 236 FixName.ty ar]⟩ _
 refine En.seq ?_
 refine En.region ?_
 refine WL.run ht hn 1 ⟨[sl 0 (.pptr 0 0 (Bk 0)), sl 1 (.v (.int .u8 ch))], [.box [.v (.string text), I pos, I deep, I cnt, .own 1] 144 false, rowI 236 FixName.ty ar]⟩ (by kernel_rfl) ?_
 refine WL.nil ?_
 refine En.seq ?_
 refine En.seq ?_
 refine En.region ?_
 refine WL.run ht hn 6 ⟨[sl 0 (.pptr 0 0 (Bk 0)), sl 1 (.v (.int .u8 ch)), sl 12 (B ((ar.length : Int) == 3))], [.box [.v (.string text), I pos, I deep, I cnt, .own 1] 144 false, rowI 236 FixName.ty ar]⟩ (by kernel_rfl) ?_
 refine WL.nil ?_
 refine En.cond (b := ((ar.length : Int) == 3)) (by kernel_rfl) (fun hb => ?_) (fun hb => ?_)
 replace h := h.1 hb
 refine En.region ?_
 refine WL.run ht hn 1 ⟨[sl 0 (.pptr 0 0 (Bk 0)), sl 1 (.v (.int .u8 ch)), sl 13 (.ptr 0 0)], [.box [.v (.string text), I pos, I deep, I cnt, .own 1] 144 false, rowI 236 FixName.ty ar]⟩ (by kernel_rfl) ?_
 have hp := h.1
 replace h := h.2
 exact WL.callX (fFail_ct text pos deep cnt ar 7 hp) en75 (caps := []) [0, 1] (by rfl) rfl (by rfl) (argsAs (by kernel_rfl) (by rfl)) (by kernel_rfl) (by decide) (leftX hpan h)
 replace h := h.2 hb
 refine En.skip ?_
 refine En.seq ?_
 refine En.region ?_
 refine WL.run ht hn 1 ⟨[sl 0 (.pptr 0 0 (Bk 0)), sl 1 (.v (.int .u8 ch)), sl 15 (.ptr 0 0)], [.box [.v (.string text), I pos, I deep, I cnt, .own 1] 144 false, rowI 236 FixName.ty ar]⟩ (by kernel_rfl) ?_
 have hp := h.1
 replace h := h.2
 refine splitO ((fcnt ⟨pos, deep, cnt⟩)) (fun hr_2 => ?_) (fun r hr_2 => ?_)
 exact WL.callX (fCnt_bad text pos deep cnt ar hp hr_2) en111 (caps := []) [0, 1] (by rfl) rfl (by rfl) (argsAs (by kernel_rfl) (by rfl)) (by kernel_rfl) (by decide) (leftX hpan (h.1 hr_2))
 replace h := h.2 r hr_2
 refine WL.callE (fCnt_ok text pos deep cnt ar hp r hr_2) en111 (caps := []) [0, 1] hn (by rfl) rfl (by rfl) (argsAs (by kernel_rfl) (by rfl)) (by kernel_rfl) (by decide) (by rfl) (by rfl) (fun _ _ => ⟨by rfl, _, by rfl, ?_⟩)
 refine WL.nil ?_
 refine En.seq ?_
 refine En.region ?_
 refine WL.run ht hn 8 ⟨[sl 0 (.pptr 0 0 (Bk 0)), sl 1 (.v (.int .u8 ch))], [.box [.v (.string text), I (wr ((r.pos) + 1)), I (r.deep), I (r.cnt), .own 1] 144 false, rowI 236 FixName.ty (ar)]⟩ (by kernel_rfl) ?_
 refine WL.nil ?_
 refine En.seq ?_
 refine En.region ?_
 refine WL.run ht hn 1 ⟨[sl 0 (.pptr 0 0 (Bk 0)), sl 1 (.v (.int .u8 ch)), sl 24 (.ptr 0 0)], [.box [.v (.string text), I (wr ((r.pos) + 1)), I (r.deep), I (r.cnt), .own 1] 144 false, rowI 236 FixName.ty (ar)]⟩ (by kernel_rfl) ?_
 have hp := h.1
 replace h := h.2
 refine WL.callE (fNow_ct text (wr ((r.pos) + 1)) (r.deep) (r.cnt) (ar) hp) en110 (caps := []) [0, 1] hn (by rfl) rfl (by rfl) (argsAs (by kernel_rfl) (by rfl)) (by kernel_rfl) (by decide) (by rfl) (by rfl) (fun _ _ => ⟨by rfl, _, by rfl, ?_⟩)
 refine WL.run ht hn 1 ⟨[sl 0 (.pptr 0 0 (Bk 0)), sl 1 (.v (.int .u8 ch)), sl 5 (.v (.int .u8 (fch text (wr ((r.pos) + 1)))))], [.box [.v (.string text), I ((wr ((r.pos) + 1))), I ((r.deep)), I ((r.cnt)), .own 1] 144 false, rowI 236 FixName.ty ((ar))]⟩ (by kernel_rfl) ?_
 refine WL.nil ?_
 refine En.seq ?_
 refine En.seq ?_
 refine En.region ?_
 refine WL.run ht hn 3 ⟨[sl 0 (.pptr 0 0 (Bk 0)), sl 1 (.v (.int .u8 ch)), sl 5 (.v (.int .u8 (fch text (wr ((r.pos) + 1))))), sl 28 (B (decide ((fch text (wr ((r.pos) + 1))) < 88)))], [.box [.v (.string text), I ((wr ((r.pos) + 1))), I ((r.deep)), I ((r.cnt)), .own 1] 144 false, rowI 236 FixName.ty ((ar))]⟩ (by kernel_rfl) ?_
 refine WL.thru ⟨[sl 0 (.pptr 0 0 (Bk 0)), sl 1 (.v (.int .u8 ch)), sl 5 (.v (.int .u8 (fch text (wr ((r.pos) + 1))))), sl 31 (B ((decide ((fch text (wr ((r.pos) + 1))) < 88)) || (decide ((fch text (wr ((r.pos) + 1))) > 90))))], [.box [.v (.string text), I ((wr ((r.pos) + 1))), I ((r.deep)), I ((r.cnt)), .own 1] 144 false, rowI 236 FixName.ty ((ar))]⟩ ?_ ?_
 refine splitB (decide ((fch text (wr ((r.pos) + 1))) < 88)) (fun hb0 => ?_) (fun hb0 => ?_)
 refine WL.setB 28 hb0 (by kernel_rfl) ?_
 refine WL.run ht hn 3 ⟨[sl 0 (.pptr 0 0 (Bk 0)), sl 1 (.v (.int .u8 ch)), sl 5 (.v (.int .u8 (fch text (wr ((r.pos) + 1))))), sl 31 (B true)], [.box [.v (.string text), I ((wr ((r.pos) + 1))), I ((r.deep)), I ((r.cnt)), .own 1] 144 false, rowI 236 FixName.ty ((ar))]⟩ (by kernel_rfl) ?_
 exact WL.nil (sub_ok (by simp only [hb0]; kernel_rfl))
 refine WL.setB 28 hb0 (by kernel_rfl) ?_
 refine WL.run ht hn 3 ⟨[sl 0 (.pptr 0 0 (Bk 0)), sl 1 (.v (.int .u8 ch)), sl 5 (.v (.int .u8 (fch text (wr ((r.pos) + 1))))), sl 31 (B (decide ((fch text (wr ((r.pos) + 1))) > 90)))], [.box [.v (.string text), I ((wr ((r.pos) + 1))), I ((r.deep)), I ((r.cnt)), .own 1] 144 false, rowI 236 FixName.ty ((ar))]⟩ (by kernel_rfl) ?_
 exact WL.nil (sub_ok (by simp only [hb0]; kernel_rfl))
 refine En.cond (b := ((decide ((fch text (wr ((r.pos) + 1))) < 88)) || (decide ((fch text (wr ((r.pos) + 1))) > 90)))) (by kernel_rfl) (fun hb => ?_) (fun hb => ?_)
 replace h := h.1 hb
 refine En.region ?_
 refine WL.run ht hn 1 ⟨[sl 0 (.pptr 0 0 (Bk 0)), sl 1 (.v (.int .u8 ch)), sl 5 (.v (.int .u8 (fch text (wr ((r.pos) + 1))))), sl 32 (.ptr 0 0)], [.box [.v (.string text), I ((wr ((r.pos) + 1))), I ((r.deep)), I ((r.cnt)), .own 1] 144 false, rowI 236 FixName.ty ((ar))]⟩ (by kernel_rfl) ?_
 have hp := h.1
 replace h := h.2
 exact WL.callX (fFail_ct text ((wr ((r.pos) + 1))) ((r.deep)) ((r.cnt)) ((ar)) 4 hp) en75 (caps := []) [0, 1] (by rfl) rfl (by rfl) (argsAs (by kernel_rfl) (by rfl)) (by kernel_rfl) (by decide) (leftX hpan h)
 replace h := h.2 hb
 refine En.skip ?_
 refine En.seq ?_
 refine En.region ?_
 refine WL.run ht hn 8 ⟨[sl 0 (.pptr 0 0 (Bk 0)), sl 1 (.v (.int .u8 ch)), sl 5 (.v (.int .u8 (fch text (wr ((r.pos) + 1)))))], [.box [.v (.string text), I (wr (((wr ((r.pos) + 1))) + 1)), I ((r.deep)), I ((r.cnt)), .own 1] 144 false, rowI 236 FixName.ty ((ar))]⟩ (by kernel_rfl) ?_
 refine WL.nil ?_
 refine En.seq ?_
 refine En.region ?_
 refine WL.run ht hn 1 ⟨[sl 0 (.pptr 0 0 (Bk 0)), sl 1 (.v (.int .u8 ch)), sl 5 (.v (.int .u8 (fch text (wr ((r.pos) + 1))))), sl 41 (.ptr 0 0)], [.box [.v (.string text), I (wr (((wr ((r.pos) + 1))) + 1)), I ((r.deep)), I ((r.cnt)), .own 1] 144 false, rowI 236 FixName.ty ((ar))]⟩ (by kernel_rfl) ?_
 have hp := h.1
 replace h := h.2
 refine splitO ((fwant 46 text ⟨(wr (((wr ((r.pos) + 1))) + 1)), ((r.deep)), ((r.cnt))⟩)) (fun hr_3 => ?_) (fun r_2 hr_3 => ?_)
 exact WL.callX (fWnt_bad text (wr (((wr ((r.pos) + 1))) + 1)) ((r.deep)) ((r.cnt)) ((ar)) 46 hp hr_3) en153 (caps := []) [0, 1] (by rfl) rfl (by rfl) (argsAs (by kernel_rfl) (by rfl)) (by kernel_rfl) (by decide) (leftX hpan (h.1 hr_3))
 replace h := h.2 r_2 hr_3
 refine WL.callE (fWnt_ok text (wr (((wr ((r.pos) + 1))) + 1)) ((r.deep)) ((r.cnt)) ((ar)) 46 hp r_2 hr_3) en153 (caps := []) [0, 1] hn (by rfl) rfl (by rfl) (argsAs (by kernel_rfl) (by rfl)) (by kernel_rfl) (by decide) (by rfl) (by rfl) (fun _ _ => ⟨by rfl, _, by rfl, ?_⟩)
 refine WL.nil ?_
 refine En.seq ?_
 refine En.region ?_
 refine WL.run ht hn 7 ⟨[sl 0 (.pptr 0 0 (Bk 0)), sl 1 (.v (.int .u8 ch)), sl 43 (.ptr 0 0), sl 47 (.own 1), (49, .sv (.agg [.v (.int .u8 (fch text (wr ((r.pos) + 1)))), B false]))], [.box [.v (.string text), I (r_2.pos), I (r_2.deep), I (r_2.cnt), .own 1] 144 false, rowI 236 FixName.ty (((ar)))]⟩ (by kernel_rfl) ?_
 refine WL.mt0 (K := []) (p := some (2, rowI 236 FixName.ty ([(FixName.mk (fch text (wr ((r.pos) + 1))) false)] : (qfLop0)))) hn (by rfl) (mt_lit (T := FixName.ty) ([(FixName.mk (fch text (wr ((r.pos) + 1))) false)] : (qfLop0)) (mt_bsl 2 (r := cellsOf FixName.ty ([(FixName.mk (fch text (wr ((r.pos) + 1))) false)] : (qfLop0))) ht rfl (by rfl) (by rfl) (by rfl) (by kernel_rfl) (by rfl)) (fun _ h => by cases h) (fun _ => rfl) (fun _ => rfl) (by rfl) (Nat.le_of_ble_eq_true rfl)) (by rfl) (by rfl) (by rfl) ?_
 refine WL.seal (T := FixName.ty) (l := ([(FixName.mk (fch text (wr ((r.pos) + 1))) false)] : (qfLop0))) (e := 236) 2 rfl ?_
 refine WL.run ht hn 0 ⟨[sl 0 (.pptr 0 0 (Bk 0)), sl 1 (.v (.int .u8 ch)), sl 43 (.ptr 0 0), sl 47 (.own 1), (49, .sv (.agg [.v (.int .u8 (fch text (wr ((r.pos) + 1)))), B false])), sl 50 (LS FixName.ty ([(FixName.mk (fch text (wr ((r.pos) + 1))) false)] : (qfLop0)))], [.box [.v (.string text), I (r_2.pos), I (r_2.deep), I (r_2.cnt), .own 1] 144 false, rowI 236 FixName.ty (((ar))), .gone]⟩ (by kernel_rfl) ?_
 refine WL.junk 0 4 (by rfl) ?_
 have hp := h.1
 replace h := h.2
 refine WL.mt (S2 := ⟨[sl 0 (.pptr 0 0 (Bk 0)), sl 1 (.v (.int .u8 ch)), sl 43 (.ptr 0 0), (49, .sv (.agg [.v (.int .u8 (fch text (wr ((r.pos) + 1)))), B false])), sl 50 (LS FixName.ty ([(FixName.mk (fch text (wr ((r.pos) + 1))) false)] : (qfLop0)))], [.box [.v (.string text), I (r_2.pos), I (r_2.deep), I (r_2.cnt), .junk] 144 false, rowI 236 FixName.ty (((ar))), .gone]⟩) (K := [1]) (p := some (1, rowI 236 FixName.ty ((((ar))) ++ ([(FixName.mk (fch text (wr ((r.pos) + 1))) false)] : (qfLop0))))) hn (by rfl) (mt_append (T := FixName.ty) (l := (((ar)))) (es := ([(FixName.mk (fch text (wr ((r.pos) + 1))) false)] : (qfLop0))) ht rfl (by rfl) (by rfl) (by rfl) (by rfl) (by decide) (by rfl) (by rfl) (srcLS (T := FixName.ty) (es := ([(FixName.mk (fch text (wr ((r.pos) + 1))) false)] : (qfLop0))) (fun _ h => by cases h) (by decide) (by rfl)) (by exact hp) (by exact hp.le (by decide))) (by kernel_rfl) (by rfl) (by rfl) (by rfl) ?_
 refine WL.run ht hn 3 ⟨[sl 0 (.pptr 0 0 (Bk 0)), sl 1 (.v (.int .u8 ch))], [.box [.v (.string text), I (r_2.pos), I (r_2.deep), I (r_2.cnt), .own 1] 144 false, rowI 236 FixName.ty ((((ar))) ++ ([(FixName.mk (fch text (wr ((r.pos) + 1))) false)] : (qfLop0))), .gone]⟩ (by kernel_rfl) ?_
 refine WL.nil ?_
 refine En.seq ?_
 refine En.region ?_
 refine WL.run ht hn 1 ⟨[sl 0 (.pptr 0 0 (Bk 0)), sl 1 (.v (.int .u8 ch)), sl 54 (.ptr 0 0)], [.box [.v (.string text), I (r_2.pos), I (r_2.deep), I (r_2.cnt), .own 1] 144 false, rowI 236 FixName.ty ((((ar))) ++ ([(FixName.mk (fch text (wr ((r.pos) + 1))) false)] : (qfLop0))), .gone]⟩ (by kernel_rfl) ?_
 have hp := h.1
 replace h := h.2
 refine splitO ((pF text k 0 ((((ar))) ++ ([(FixName.mk (fch text (wr ((r.pos) + 1))) false)] : (qfLop0))) ⟨(r_2.pos), (r_2.deep), (r_2.cnt)⟩)) (fun hr_4 => ?_) (fun r_3 hr_4 => ?_)
 exact WL.callX (fI0_bad k ih text (r_2.pos) (r_2.deep) (r_2.cnt) ((((ar))) ++ ([(FixName.mk (fch text (wr ((r.pos) + 1))) false)] : (qfLop0))) hp hr_4) en136 (caps := []) [0, 1] (by rfl) rfl (by rfl) (argsAs (by kernel_rfl) (by rfl)) (by kernel_rfl) (by decide) (leftX hpan (h.1 hr_4))
 replace h := h.2 r_3 hr_4
 refine WL.callE (fI0_ok k ih text (r_2.pos) (r_2.deep) (r_2.cnt) ((((ar))) ++ ([(FixName.mk (fch text (wr ((r.pos) + 1))) false)] : (qfLop0))) hp r_3 hr_4) en136 (caps := []) [0, 1] hn (by rfl) rfl (by rfl) (argsAs (by kernel_rfl) (by rfl)) (by kernel_rfl) (by decide) (by rfl) (by rfl) (fun _ _ => ⟨by rfl, _, by rfl, ?_⟩)
 refine WL.run ht hn 1 ⟨[sl 0 (.pptr 0 0 (Bk 0)), sl 1 (.v (.int .u8 ch)), sl 6 (.rd (trR fLab (r_3.1)))], [.box [.v (.string text), I (r_3.2.pos), I (r_3.2.deep), I (r_3.2.cnt), .own 1] 144 false, rowI 236 FixName.ty (((((ar))) ++ ([(FixName.mk (fch text (wr ((r.pos) + 1))) false)] : (qfLop0)))), .gone]⟩ (by kernel_rfl) ?_
 refine WL.nil ?_
 refine En.seq ?_
 have hp_2 := h.1
 replace h := h.2
 refine En.regionD ⟨[sl 0 (.pptr 0 0 (Bk 0)), sl 1 (.v (.int .u8 ch)), sl 6 (.rd (trR fLab (r_3.1)))], [.box [.v (.string text), I (r_3.2.pos), I (r_3.2.deep), I (r_3.2.cnt), .own 1] 144 false, rowI 236 FixName.ty ((((((ar))) ++ ([(FixName.mk (fch text (wr ((r.pos) + 1))) false)] : (qfLop0)))).take ((wr (((((((ar))) ++ ([(FixName.mk (fch text (wr ((r.pos) + 1))) false)] : (qfLop0)))).length : Int) - 1)) : Int).toNat), .gone]⟩ (by kernel_rfl) ?_ ?_
 intro N' hF
 refine RD.have 0 #[true, true, true, true, true, true, true, true, true, true, true, true, true, true, true] ⟨[sl 0 (.pptr 0 0 (Bk 0)), sl 1 (.v (.int .u8 ch)), sl 6 (.rd (trR fLab (r_3.1)))], [.box [.v (.string text), I (r_3.2.pos), I (r_3.2.deep), I (r_3.2.cnt), .own 1] 144 false, rowI 236 FixName.ty ((((((ar))) ++ ([(FixName.mk (fch text (wr ((r.pos) + 1))) false)] : (qfLop0)))).take ((wr (((((((ar))) ++ ([(FixName.mk (fch text (wr ((r.pos) + 1))) false)] : (qfLop0)))).length : Int) - 1)) : Int).toNat), .gone]⟩ (RD.nil (by kernel_rfl) hF) (fun rd74 => ?_)
 refine RD.have 1 #[true, true, true, true, true, true, true, true, true, true, true, true, true, true, false] ⟨[sl 0 (.pptr 0 0 (Bk 0)), sl 1 (.v (.int .u8 ch)), sl 6 (.rd (trR fLab (r_3.1))), sl 67 (.own 1), sl 69 (.ptr 0 4)], [.box [.v (.string text), I (r_3.2.pos), I (r_3.2.deep), I (r_3.2.cnt), .junk] 144 false, rowI 236 FixName.ty ((((((ar))) ++ ([(FixName.mk (fch text (wr ((r.pos) + 1))) false)] : (qfLop0)))).take ((wr (((((((ar))) ++ ([(FixName.mk (fch text (wr ((r.pos) + 1))) false)] : (qfLop0)))).length : Int) - 1)) : Int).toNat), .gone]⟩ ?_ (fun rd73 => ?_)
 refine RD.succ [14] (by kernel_rfl) rfl ⟨⟨_, _, _, rfl, ?_, rfl, rd74⟩, trivial⟩
 exact WL.run ht hn 1 _ (by kernel_rfl) WL.nilI
 refine RD.have 2 #[true, true, true, true, true, true, true, true, true, true, true, true, true, false, false] ⟨[sl 0 (.pptr 0 0 (Bk 0)), sl 1 (.v (.int .u8 ch)), sl 6 (.rd (trR fLab (r_3.1))), sl 67 (.own 1), sl 68 (.ptr 0 0)], [.box [.v (.string text), I (r_3.2.pos), I (r_3.2.deep), I (r_3.2.cnt), .junk] 144 false, rowI 236 FixName.ty ((((((ar))) ++ ([(FixName.mk (fch text (wr ((r.pos) + 1))) false)] : (qfLop0)))).take ((wr (((((((ar))) ++ ([(FixName.mk (fch text (wr ((r.pos) + 1))) false)] : (qfLop0)))).length : Int) - 1)) : Int).toNat), .gone]⟩ ?_ (fun rd72 => ?_)
 refine RD.succ [13] (by kernel_rfl) rfl ⟨⟨_, _, _, rfl, ?_, rfl, rd73⟩, trivial⟩
 exact WL.run ht hn 1 _ (by kernel_rfl) WL.nilI
 refine RD.have 3 #[true, true, true, true, true, true, true, true, true, true, true, true, false, false, false] ⟨[sl 0 (.pptr 0 0 (Bk 0)), sl 1 (.v (.int .u8 ch)), sl 6 (.rd (trR fLab (r_3.1))), sl 56 (.ptr 0 0), sl 67 (.own 1)], [.box [.v (.string text), I (r_3.2.pos), I (r_3.2.deep), I (r_3.2.cnt), .junk] 144 false, rowI 236 FixName.ty ((((((ar))) ++ ([(FixName.mk (fch text (wr ((r.pos) + 1))) false)] : (qfLop0)))).take ((wr (((((((ar))) ++ ([(FixName.mk (fch text (wr ((r.pos) + 1))) false)] : (qfLop0)))).length : Int) - 1)) : Int).toNat), .gone]⟩ ?_ (fun rd71 => ?_)
 refine RD.succ [12] (by kernel_rfl) rfl ⟨⟨_, _, _, rfl, ?_, rfl, rd72⟩, trivial⟩
 exact WL.run ht hn 1 _ (by kernel_rfl) WL.nilI
 refine RD.have 4 #[false, true, true, true, true, true, true, true, true, true, true, true, false, false, false] ⟨[sl 0 (.pptr 0 0 (Bk 0)), sl 1 (.v (.int .u8 ch)), sl 6 (.rd (trR fLab (r_3.1))), sl 67 (.own 1)], [.box [.v (.string text), I (r_3.2.pos), I (r_3.2.deep), I (r_3.2.cnt), .junk] 144 false, rowI 236 FixName.ty ((((((ar))) ++ ([(FixName.mk (fch text (wr ((r.pos) + 1))) false)] : (qfLop0)))).take ((wr (((((((ar))) ++ ([(FixName.mk (fch text (wr ((r.pos) + 1))) false)] : (qfLop0)))).length : Int) - 1)) : Int).toNat), .gone]⟩ ?_ (fun rd70 => ?_)
 refine RD.succ [0] (by kernel_rfl) rfl ⟨⟨_, _, _, rfl, ?_, rfl, rd71⟩, trivial⟩
 exact WL.run ht hn 1 _ (by kernel_rfl) WL.nilI
 refine RD.have 4 #[true, true, true, true, true, true, true, true, true, true, true, false, false, false, false] ⟨[sl 0 (.pptr 0 0 (Bk 0)), sl 1 (.v (.int .u8 ch)), sl 6 (.rd (trR fLab (r_3.1))), sl 56 (.ptr 0 0), sl 60 (.own 1), sl 66 (I (wr (((((((ar))) ++ ([(FixName.mk (fch text (wr ((r.pos) + 1))) false)] : (qfLop0)))).length : Int) - 1)))], [.box [.v (.string text), I (r_3.2.pos), I (r_3.2.deep), I (r_3.2.cnt), .own 1] 144 false, rowI 236 FixName.ty (((((ar))) ++ ([(FixName.mk (fch text (wr ((r.pos) + 1))) false)] : (qfLop0)))), .gone]⟩ ?_ (fun rd69 => ?_)
 refine RD.succ [11] (by kernel_rfl) rfl ⟨⟨_, _, _, rfl, ?_, rfl, rd71⟩, trivial⟩
 refine WL.junk 0 4 (by rfl) ?_
 refine WL.mt (S2 := ⟨[sl 0 (.pptr 0 0 (Bk 0)), sl 1 (.v (.int .u8 ch)), sl 6 (.rd (trR fLab (r_3.1))), sl 56 (.ptr 0 0), sl 66 (I (wr (((((((ar))) ++ ([(FixName.mk (fch text (wr ((r.pos) + 1))) false)] : (qfLop0)))).length : Int) - 1)))], [.box [.v (.string text), I (r_3.2.pos), I (r_3.2.deep), I (r_3.2.cnt), .junk] 144 false, rowI 236 FixName.ty (((((ar))) ++ ([(FixName.mk (fch text (wr ((r.pos) + 1))) false)] : (qfLop0)))), .gone]⟩) (K := [1]) (p := some (1, rowI 236 FixName.ty ((((((ar))) ++ ([(FixName.mk (fch text (wr ((r.pos) + 1))) false)] : (qfLop0)))).take ((wr (((((((ar))) ++ ([(FixName.mk (fch text (wr ((r.pos) + 1))) false)] : (qfLop0)))).length : Int) - 1)) : Int).toNat))) hn (by rfl) (mt_sliceO (T := FixName.ty) (l := (((((ar))) ++ ([(FixName.mk (fch text (wr ((r.pos) + 1))) false)] : (qfLop0))))) (p := 1) (hv := (wr (((((((ar))) ++ ([(FixName.mk (fch text (wr ((r.pos) + 1))) false)] : (qfLop0)))).length : Int) - 1))) ht rfl (by rfl) (by rfl) (by rfl) (by rfl) (by rfl) (by rfl) (by rfl) hp_2) (by kernel_rfl) (by rfl) (by rfl) (by rfl) ?_
 refine WL.nil ?_
 exact sub_ok (by kernel_rfl)
 refine RD.have 5 #[false, true, true, true, true, true, true, true, true, true, true, false, false, false, false] ⟨[sl 0 (.pptr 0 0 (Bk 0)), sl 1 (.v (.int .u8 ch)), sl 6 (.rd (trR fLab (r_3.1))), sl 60 (.own 1), sl 66 (I (wr (((((((ar))) ++ ([(FixName.mk (fch text (wr ((r.pos) + 1))) false)] : (qfLop0)))).length : Int) - 1)))], [.box [.v (.string text), I (r_3.2.pos), I (r_3.2.deep), I (r_3.2.cnt), .own 1] 144 false, rowI 236 FixName.ty (((((ar))) ++ ([(FixName.mk (fch text (wr ((r.pos) + 1))) false)] : (qfLop0)))), .gone]⟩ ?_ (fun rd68 => ?_)
 refine RD.succ [0, 11] (by kernel_rfl) rfl ⟨⟨_, _, _, rfl, ?_, rfl, rd69⟩, ⟨_, _, _, rfl, ?_, rfl, rd70⟩, trivial⟩
 exact WL.run ht hn 1 _ (by kernel_rfl) WL.nilI
 refine WL.junk 0 4 (by rfl) ?_
 refine WL.mt (S2 := ⟨[sl 0 (.pptr 0 0 (Bk 0)), sl 1 (.v (.int .u8 ch)), sl 6 (.rd (trR fLab (r_3.1))), sl 66 (I (wr (((((((ar))) ++ ([(FixName.mk (fch text (wr ((r.pos) + 1))) false)] : (qfLop0)))).length : Int) - 1)))], [.box [.v (.string text), I (r_3.2.pos), I (r_3.2.deep), I (r_3.2.cnt), .junk] 144 false, rowI 236 FixName.ty (((((ar))) ++ ([(FixName.mk (fch text (wr ((r.pos) + 1))) false)] : (qfLop0)))), .gone]⟩) (K := [1]) (p := some (1, rowI 236 FixName.ty ((((((ar))) ++ ([(FixName.mk (fch text (wr ((r.pos) + 1))) false)] : (qfLop0)))).take ((wr (((((((ar))) ++ ([(FixName.mk (fch text (wr ((r.pos) + 1))) false)] : (qfLop0)))).length : Int) - 1)) : Int).toNat))) hn (by rfl) (mt_sliceO (T := FixName.ty) (l := (((((ar))) ++ ([(FixName.mk (fch text (wr ((r.pos) + 1))) false)] : (qfLop0))))) (p := 1) (hv := (wr (((((((ar))) ++ ([(FixName.mk (fch text (wr ((r.pos) + 1))) false)] : (qfLop0)))).length : Int) - 1))) ht rfl (by rfl) (by rfl) (by rfl) (by rfl) (by rfl) (by rfl) (by rfl) hp_2) (by kernel_rfl) (by rfl) (by rfl) (by rfl) ?_
 refine WL.nil ?_
 exact sub_ok (by kernel_rfl)
 refine RD.have 5 #[true, true, true, true, false, true, true, true, true, true, true, false, false, false, false] ⟨[sl 0 (.pptr 0 0 (Bk 0)), sl 1 (.v (.int .u8 ch)), sl 6 (.rd (trR fLab (r_3.1))), sl 56 (.ptr 0 0), sl 59 (.ptr 0 4), sl 66 (I (wr (((((((ar))) ++ ([(FixName.mk (fch text (wr ((r.pos) + 1))) false)] : (qfLop0)))).length : Int) - 1)))], [.box [.v (.string text), I (r_3.2.pos), I (r_3.2.deep), I (r_3.2.cnt), .own 1] 144 false, rowI 236 FixName.ty (((((ar))) ++ ([(FixName.mk (fch text (wr ((r.pos) + 1))) false)] : (qfLop0)))), .gone]⟩ ?_ (fun rd67 => ?_)
 refine RD.succ [4] (by kernel_rfl) rfl ⟨⟨_, _, _, rfl, ?_, rfl, rd69⟩, trivial⟩
 exact WL.run ht hn 1 _ (by kernel_rfl) WL.nilI
 refine RD.have 5 #[true, true, true, true, true, true, true, true, true, true, false, false, false, false, false] ⟨[sl 0 (.pptr 0 0 (Bk 0)), sl 1 (.v (.int .u8 ch)), sl 6 (.rd (trR fLab (r_3.1))), sl 56 (.ptr 0 0), sl 60 (.own 1), sl 65 (I ((((((ar))) ++ ([(FixName.mk (fch text (wr ((r.pos) + 1))) false)] : (qfLop0)))).length : Int))], [.box [.v (.string text), I (r_3.2.pos), I (r_3.2.deep), I (r_3.2.cnt), .own 1] 144 false, rowI 236 FixName.ty (((((ar))) ++ ([(FixName.mk (fch text (wr ((r.pos) + 1))) false)] : (qfLop0)))), .gone]⟩ ?_ (fun rd66 => ?_)
 refine RD.succ [10] (by kernel_rfl) rfl ⟨⟨_, _, _, rfl, ?_, rfl, rd69⟩, trivial⟩
 exact WL.run ht hn 1 _ (by kernel_rfl) WL.nilI
 refine RD.have 6 #[false, true, true, true, false, true, true, true, true, true, true, false, false, false, false] ⟨[sl 0 (.pptr 0 0 (Bk 0)), sl 1 (.v (.int .u8 ch)), sl 6 (.rd (trR fLab (r_3.1))), sl 59 (.ptr 0 4), sl 66 (I (wr (((((((ar))) ++ ([(FixName.mk (fch text (wr ((r.pos) + 1))) false)] : (qfLop0)))).length : Int) - 1)))], [.box [.v (.string text), I (r_3.2.pos), I (r_3.2.deep), I (r_3.2.cnt), .own 1] 144 false, rowI 236 FixName.ty (((((ar))) ++ ([(FixName.mk (fch text (wr ((r.pos) + 1))) false)] : (qfLop0)))), .gone]⟩ ?_ (fun rd65 => ?_)
 refine RD.succ [0, 4] (by kernel_rfl) rfl ⟨⟨_, _, _, rfl, ?_, rfl, rd67⟩, ⟨_, _, _, rfl, ?_, rfl, rd68⟩, trivial⟩
 exact WL.run ht hn 1 _ (by kernel_rfl) WL.nilI
 exact WL.run ht hn 1 _ (by kernel_rfl) WL.nilI
 refine RD.have 6 #[false, true, true, true, true, true, true, true, true, true, false, false, false, false, false] ⟨[sl 0 (.pptr 0 0 (Bk 0)), sl 1 (.v (.int .u8 ch)), sl 6 (.rd (trR fLab (r_3.1))), sl 60 (.own 1), sl 65 (I ((((((ar))) ++ ([(FixName.mk (fch text (wr ((r.pos) + 1))) false)] : (qfLop0)))).length : Int))], [.box [.v (.string text), I (r_3.2.pos), I (r_3.2.deep), I (r_3.2.cnt), .own 1] 144 false, rowI 236 FixName.ty (((((ar))) ++ ([(FixName.mk (fch text (wr ((r.pos) + 1))) false)] : (qfLop0)))), .gone]⟩ ?_ (fun rd64 => ?_)
 refine RD.succ [0, 10] (by kernel_rfl) rfl ⟨⟨_, _, _, rfl, ?_, rfl, rd66⟩, ⟨_, _, _, rfl, ?_, rfl, rd68⟩, trivial⟩
 exact WL.run ht hn 1 _ (by kernel_rfl) WL.nilI
 exact WL.run ht hn 1 _ (by kernel_rfl) WL.nilI
 refine RD.have 6 #[true, true, true, false, false, true, true, true, true, true, true, false, false, false, false] ⟨[sl 0 (.pptr 0 0 (Bk 0)), sl 1 (.v (.int .u8 ch)), sl 6 (.rd (trR fLab (r_3.1))), sl 56 (.ptr 0 0), sl 58 (.ptr 0 0), sl 66 (I (wr (((((((ar))) ++ ([(FixName.mk (fch text (wr ((r.pos) + 1))) false)] : (qfLop0)))).length : Int) - 1)))], [.box [.v (.string text), I (r_3.2.pos), I (r_3.2.deep), I (r_3.2.cnt), .own 1] 144 false, rowI 236 FixName.ty (((((ar))) ++ ([(FixName.mk (fch text (wr ((r.pos) + 1))) false)] : (qfLop0)))), .gone]⟩ ?_ (fun rd63 => ?_)
 refine RD.succ [3] (by kernel_rfl) rfl ⟨⟨_, _, _, rfl, ?_, rfl, rd67⟩, trivial⟩
 exact WL.run ht hn 1 _ (by kernel_rfl) WL.nilI
 refine RD.have 6 #[true, true, true, true, false, true, true, true, true, true, false, false, false, false, false] ⟨[sl 0 (.pptr 0 0 (Bk 0)), sl 1 (.v (.int .u8 ch)), sl 6 (.rd (trR fLab (r_3.1))), sl 56 (.ptr 0 0), sl 59 (.ptr 0 4), sl 65 (I ((((((ar))) ++ ([(FixName.mk (fch text (wr ((r.pos) + 1))) false)] : (qfLop0)))).length : Int))], [.box [.v (.string text), I (r_3.2.pos), I (r_3.2.deep), I (r_3.2.cnt), .own 1] 144 false, rowI 236 FixName.ty (((((ar))) ++ ([(FixName.mk (fch text (wr ((r.pos) + 1))) false)] : (qfLop0)))), .gone]⟩ ?_ (fun rd62 => ?_)
 refine RD.succ [4, 10] (by kernel_rfl) rfl ⟨⟨_, _, _, rfl, ?_, rfl, rd66⟩, ⟨_, _, _, rfl, ?_, rfl, rd67⟩, trivial⟩
 exact WL.run ht hn 1 _ (by kernel_rfl) WL.nilI
 exact WL.run ht hn 1 _ (by kernel_rfl) WL.nilI
 refine RD.have 6 #[true, true, true, true, true, true, true, true, true, false, false, false, false, false, false] ⟨[sl 0 (.pptr 0 0 (Bk 0)), sl 1 (.v (.int .u8 ch)), sl 6 (.rd (trR fLab (r_3.1))), sl 56 (.ptr 0 0), sl 60 (.own 1), sl 64 (.own 1)], [.box [.v (.string text), I (r_3.2.pos), I (r_3.2.deep), I (r_3.2.cnt), .own 1] 144 false, rowI 236 FixName.ty (((((ar))) ++ ([(FixName.mk (fch text (wr ((r.pos) + 1))) false)] : (qfLop0)))), .gone]⟩ ?_ (fun rd61 => ?_)
 refine RD.succ [9] (by kernel_rfl) rfl ⟨⟨_, _, _, rfl, ?_, rfl, rd66⟩, trivial⟩
 exact WL.run ht hn 1 _ (by kernel_rfl) WL.nilI
 refine RD.have 7 #[false, true, true, false, false, true, true, true, true, true, true, false, false, false, false] ⟨[sl 0 (.pptr 0 0 (Bk 0)), sl 1 (.v (.int .u8 ch)), sl 6 (.rd (trR fLab (r_3.1))), sl 58 (.ptr 0 0), sl 66 (I (wr (((((((ar))) ++ ([(FixName.mk (fch text (wr ((r.pos) + 1))) false)] : (qfLop0)))).length : Int) - 1)))], [.box [.v (.string text), I (r_3.2.pos), I (r_3.2.deep), I (r_3.2.cnt), .own 1] 144 false, rowI 236 FixName.ty (((((ar))) ++ ([(FixName.mk (fch text (wr ((r.pos) + 1))) false)] : (qfLop0)))), .gone]⟩ ?_ (fun rd60 => ?_)
 refine RD.succ [0, 3] (by kernel_rfl) rfl ⟨⟨_, _, _, rfl, ?_, rfl, rd63⟩, ⟨_, _, _, rfl, ?_, rfl, rd65⟩, trivial⟩
 exact WL.run ht hn 1 _ (by kernel_rfl) WL.nilI
 exact WL.run ht hn 1 _ (by kernel_rfl) WL.nilI
 refine RD.have 7 #[false, true, true, true, false, true, true, true, true, true, false, false, false, false, false] ⟨[sl 0 (.pptr 0 0 (Bk 0)), sl 1 (.v (.int .u8 ch)), sl 6 (.rd (trR fLab (r_3.1))), sl 59 (.ptr 0 4), sl 65 (I ((((((ar))) ++ ([(FixName.mk (fch text (wr ((r.pos) + 1))) false)] : (qfLop0)))).length : Int))], [.box [.v (.string text), I (r_3.2.pos), I (r_3.2.deep), I (r_3.2.cnt), .own 1] 144 false, rowI 236 FixName.ty (((((ar))) ++ ([(FixName.mk (fch text (wr ((r.pos) + 1))) false)] : (qfLop0)))), .gone]⟩ ?_ (fun rd59 => ?_)
 refine RD.succ [0, 4, 10] (by kernel_rfl) rfl ⟨⟨_, _, _, rfl, ?_, rfl, rd62⟩, ⟨_, _, _, rfl, ?_, rfl, rd64⟩, ⟨_, _, _, rfl, ?_, rfl, rd65⟩, trivial⟩
 exact WL.run ht hn 1 _ (by kernel_rfl) WL.nilI
 exact WL.run ht hn 1 _ (by kernel_rfl) WL.nilI
 exact WL.run ht hn 1 _ (by kernel_rfl) WL.nilI
 refine RD.have 7 #[false, true, true, true, true, true, true, true, true, false, false, false, false, false, false] ⟨[sl 0 (.pptr 0 0 (Bk 0)), sl 1 (.v (.int .u8 ch)), sl 6 (.rd (trR fLab (r_3.1))), sl 60 (.own 1), sl 64 (.own 1)], [.box [.v (.string text), I (r_3.2.pos), I (r_3.2.deep), I (r_3.2.cnt), .own 1] 144 false, rowI 236 FixName.ty (((((ar))) ++ ([(FixName.mk (fch text (wr ((r.pos) + 1))) false)] : (qfLop0)))), .gone]⟩ ?_ (fun rd58 => ?_)
 refine RD.succ [0, 9] (by kernel_rfl) rfl ⟨⟨_, _, _, rfl, ?_, rfl, rd61⟩, ⟨_, _, _, rfl, ?_, rfl, rd64⟩, trivial⟩
 exact WL.run ht hn 1 _ (by kernel_rfl) WL.nilI
 exact WL.run ht hn 1 _ (by kernel_rfl) WL.nilI
 refine RD.have 7 #[true, true, false, false, false, true, true, true, true, true, true, false, false, false, false] ⟨[sl 0 (.pptr 0 0 (Bk 0)), sl 1 (.v (.int .u8 ch)), sl 6 (.rd (trR fLab (r_3.1))), sl 56 (.ptr 0 0), sl 57 (.ptr 0 0), sl 66 (I (wr (((((((ar))) ++ ([(FixName.mk (fch text (wr ((r.pos) + 1))) false)] : (qfLop0)))).length : Int) - 1)))], [.box [.v (.string text), I (r_3.2.pos), I (r_3.2.deep), I (r_3.2.cnt), .own 1] 144 false, rowI 236 FixName.ty (((((ar))) ++ ([(FixName.mk (fch text (wr ((r.pos) + 1))) false)] : (qfLop0)))), .gone]⟩ ?_ (fun rd57 => ?_)
 refine RD.succ [2] (by kernel_rfl) rfl ⟨⟨_, _, _, rfl, ?_, rfl, rd63⟩, trivial⟩
 exact WL.run ht hn 1 _ (by kernel_rfl) WL.nilI
 refine RD.have 7 #[true, true, true, false, false, true, true, true, true, true, false, false, false, false, false] ⟨[sl 0 (.pptr 0 0 (Bk 0)), sl 1 (.v (.int .u8 ch)), sl 6 (.rd (trR fLab (r_3.1))), sl 56 (.ptr 0 0), sl 58 (.ptr 0 0), sl 65 (I ((((((ar))) ++ ([(FixName.mk (fch text (wr ((r.pos) + 1))) false)] : (qfLop0)))).length : Int))], [.box [.v (.string text), I (r_3.2.pos), I (r_3.2.deep), I (r_3.2.cnt), .own 1] 144 false, rowI 236 FixName.ty (((((ar))) ++ ([(FixName.mk (fch text (wr ((r.pos) + 1))) false)] : (qfLop0)))), .gone]⟩ ?_ (fun rd56 => ?_)
 refine RD.succ [3, 10] (by kernel_rfl) rfl ⟨⟨_, _, _, rfl, ?_, rfl, rd62⟩, ⟨_, _, _, rfl, ?_, rfl, rd63⟩, trivial⟩
 exact WL.run ht hn 1 _ (by kernel_rfl) WL.nilI
 exact WL.run ht hn 1 _ (by kernel_rfl) WL.nilI
 refine RD.have 7 #[true, true, true, true, false, true, true, true, true, false, false, false, false, false, false] ⟨[sl 0 (.pptr 0 0 (Bk 0)), sl 1 (.v (.int .u8 ch)), sl 6 (.rd (trR fLab (r_3.1))), sl 56 (.ptr 0 0), sl 59 (.ptr 0 4), sl 64 (.own 1)], [.box [.v (.string text), I (r_3.2.pos), I (r_3.2.deep), I (r_3.2.cnt), .own 1] 144 false, rowI 236 FixName.ty (((((ar))) ++ ([(FixName.mk (fch text (wr ((r.pos) + 1))) false)] : (qfLop0)))), .gone]⟩ ?_ (fun rd55 => ?_)
 refine RD.succ [4, 9] (by kernel_rfl) rfl ⟨⟨_, _, _, rfl, ?_, rfl, rd61⟩, ⟨_, _, _, rfl, ?_, rfl, rd62⟩, trivial⟩
 exact WL.run ht hn 1 _ (by kernel_rfl) WL.nilI
 exact WL.run ht hn 1 _ (by kernel_rfl) WL.nilI
 refine RD.have 7 #[true, true, true, true, true, true, true, true, false, false, false, false, false, false, false] ⟨[sl 0 (.pptr 0 0 (Bk 0)), sl 1 (.v (.int .u8 ch)), sl 6 (.rd (trR fLab (r_3.1))), sl 56 (.ptr 0 0), sl 60 (.own 1), sl 63 (.ptr 0 4)], [.box [.v (.string text), I (r_3.2.pos), I (r_3.2.deep), I (r_3.2.cnt), .own 1] 144 false, rowI 236 FixName.ty (((((ar))) ++ ([(FixName.mk (fch text (wr ((r.pos) + 1))) false)] : (qfLop0)))), .gone]⟩ ?_ (fun rd54 => ?_)
 refine RD.succ [8] (by kernel_rfl) rfl ⟨⟨_, _, _, rfl, ?_, rfl, rd61⟩, trivial⟩
 exact WL.run ht hn 1 _ (by kernel_rfl) WL.nilI
 refine RD.have 8 #[false, true, false, false, false, true, true, true, true, true, true, false, false, false, false] ⟨[sl 0 (.pptr 0 0 (Bk 0)), sl 1 (.v (.int .u8 ch)), sl 6 (.rd (trR fLab (r_3.1))), sl 57 (.ptr 0 0), sl 66 (I (wr (((((((ar))) ++ ([(FixName.mk (fch text (wr ((r.pos) + 1))) false)] : (qfLop0)))).length : Int) - 1)))], [.box [.v (.string text), I (r_3.2.pos), I (r_3.2.deep), I (r_3.2.cnt), .own 1] 144 false, rowI 236 FixName.ty (((((ar))) ++ ([(FixName.mk (fch text (wr ((r.pos) + 1))) false)] : (qfLop0)))), .gone]⟩ ?_ (fun rd53 => ?_)
 refine RD.succ [0, 2] (by kernel_rfl) rfl ⟨⟨_, _, _, rfl, ?_, rfl, rd57⟩, ⟨_, _, _, rfl, ?_, rfl, rd60⟩, trivial⟩
 exact WL.run ht hn 1 _ (by kernel_rfl) WL.nilI
 exact WL.run ht hn 1 _ (by kernel_rfl) WL.nilI
 refine RD.have 8 #[false, true, true, false, false, true, true, true, true, true, false, false, false, false, false] ⟨[sl 0 (.pptr 0 0 (Bk 0)), sl 1 (.v (.int .u8 ch)), sl 6 (.rd (trR fLab (r_3.1))), sl 58 (.ptr 0 0), sl 65 (I ((((((ar))) ++ ([(FixName.mk (fch text (wr ((r.pos) + 1))) false)] : (qfLop0)))).length : Int))], [.box [.v (.string text), I (r_3.2.pos), I (r_3.2.deep), I (r_3.2.cnt), .own 1] 144 false, rowI 236 FixName.ty (((((ar))) ++ ([(FixName.mk (fch text (wr ((r.pos) + 1))) false)] : (qfLop0)))), .gone]⟩ ?_ (fun rd52 => ?_)
 refine RD.succ [0, 3, 10] (by kernel_rfl) rfl ⟨⟨_, _, _, rfl, ?_, rfl, rd56⟩, ⟨_, _, _, rfl, ?_, rfl, rd59⟩, ⟨_, _, _, rfl, ?_, rfl, rd60⟩, trivial⟩
 exact WL.run ht hn 1 _ (by kernel_rfl) WL.nilI
 exact WL.run ht hn 1 _ (by kernel_rfl) WL.nilI
 exact WL.run ht hn 1 _ (by kernel_rfl) WL.nilI
 refine RD.have 8 #[false, true, true, true, false, true, true, true, true, false, false, false, false, false, false] ⟨[sl 0 (.pptr 0 0 (Bk 0)), sl 1 (.v (.int .u8 ch)), sl 6 (.rd (trR fLab (r_3.1))), sl 59 (.ptr 0 4), sl 64 (.own 1)], [.box [.v (.string text), I (r_3.2.pos), I (r_3.2.deep), I (r_3.2.cnt), .own 1] 144 false, rowI 236 FixName.ty (((((ar))) ++ ([(FixName.mk (fch text (wr ((r.pos) + 1))) false)] : (qfLop0)))), .gone]⟩ ?_ (fun rd51 => ?_)
 refine RD.succ [0, 4, 9] (by kernel_rfl) rfl ⟨⟨_, _, _, rfl, ?_, rfl, rd55⟩, ⟨_, _, _, rfl, ?_, rfl, rd58⟩, ⟨_, _, _, rfl, ?_, rfl, rd59⟩, trivial⟩
 exact WL.run ht hn 1 _ (by kernel_rfl) WL.nilI
 exact WL.run ht hn 1 _ (by kernel_rfl) WL.nilI
 exact WL.run ht hn 1 _ (by kernel_rfl) WL.nilI
 refine RD.have 8 #[false, true, true, true, true, true, true, true, false, false, false, false, false, false, false] ⟨[sl 0 (.pptr 0 0 (Bk 0)), sl 1 (.v (.int .u8 ch)), sl 6 (.rd (trR fLab (r_3.1))), sl 60 (.own 1), sl 63 (.ptr 0 4)], [.box [.v (.string text), I (r_3.2.pos), I (r_3.2.deep), I (r_3.2.cnt), .own 1] 144 false, rowI 236 FixName.ty (((((ar))) ++ ([(FixName.mk (fch text (wr ((r.pos) + 1))) false)] : (qfLop0)))), .gone]⟩ ?_ (fun rd50 => ?_)
 refine RD.succ [0, 8] (by kernel_rfl) rfl ⟨⟨_, _, _, rfl, ?_, rfl, rd54⟩, ⟨_, _, _, rfl, ?_, rfl, rd58⟩, trivial⟩
 exact WL.run ht hn 1 _ (by kernel_rfl) WL.nilI
 exact WL.run ht hn 1 _ (by kernel_rfl) WL.nilI
 refine RD.have 8 #[true, false, false, false, false, true, true, true, true, true, true, false, false, false, false] ⟨[sl 0 (.pptr 0 0 (Bk 0)), sl 1 (.v (.int .u8 ch)), sl 6 (.rd (trR fLab (r_3.1))), sl 56 (.ptr 0 0), sl 66 (I (wr (((((((ar))) ++ ([(FixName.mk (fch text (wr ((r.pos) + 1))) false)] : (qfLop0)))).length : Int) - 1)))], [.box [.v (.string text), I (r_3.2.pos), I (r_3.2.deep), I (r_3.2.cnt), .own 1] 144 false, rowI 236 FixName.ty (((((ar))) ++ ([(FixName.mk (fch text (wr ((r.pos) + 1))) false)] : (qfLop0)))), .gone]⟩ ?_ (fun rd49 => ?_)
 refine RD.succ [1] (by kernel_rfl) rfl ⟨⟨_, _, _, rfl, ?_, rfl, rd57⟩, trivial⟩
 exact WL.run ht hn 1 _ (by kernel_rfl) WL.nilI
 refine RD.have 8 #[true, true, false, false, false, true, true, true, true, true, false, false, false, false, false] ⟨[sl 0 (.pptr 0 0 (Bk 0)), sl 1 (.v (.int .u8 ch)), sl 6 (.rd (trR fLab (r_3.1))), sl 56 (.ptr 0 0), sl 57 (.ptr 0 0), sl 65 (I ((((((ar))) ++ ([(FixName.mk (fch text (wr ((r.pos) + 1))) false)] : (qfLop0)))).length : Int))], [.box [.v (.string text), I (r_3.2.pos), I (r_3.2.deep), I (r_3.2.cnt), .own 1] 144 false, rowI 236 FixName.ty (((((ar))) ++ ([(FixName.mk (fch text (wr ((r.pos) + 1))) false)] : (qfLop0)))), .gone]⟩ ?_ (fun rd48 => ?_)
 refine RD.succ [2, 10] (by kernel_rfl) rfl ⟨⟨_, _, _, rfl, ?_, rfl, rd56⟩, ⟨_, _, _, rfl, ?_, rfl, rd57⟩, trivial⟩
 exact WL.run ht hn 1 _ (by kernel_rfl) WL.nilI
 exact WL.run ht hn 1 _ (by kernel_rfl) WL.nilI
 refine RD.have 8 #[true, true, true, false, false, true, true, true, true, false, false, false, false, false, false] ⟨[sl 0 (.pptr 0 0 (Bk 0)), sl 1 (.v (.int .u8 ch)), sl 6 (.rd (trR fLab (r_3.1))), sl 56 (.ptr 0 0), sl 58 (.ptr 0 0), sl 64 (.own 1)], [.box [.v (.string text), I (r_3.2.pos), I (r_3.2.deep), I (r_3.2.cnt), .own 1] 144 false, rowI 236 FixName.ty (((((ar))) ++ ([(FixName.mk (fch text (wr ((r.pos) + 1))) false)] : (qfLop0)))), .gone]⟩ ?_ (fun rd47 => ?_)
 refine RD.succ [3, 9] (by kernel_rfl) rfl ⟨⟨_, _, _, rfl, ?_, rfl, rd55⟩, ⟨_, _, _, rfl, ?_, rfl, rd56⟩, trivial⟩
 exact WL.run ht hn 1 _ (by kernel_rfl) WL.nilI
 exact WL.run ht hn 1 _ (by kernel_rfl) WL.nilI
 refine RD.have 8 #[true, true, true, true, false, true, true, true, false, false, false, false, false, false, false] ⟨[sl 0 (.pptr 0 0 (Bk 0)), sl 1 (.v (.int .u8 ch)), sl 6 (.rd (trR fLab (r_3.1))), sl 56 (.ptr 0 0), sl 59 (.ptr 0 4), sl 63 (.ptr 0 4)], [.box [.v (.string text), I (r_3.2.pos), I (r_3.2.deep), I (r_3.2.cnt), .own 1] 144 false, rowI 236 FixName.ty (((((ar))) ++ ([(FixName.mk (fch text (wr ((r.pos) + 1))) false)] : (qfLop0)))), .gone]⟩ ?_ (fun rd46 => ?_)
 refine RD.succ [4, 8] (by kernel_rfl) rfl ⟨⟨_, _, _, rfl, ?_, rfl, rd54⟩, ⟨_, _, _, rfl, ?_, rfl, rd55⟩, trivial⟩
 exact WL.run ht hn 1 _ (by kernel_rfl) WL.nilI
 exact WL.run ht hn 1 _ (by kernel_rfl) WL.nilI
 refine RD.have 8 #[true, true, true, true, true, true, true, false, false, false, false, false, false, false, false] ⟨[sl 0 (.pptr 0 0 (Bk 0)), sl 1 (.v (.int .u8 ch)), sl 6 (.rd (trR fLab (r_3.1))), sl 56 (.ptr 0 0), sl 60 (.own 1), sl 62 (.ptr 0 0)], [.box [.v (.string text), I (r_3.2.pos), I (r_3.2.deep), I (r_3.2.cnt), .own 1] 144 false, rowI 236 FixName.ty (((((ar))) ++ ([(FixName.mk (fch text (wr ((r.pos) + 1))) false)] : (qfLop0)))), .gone]⟩ ?_ (fun rd45 => ?_)
 refine RD.succ [7] (by kernel_rfl) rfl ⟨⟨_, _, _, rfl, ?_, rfl, rd54⟩, trivial⟩
 exact WL.run ht hn 1 _ (by kernel_rfl) WL.nilI
 refine RD.have 9 #[false, false, false, false, false, true, true, true, true, true, true, false, false, false, false] ⟨[sl 0 (.pptr 0 0 (Bk 0)), sl 1 (.v (.int .u8 ch)), sl 6 (.rd (trR fLab (r_3.1))), sl 66 (I (wr (((((((ar))) ++ ([(FixName.mk (fch text (wr ((r.pos) + 1))) false)] : (qfLop0)))).length : Int) - 1)))], [.box [.v (.string text), I (r_3.2.pos), I (r_3.2.deep), I (r_3.2.cnt), .own 1] 144 false, rowI 236 FixName.ty (((((ar))) ++ ([(FixName.mk (fch text (wr ((r.pos) + 1))) false)] : (qfLop0)))), .gone]⟩ ?_ (fun rd44 => ?_)
 refine RD.succ [0, 1] (by kernel_rfl) rfl ⟨⟨_, _, _, rfl, ?_, rfl, rd49⟩, ⟨_, _, _, rfl, ?_, rfl, rd53⟩, trivial⟩
 exact WL.run ht hn 1 _ (by kernel_rfl) WL.nilI
 exact WL.run ht hn 1 _ (by kernel_rfl) WL.nilI
 refine RD.have 9 #[false, true, false, false, false, true, true, true, true, true, false, false, false, false, false] ⟨[sl 0 (.pptr 0 0 (Bk 0)), sl 1 (.v (.int .u8 ch)), sl 6 (.rd (trR fLab (r_3.1))), sl 57 (.ptr 0 0), sl 65 (I ((((((ar))) ++ ([(FixName.mk (fch text (wr ((r.pos) + 1))) false)] : (qfLop0)))).length : Int))], [.box [.v (.string text), I (r_3.2.pos), I (r_3.2.deep), I (r_3.2.cnt), .own 1] 144 false, rowI 236 FixName.ty (((((ar))) ++ ([(FixName.mk (fch text (wr ((r.pos) + 1))) false)] : (qfLop0)))), .gone]⟩ ?_ (fun rd43 => ?_)
 refine RD.succ [0, 2, 10] (by kernel_rfl) rfl ⟨⟨_, _, _, rfl, ?_, rfl, rd48⟩, ⟨_, _, _, rfl, ?_, rfl, rd52⟩, ⟨_, _, _, rfl, ?_, rfl, rd53⟩, trivial⟩
 exact WL.run ht hn 1 _ (by kernel_rfl) WL.nilI
 exact WL.run ht hn 1 _ (by kernel_rfl) WL.nilI
 exact WL.run ht hn 1 _ (by kernel_rfl) WL.nilI
 refine RD.have 9 #[false, true, true, false, false, true, true, true, true, false, false, false, false, false, false] ⟨[sl 0 (.pptr 0 0 (Bk 0)), sl 1 (.v (.int .u8 ch)), sl 6 (.rd (trR fLab (r_3.1))), sl 58 (.ptr 0 0), sl 64 (.own 1)], [.box [.v (.string text), I (r_3.2.pos), I (r_3.2.deep), I (r_3.2.cnt), .own 1] 144 false, rowI 236 FixName.ty (((((ar))) ++ ([(FixName.mk (fch text (wr ((r.pos) + 1))) false)] : (qfLop0)))), .gone]⟩ ?_ (fun rd42 => ?_)
 refine RD.succ [0, 3, 9] (by kernel_rfl) rfl ⟨⟨_, _, _, rfl, ?_, rfl, rd47⟩, ⟨_, _, _, rfl, ?_, rfl, rd51⟩, ⟨_, _, _, rfl, ?_, rfl, rd52⟩, trivial⟩
 exact WL.run ht hn 1 _ (by kernel_rfl) WL.nilI
 exact WL.run ht hn 1 _ (by kernel_rfl) WL.nilI
 exact WL.run ht hn 1 _ (by kernel_rfl) WL.nilI
 refine RD.have 9 #[false, true, true, true, false, true, true, true, false, false, false, false, false, false, false] ⟨[sl 0 (.pptr 0 0 (Bk 0)), sl 1 (.v (.int .u8 ch)), sl 6 (.rd (trR fLab (r_3.1))), sl 59 (.ptr 0 4), sl 63 (.ptr 0 4)], [.box [.v (.string text), I (r_3.2.pos), I (r_3.2.deep), I (r_3.2.cnt), .own 1] 144 false, rowI 236 FixName.ty (((((ar))) ++ ([(FixName.mk (fch text (wr ((r.pos) + 1))) false)] : (qfLop0)))), .gone]⟩ ?_ (fun rd41 => ?_)
 refine RD.succ [0, 4, 8] (by kernel_rfl) rfl ⟨⟨_, _, _, rfl, ?_, rfl, rd46⟩, ⟨_, _, _, rfl, ?_, rfl, rd50⟩, ⟨_, _, _, rfl, ?_, rfl, rd51⟩, trivial⟩
 exact WL.run ht hn 1 _ (by kernel_rfl) WL.nilI
 exact WL.run ht hn 1 _ (by kernel_rfl) WL.nilI
 exact WL.run ht hn 1 _ (by kernel_rfl) WL.nilI
 refine RD.have 9 #[false, true, true, true, true, true, true, false, false, false, false, false, false, false, false] ⟨[sl 0 (.pptr 0 0 (Bk 0)), sl 1 (.v (.int .u8 ch)), sl 6 (.rd (trR fLab (r_3.1))), sl 60 (.own 1), sl 62 (.ptr 0 0)], [.box [.v (.string text), I (r_3.2.pos), I (r_3.2.deep), I (r_3.2.cnt), .own 1] 144 false, rowI 236 FixName.ty (((((ar))) ++ ([(FixName.mk (fch text (wr ((r.pos) + 1))) false)] : (qfLop0)))), .gone]⟩ ?_ (fun rd40 => ?_)
 refine RD.succ [0, 7] (by kernel_rfl) rfl ⟨⟨_, _, _, rfl, ?_, rfl, rd45⟩, ⟨_, _, _, rfl, ?_, rfl, rd50⟩, trivial⟩
 exact WL.run ht hn 1 _ (by kernel_rfl) WL.nilI
 exact WL.run ht hn 1 _ (by kernel_rfl) WL.nilI
 refine RD.have 9 #[true, false, false, false, false, true, true, true, true, true, false, false, false, false, false] ⟨[sl 0 (.pptr 0 0 (Bk 0)), sl 1 (.v (.int .u8 ch)), sl 6 (.rd (trR fLab (r_3.1))), sl 56 (.ptr 0 0), sl 65 (I ((((((ar))) ++ ([(FixName.mk (fch text (wr ((r.pos) + 1))) false)] : (qfLop0)))).length : Int))], [.box [.v (.string text), I (r_3.2.pos), I (r_3.2.deep), I (r_3.2.cnt), .own 1] 144 false, rowI 236 FixName.ty (((((ar))) ++ ([(FixName.mk (fch text (wr ((r.pos) + 1))) false)] : (qfLop0)))), .gone]⟩ ?_ (fun rd39 => ?_)
 refine RD.succ [1, 10] (by kernel_rfl) rfl ⟨⟨_, _, _, rfl, ?_, rfl, rd48⟩, ⟨_, _, _, rfl, ?_, rfl, rd49⟩, trivial⟩
 exact WL.run ht hn 1 _ (by kernel_rfl) WL.nilI
 exact WL.run ht hn 1 _ (by kernel_rfl) WL.nilI
 refine RD.have 9 #[true, true, false, false, false, true, true, true, true, false, false, false, false, false, false] ⟨[sl 0 (.pptr 0 0 (Bk 0)), sl 1 (.v (.int .u8 ch)), sl 6 (.rd (trR fLab (r_3.1))), sl 56 (.ptr 0 0), sl 57 (.ptr 0 0), sl 64 (.own 1)], [.box [.v (.string text), I (r_3.2.pos), I (r_3.2.deep), I (r_3.2.cnt), .own 1] 144 false, rowI 236 FixName.ty (((((ar))) ++ ([(FixName.mk (fch text (wr ((r.pos) + 1))) false)] : (qfLop0)))), .gone]⟩ ?_ (fun rd38 => ?_)
 refine RD.succ [2, 9] (by kernel_rfl) rfl ⟨⟨_, _, _, rfl, ?_, rfl, rd47⟩, ⟨_, _, _, rfl, ?_, rfl, rd48⟩, trivial⟩
 exact WL.run ht hn 1 _ (by kernel_rfl) WL.nilI
 exact WL.run ht hn 1 _ (by kernel_rfl) WL.nilI
 refine RD.have 9 #[true, true, true, false, false, true, true, true, false, false, false, false, false, false, false] ⟨[sl 0 (.pptr 0 0 (Bk 0)), sl 1 (.v (.int .u8 ch)), sl 6 (.rd (trR fLab (r_3.1))), sl 56 (.ptr 0 0), sl 58 (.ptr 0 0), sl 63 (.ptr 0 4)], [.box [.v (.string text), I (r_3.2.pos), I (r_3.2.deep), I (r_3.2.cnt), .own 1] 144 false, rowI 236 FixName.ty (((((ar))) ++ ([(FixName.mk (fch text (wr ((r.pos) + 1))) false)] : (qfLop0)))), .gone]⟩ ?_ (fun rd37 => ?_)
 refine RD.succ [3, 8] (by kernel_rfl) rfl ⟨⟨_, _, _, rfl, ?_, rfl, rd46⟩, ⟨_, _, _, rfl, ?_, rfl, rd47⟩, trivial⟩
 exact WL.run ht hn 1 _ (by kernel_rfl) WL.nilI
 exact WL.run ht hn 1 _ (by kernel_rfl) WL.nilI
 refine RD.have 9 #[true, true, true, true, false, true, true, false, false, false, false, false, false, false, false] ⟨[sl 0 (.pptr 0 0 (Bk 0)), sl 1 (.v (.int .u8 ch)), sl 6 (.rd (trR fLab (r_3.1))), sl 56 (.ptr 0 0), sl 59 (.ptr 0 4), sl 62 (.ptr 0 0)], [.box [.v (.string text), I (r_3.2.pos), I (r_3.2.deep), I (r_3.2.cnt), .own 1] 144 false, rowI 236 FixName.ty (((((ar))) ++ ([(FixName.mk (fch text (wr ((r.pos) + 1))) false)] : (qfLop0)))), .gone]⟩ ?_ (fun rd36 => ?_)
 refine RD.succ [4, 7] (by kernel_rfl) rfl ⟨⟨_, _, _, rfl, ?_, rfl, rd45⟩, ⟨_, _, _, rfl, ?_, rfl, rd46⟩, trivial⟩
 exact WL.run ht hn 1 _ (by kernel_rfl) WL.nilI
 exact WL.run ht hn 1 _ (by kernel_rfl) WL.nilI
 refine RD.have 9 #[true, true, true, true, true, true, false, false, false, false, false, false, false, false, false] ⟨[sl 0 (.pptr 0 0 (Bk 0)), sl 1 (.v (.int .u8 ch)), sl 6 (.rd (trR fLab (r_3.1))), sl 56 (.ptr 0 0), sl 60 (.own 1), sl 61 (.ptr 0 0)], [.box [.v (.string text), I (r_3.2.pos), I (r_3.2.deep), I (r_3.2.cnt), .own 1] 144 false, rowI 236 FixName.ty (((((ar))) ++ ([(FixName.mk (fch text (wr ((r.pos) + 1))) false)] : (qfLop0)))), .gone]⟩ ?_ (fun rd35 => ?_)
 refine RD.succ [6] (by kernel_rfl) rfl ⟨⟨_, _, _, rfl, ?_, rfl, rd45⟩, trivial⟩
 exact WL.run ht hn 1 _ (by kernel_rfl) WL.nilI
 refine RD.have 10 #[false, false, false, false, false, true, true, true, true, true, false, false, false, false, false] ⟨[sl 0 (.pptr 0 0 (Bk 0)), sl 1 (.v (.int .u8 ch)), sl 6 (.rd (trR fLab (r_3.1))), sl 65 (I ((((((ar))) ++ ([(FixName.mk (fch text (wr ((r.pos) + 1))) false)] : (qfLop0)))).length : Int))], [.box [.v (.string text), I (r_3.2.pos), I (r_3.2.deep), I (r_3.2.cnt), .own 1] 144 false, rowI 236 FixName.ty (((((ar))) ++ ([(FixName.mk (fch text (wr ((r.pos) + 1))) false)] : (qfLop0)))), .gone]⟩ ?_ (fun rd34 => ?_)
 refine RD.succ [0, 1, 10] (by kernel_rfl) rfl ⟨⟨_, _, _, rfl, ?_, rfl, rd39⟩, ⟨_, _, _, rfl, ?_, rfl, rd43⟩, ⟨_, _, _, rfl, ?_, rfl, rd44⟩, trivial⟩
 exact WL.run ht hn 1 _ (by kernel_rfl) WL.nilI
 exact WL.run ht hn 1 _ (by kernel_rfl) WL.nilI
 exact WL.run ht hn 1 _ (by kernel_rfl) WL.nilI
 refine RD.have 10 #[false, true, false, false, false, true, true, true, true, false, false, false, false, false, false] ⟨[sl 0 (.pptr 0 0 (Bk 0)), sl 1 (.v (.int .u8 ch)), sl 6 (.rd (trR fLab (r_3.1))), sl 57 (.ptr 0 0), sl 64 (.own 1)], [.box [.v (.string text), I (r_3.2.pos), I (r_3.2.deep), I (r_3.2.cnt), .own 1] 144 false, rowI 236 FixName.ty (((((ar))) ++ ([(FixName.mk (fch text (wr ((r.pos) + 1))) false)] : (qfLop0)))), .gone]⟩ ?_ (fun rd33 => ?_)
 refine RD.succ [0, 2, 9] (by kernel_rfl) rfl ⟨⟨_, _, _, rfl, ?_, rfl, rd38⟩, ⟨_, _, _, rfl, ?_, rfl, rd42⟩, ⟨_, _, _, rfl, ?_, rfl, rd43⟩, trivial⟩
 exact WL.run ht hn 1 _ (by kernel_rfl) WL.nilI
 exact WL.run ht hn 1 _ (by kernel_rfl) WL.nilI
 exact WL.run ht hn 1 _ (by kernel_rfl) WL.nilI
 refine RD.have 10 #[false, true, true, false, false, true, true, true, false, false, false, false, false, false, false] ⟨[sl 0 (.pptr 0 0 (Bk 0)), sl 1 (.v (.int .u8 ch)), sl 6 (.rd (trR fLab (r_3.1))), sl 58 (.ptr 0 0), sl 63 (.ptr 0 4)], [.box [.v (.string text), I (r_3.2.pos), I (r_3.2.deep), I (r_3.2.cnt), .own 1] 144 false, rowI 236 FixName.ty (((((ar))) ++ ([(FixName.mk (fch text (wr ((r.pos) + 1))) false)] : (qfLop0)))), .gone]⟩ ?_ (fun rd32 => ?_)
 refine RD.succ [0, 3, 8] (by kernel_rfl) rfl ⟨⟨_, _, _, rfl, ?_, rfl, rd37⟩, ⟨_, _, _, rfl, ?_, rfl, rd41⟩, ⟨_, _, _, rfl, ?_, rfl, rd42⟩, trivial⟩
 exact WL.run ht hn 1 _ (by kernel_rfl) WL.nilI
 exact WL.run ht hn 1 _ (by kernel_rfl) WL.nilI
 exact WL.run ht hn 1 _ (by kernel_rfl) WL.nilI
 refine RD.have 10 #[false, true, true, true, false, true, true, false, false, false, false, false, false, false, false] ⟨[sl 0 (.pptr 0 0 (Bk 0)), sl 1 (.v (.int .u8 ch)), sl 6 (.rd (trR fLab (r_3.1))), sl 59 (.ptr 0 4), sl 62 (.ptr 0 0)], [.box [.v (.string text), I (r_3.2.pos), I (r_3.2.deep), I (r_3.2.cnt), .own 1] 144 false, rowI 236 FixName.ty (((((ar))) ++ ([(FixName.mk (fch text (wr ((r.pos) + 1))) false)] : (qfLop0)))), .gone]⟩ ?_ (fun rd31 => ?_)
 refine RD.succ [0, 4, 7] (by kernel_rfl) rfl ⟨⟨_, _, _, rfl, ?_, rfl, rd36⟩, ⟨_, _, _, rfl, ?_, rfl, rd40⟩, ⟨_, _, _, rfl, ?_, rfl, rd41⟩, trivial⟩
 exact WL.run ht hn 1 _ (by kernel_rfl) WL.nilI
 exact WL.run ht hn 1 _ (by kernel_rfl) WL.nilI
 exact WL.run ht hn 1 _ (by kernel_rfl) WL.nilI
 refine RD.have 10 #[false, true, true, true, true, true, false, false, false, false, false, false, false, false, false] ⟨[sl 0 (.pptr 0 0 (Bk 0)), sl 1 (.v (.int .u8 ch)), sl 6 (.rd (trR fLab (r_3.1))), sl 60 (.own 1), sl 61 (.ptr 0 0)], [.box [.v (.string text), I (r_3.2.pos), I (r_3.2.deep), I (r_3.2.cnt), .own 1] 144 false, rowI 236 FixName.ty (((((ar))) ++ ([(FixName.mk (fch text (wr ((r.pos) + 1))) false)] : (qfLop0)))), .gone]⟩ ?_ (fun rd30 => ?_)
 refine RD.succ [0, 6] (by kernel_rfl) rfl ⟨⟨_, _, _, rfl, ?_, rfl, rd35⟩, ⟨_, _, _, rfl, ?_, rfl, rd40⟩, trivial⟩
 exact WL.run ht hn 1 _ (by kernel_rfl) WL.nilI
 exact WL.run ht hn 1 _ (by kernel_rfl) WL.nilI
 refine RD.have 10 #[true, false, false, false, false, true, true, true, true, false, false, false, false, false, false] ⟨[sl 0 (.pptr 0 0 (Bk 0)), sl 1 (.v (.int .u8 ch)), sl 6 (.rd (trR fLab (r_3.1))), sl 56 (.ptr 0 0), sl 64 (.own 1)], [.box [.v (.string text), I (r_3.2.pos), I (r_3.2.deep), I (r_3.2.cnt), .own 1] 144 false, rowI 236 FixName.ty (((((ar))) ++ ([(FixName.mk (fch text (wr ((r.pos) + 1))) false)] : (qfLop0)))), .gone]⟩ ?_ (fun rd29 => ?_)
 refine RD.succ [1, 9] (by kernel_rfl) rfl ⟨⟨_, _, _, rfl, ?_, rfl, rd38⟩, ⟨_, _, _, rfl, ?_, rfl, rd39⟩, trivial⟩
 exact WL.run ht hn 1 _ (by kernel_rfl) WL.nilI
 exact WL.run ht hn 1 _ (by kernel_rfl) WL.nilI
 refine RD.have 10 #[true, true, false, false, false, true, true, true, false, false, false, false, false, false, false] ⟨[sl 0 (.pptr 0 0 (Bk 0)), sl 1 (.v (.int .u8 ch)), sl 6 (.rd (trR fLab (r_3.1))), sl 56 (.ptr 0 0), sl 57 (.ptr 0 0), sl 63 (.ptr 0 4)], [.box [.v (.string text), I (r_3.2.pos), I (r_3.2.deep), I (r_3.2.cnt), .own 1] 144 false, rowI 236 FixName.ty (((((ar))) ++ ([(FixName.mk (fch text (wr ((r.pos) + 1))) false)] : (qfLop0)))), .gone]⟩ ?_ (fun rd28 => ?_)
 refine RD.succ [2, 8] (by kernel_rfl) rfl ⟨⟨_, _, _, rfl, ?_, rfl, rd37⟩, ⟨_, _, _, rfl, ?_, rfl, rd38⟩, trivial⟩
 exact WL.run ht hn 1 _ (by kernel_rfl) WL.nilI
 exact WL.run ht hn 1 _ (by kernel_rfl) WL.nilI
 refine RD.have 10 #[true, true, true, false, false, true, true, false, false, false, false, false, false, false, false] ⟨[sl 0 (.pptr 0 0 (Bk 0)), sl 1 (.v (.int .u8 ch)), sl 6 (.rd (trR fLab (r_3.1))), sl 56 (.ptr 0 0), sl 58 (.ptr 0 0), sl 62 (.ptr 0 0)], [.box [.v (.string text), I (r_3.2.pos), I (r_3.2.deep), I (r_3.2.cnt), .own 1] 144 false, rowI 236 FixName.ty (((((ar))) ++ ([(FixName.mk (fch text (wr ((r.pos) + 1))) false)] : (qfLop0)))), .gone]⟩ ?_ (fun rd27 => ?_)
 refine RD.succ [3, 7] (by kernel_rfl) rfl ⟨⟨_, _, _, rfl, ?_, rfl, rd36⟩, ⟨_, _, _, rfl, ?_, rfl, rd37⟩, trivial⟩
 exact WL.run ht hn 1 _ (by kernel_rfl) WL.nilI
 exact WL.run ht hn 1 _ (by kernel_rfl) WL.nilI
 refine RD.have 10 #[true, true, true, true, false, true, false, false, false, false, false, false, false, false, false] ⟨[sl 0 (.pptr 0 0 (Bk 0)), sl 1 (.v (.int .u8 ch)), sl 6 (.rd (trR fLab (r_3.1))), sl 56 (.ptr 0 0), sl 59 (.ptr 0 4), sl 61 (.ptr 0 0)], [.box [.v (.string text), I (r_3.2.pos), I (r_3.2.deep), I (r_3.2.cnt), .own 1] 144 false, rowI 236 FixName.ty (((((ar))) ++ ([(FixName.mk (fch text (wr ((r.pos) + 1))) false)] : (qfLop0)))), .gone]⟩ ?_ (fun rd26 => ?_)
 refine RD.succ [4, 6] (by kernel_rfl) rfl ⟨⟨_, _, _, rfl, ?_, rfl, rd35⟩, ⟨_, _, _, rfl, ?_, rfl, rd36⟩, trivial⟩
 exact WL.run ht hn 1 _ (by kernel_rfl) WL.nilI
 exact WL.run ht hn 1 _ (by kernel_rfl) WL.nilI
 refine RD.have 10 #[true, true, true, true, true, false, false, false, false, false, false, false, false, false, false] ⟨[sl 0 (.pptr 0 0 (Bk 0)), sl 1 (.v (.int .u8 ch)), sl 6 (.rd (trR fLab (r_3.1))), sl 56 (.ptr 0 0), sl 60 (.own 1)], [.box [.v (.string text), I (r_3.2.pos), I (r_3.2.deep), I (r_3.2.cnt), .own 1] 144 false, rowI 236 FixName.ty (((((ar))) ++ ([(FixName.mk (fch text (wr ((r.pos) + 1))) false)] : (qfLop0)))), .gone]⟩ ?_ (fun rd25 => ?_)
 refine RD.succ [5] (by kernel_rfl) rfl ⟨⟨_, _, _, rfl, ?_, rfl, rd35⟩, trivial⟩
 exact WL.run ht hn 1 _ (by kernel_rfl) WL.nilI
 refine RD.have 11 #[false, false, false, false, false, true, true, true, true, false, false, false, false, false, false] ⟨[sl 0 (.pptr 0 0 (Bk 0)), sl 1 (.v (.int .u8 ch)), sl 6 (.rd (trR fLab (r_3.1))), sl 64 (.own 1)], [.box [.v (.string text), I (r_3.2.pos), I (r_3.2.deep), I (r_3.2.cnt), .own 1] 144 false, rowI 236 FixName.ty (((((ar))) ++ ([(FixName.mk (fch text (wr ((r.pos) + 1))) false)] : (qfLop0)))), .gone]⟩ ?_ (fun rd24 => ?_)
 refine RD.succ [0, 1, 9] (by kernel_rfl) rfl ⟨⟨_, _, _, rfl, ?_, rfl, rd29⟩, ⟨_, _, _, rfl, ?_, rfl, rd33⟩, ⟨_, _, _, rfl, ?_, rfl, rd34⟩, trivial⟩
 exact WL.run ht hn 1 _ (by kernel_rfl) WL.nilI
 exact WL.run ht hn 1 _ (by kernel_rfl) WL.nilI
 exact WL.run ht hn 1 _ (by kernel_rfl) WL.nilI
 refine RD.have 11 #[false, true, false, false, false, true, true, true, false, false, false, false, false, false, false] ⟨[sl 0 (.pptr 0 0 (Bk 0)), sl 1 (.v (.int .u8 ch)), sl 6 (.rd (trR fLab (r_3.1))), sl 57 (.ptr 0 0), sl 63 (.ptr 0 4)], [.box [.v (.string text), I (r_3.2.pos), I (r_3.2.deep), I (r_3.2.cnt), .own 1] 144 false, rowI 236 FixName.ty (((((ar))) ++ ([(FixName.mk (fch text (wr ((r.pos) + 1))) false)] : (qfLop0)))), .gone]⟩ ?_ (fun rd23 => ?_)
 refine RD.succ [0, 2, 8] (by kernel_rfl) rfl ⟨⟨_, _, _, rfl, ?_, rfl, rd28⟩, ⟨_, _, _, rfl, ?_, rfl, rd32⟩, ⟨_, _, _, rfl, ?_, rfl, rd33⟩, trivial⟩
 exact WL.run ht hn 1 _ (by kernel_rfl) WL.nilI
 exact WL.run ht hn 1 _ (by kernel_rfl) WL.nilI
 exact WL.run ht hn 1 _ (by kernel_rfl) WL.nilI
 refine RD.have 11 #[false, true, true, false, false, true, true, false, false, false, false, false, false, false, false] ⟨[sl 0 (.pptr 0 0 (Bk 0)), sl 1 (.v (.int .u8 ch)), sl 6 (.rd (trR fLab (r_3.1))), sl 58 (.ptr 0 0), sl 62 (.ptr 0 0)], [.box [.v (.string text), I (r_3.2.pos), I (r_3.2.deep), I (r_3.2.cnt), .own 1] 144 false, rowI 236 FixName.ty (((((ar))) ++ ([(FixName.mk (fch text (wr ((r.pos) + 1))) false)] : (qfLop0)))), .gone]⟩ ?_ (fun rd22 => ?_)
 refine RD.succ [0, 3, 7] (by kernel_rfl) rfl ⟨⟨_, _, _, rfl, ?_, rfl, rd27⟩, ⟨_, _, _, rfl, ?_, rfl, rd31⟩, ⟨_, _, _, rfl, ?_, rfl, rd32⟩, trivial⟩
 exact WL.run ht hn 1 _ (by kernel_rfl) WL.nilI
 exact WL.run ht hn 1 _ (by kernel_rfl) WL.nilI
 exact WL.run ht hn 1 _ (by kernel_rfl) WL.nilI
 refine RD.have 11 #[false, true, true, true, false, true, false, false, false, false, false, false, false, false, false] ⟨[sl 0 (.pptr 0 0 (Bk 0)), sl 1 (.v (.int .u8 ch)), sl 6 (.rd (trR fLab (r_3.1))), sl 59 (.ptr 0 4), sl 61 (.ptr 0 0)], [.box [.v (.string text), I (r_3.2.pos), I (r_3.2.deep), I (r_3.2.cnt), .own 1] 144 false, rowI 236 FixName.ty (((((ar))) ++ ([(FixName.mk (fch text (wr ((r.pos) + 1))) false)] : (qfLop0)))), .gone]⟩ ?_ (fun rd21 => ?_)
 refine RD.succ [0, 4, 6] (by kernel_rfl) rfl ⟨⟨_, _, _, rfl, ?_, rfl, rd26⟩, ⟨_, _, _, rfl, ?_, rfl, rd30⟩, ⟨_, _, _, rfl, ?_, rfl, rd31⟩, trivial⟩
 exact WL.run ht hn 1 _ (by kernel_rfl) WL.nilI
 exact WL.run ht hn 1 _ (by kernel_rfl) WL.nilI
 exact WL.run ht hn 1 _ (by kernel_rfl) WL.nilI
 refine RD.have 11 #[false, true, true, true, true, false, false, false, false, false, false, false, false, false, false] ⟨[sl 0 (.pptr 0 0 (Bk 0)), sl 1 (.v (.int .u8 ch)), sl 6 (.rd (trR fLab (r_3.1))), sl 60 (.own 1)], [.box [.v (.string text), I (r_3.2.pos), I (r_3.2.deep), I (r_3.2.cnt), .own 1] 144 false, rowI 236 FixName.ty (((((ar))) ++ ([(FixName.mk (fch text (wr ((r.pos) + 1))) false)] : (qfLop0)))), .gone]⟩ ?_ (fun rd20 => ?_)
 refine RD.succ [0, 5] (by kernel_rfl) rfl ⟨⟨_, _, _, rfl, ?_, rfl, rd25⟩, ⟨_, _, _, rfl, ?_, rfl, rd30⟩, trivial⟩
 exact WL.run ht hn 1 _ (by kernel_rfl) WL.nilI
 exact WL.run ht hn 1 _ (by kernel_rfl) WL.nilI
 refine RD.have 11 #[true, false, false, false, false, true, true, true, false, false, false, false, false, false, false] ⟨[sl 0 (.pptr 0 0 (Bk 0)), sl 1 (.v (.int .u8 ch)), sl 6 (.rd (trR fLab (r_3.1))), sl 56 (.ptr 0 0), sl 63 (.ptr 0 4)], [.box [.v (.string text), I (r_3.2.pos), I (r_3.2.deep), I (r_3.2.cnt), .own 1] 144 false, rowI 236 FixName.ty (((((ar))) ++ ([(FixName.mk (fch text (wr ((r.pos) + 1))) false)] : (qfLop0)))), .gone]⟩ ?_ (fun rd19 => ?_)
 refine RD.succ [1, 8] (by kernel_rfl) rfl ⟨⟨_, _, _, rfl, ?_, rfl, rd28⟩, ⟨_, _, _, rfl, ?_, rfl, rd29⟩, trivial⟩
 exact WL.run ht hn 1 _ (by kernel_rfl) WL.nilI
 exact WL.run ht hn 1 _ (by kernel_rfl) WL.nilI
 refine RD.have 11 #[true, true, false, false, false, true, true, false, false, false, false, false, false, false, false] ⟨[sl 0 (.pptr 0 0 (Bk 0)), sl 1 (.v (.int .u8 ch)), sl 6 (.rd (trR fLab (r_3.1))), sl 56 (.ptr 0 0), sl 57 (.ptr 0 0), sl 62 (.ptr 0 0)], [.box [.v (.string text), I (r_3.2.pos), I (r_3.2.deep), I (r_3.2.cnt), .own 1] 144 false, rowI 236 FixName.ty (((((ar))) ++ ([(FixName.mk (fch text (wr ((r.pos) + 1))) false)] : (qfLop0)))), .gone]⟩ ?_ (fun rd18 => ?_)
 refine RD.succ [2, 7] (by kernel_rfl) rfl ⟨⟨_, _, _, rfl, ?_, rfl, rd27⟩, ⟨_, _, _, rfl, ?_, rfl, rd28⟩, trivial⟩
 exact WL.run ht hn 1 _ (by kernel_rfl) WL.nilI
 exact WL.run ht hn 1 _ (by kernel_rfl) WL.nilI
 refine RD.have 11 #[true, true, true, false, false, true, false, false, false, false, false, false, false, false, false] ⟨[sl 0 (.pptr 0 0 (Bk 0)), sl 1 (.v (.int .u8 ch)), sl 6 (.rd (trR fLab (r_3.1))), sl 56 (.ptr 0 0), sl 58 (.ptr 0 0), sl 61 (.ptr 0 0)], [.box [.v (.string text), I (r_3.2.pos), I (r_3.2.deep), I (r_3.2.cnt), .own 1] 144 false, rowI 236 FixName.ty (((((ar))) ++ ([(FixName.mk (fch text (wr ((r.pos) + 1))) false)] : (qfLop0)))), .gone]⟩ ?_ (fun rd17 => ?_)
 refine RD.succ [3, 6] (by kernel_rfl) rfl ⟨⟨_, _, _, rfl, ?_, rfl, rd26⟩, ⟨_, _, _, rfl, ?_, rfl, rd27⟩, trivial⟩
 exact WL.run ht hn 1 _ (by kernel_rfl) WL.nilI
 exact WL.run ht hn 1 _ (by kernel_rfl) WL.nilI
 refine RD.have 11 #[true, true, true, true, false, false, false, false, false, false, false, false, false, false, false] ⟨[sl 0 (.pptr 0 0 (Bk 0)), sl 1 (.v (.int .u8 ch)), sl 6 (.rd (trR fLab (r_3.1))), sl 56 (.ptr 0 0), sl 59 (.ptr 0 4)], [.box [.v (.string text), I (r_3.2.pos), I (r_3.2.deep), I (r_3.2.cnt), .own 1] 144 false, rowI 236 FixName.ty (((((ar))) ++ ([(FixName.mk (fch text (wr ((r.pos) + 1))) false)] : (qfLop0)))), .gone]⟩ ?_ (fun rd16 => ?_)
 refine RD.succ [4, 5] (by kernel_rfl) rfl ⟨⟨_, _, _, rfl, ?_, rfl, rd25⟩, ⟨_, _, _, rfl, ?_, rfl, rd26⟩, trivial⟩
 exact WL.run ht hn 1 _ (by kernel_rfl) WL.nilI
 exact WL.run ht hn 1 _ (by kernel_rfl) WL.nilI
 refine RD.have 12 #[false, false, false, false, false, true, true, true, false, false, false, false, false, false, false] ⟨[sl 0 (.pptr 0 0 (Bk 0)), sl 1 (.v (.int .u8 ch)), sl 6 (.rd (trR fLab (r_3.1))), sl 63 (.ptr 0 4)], [.box [.v (.string text), I (r_3.2.pos), I (r_3.2.deep), I (r_3.2.cnt), .own 1] 144 false, rowI 236 FixName.ty (((((ar))) ++ ([(FixName.mk (fch text (wr ((r.pos) + 1))) false)] : (qfLop0)))), .gone]⟩ ?_ (fun rd15 => ?_)
 refine RD.succ [0, 1, 8] (by kernel_rfl) rfl ⟨⟨_, _, _, rfl, ?_, rfl, rd19⟩, ⟨_, _, _, rfl, ?_, rfl, rd23⟩, ⟨_, _, _, rfl, ?_, rfl, rd24⟩, trivial⟩
 exact WL.run ht hn 1 _ (by kernel_rfl) WL.nilI
 exact WL.run ht hn 1 _ (by kernel_rfl) WL.nilI
 exact WL.run ht hn 1 _ (by kernel_rfl) WL.nilI
 refine RD.have 12 #[false, true, false, false, false, true, true, false, false, false, false, false, false, false, false] ⟨[sl 0 (.pptr 0 0 (Bk 0)), sl 1 (.v (.int .u8 ch)), sl 6 (.rd (trR fLab (r_3.1))), sl 57 (.ptr 0 0), sl 62 (.ptr 0 0)], [.box [.v (.string text), I (r_3.2.pos), I (r_3.2.deep), I (r_3.2.cnt), .own 1] 144 false, rowI 236 FixName.ty (((((ar))) ++ ([(FixName.mk (fch text (wr ((r.pos) + 1))) false)] : (qfLop0)))), .gone]⟩ ?_ (fun rd14 => ?_)
 refine RD.succ [0, 2, 7] (by kernel_rfl) rfl ⟨⟨_, _, _, rfl, ?_, rfl, rd18⟩, ⟨_, _, _, rfl, ?_, rfl, rd22⟩, ⟨_, _, _, rfl, ?_, rfl, rd23⟩, trivial⟩
 exact WL.run ht hn 1 _ (by kernel_rfl) WL.nilI
 exact WL.run ht hn 1 _ (by kernel_rfl) WL.nilI
 exact WL.run ht hn 1 _ (by kernel_rfl) WL.nilI
 refine RD.have 12 #[false, true, true, false, false, true, false, false, false, false, false, false, false, false, false] ⟨[sl 0 (.pptr 0 0 (Bk 0)), sl 1 (.v (.int .u8 ch)), sl 6 (.rd (trR fLab (r_3.1))), sl 58 (.ptr 0 0), sl 61 (.ptr 0 0)], [.box [.v (.string text), I (r_3.2.pos), I (r_3.2.deep), I (r_3.2.cnt), .own 1] 144 false, rowI 236 FixName.ty (((((ar))) ++ ([(FixName.mk (fch text (wr ((r.pos) + 1))) false)] : (qfLop0)))), .gone]⟩ ?_ (fun rd13 => ?_)
 refine RD.succ [0, 3, 6] (by kernel_rfl) rfl ⟨⟨_, _, _, rfl, ?_, rfl, rd17⟩, ⟨_, _, _, rfl, ?_, rfl, rd21⟩, ⟨_, _, _, rfl, ?_, rfl, rd22⟩, trivial⟩
 exact WL.run ht hn 1 _ (by kernel_rfl) WL.nilI
 exact WL.run ht hn 1 _ (by kernel_rfl) WL.nilI
 exact WL.run ht hn 1 _ (by kernel_rfl) WL.nilI
 refine RD.have 12 #[false, true, true, true, false, false, false, false, false, false, false, false, false, false, false] ⟨[sl 0 (.pptr 0 0 (Bk 0)), sl 1 (.v (.int .u8 ch)), sl 6 (.rd (trR fLab (r_3.1))), sl 59 (.ptr 0 4)], [.box [.v (.string text), I (r_3.2.pos), I (r_3.2.deep), I (r_3.2.cnt), .own 1] 144 false, rowI 236 FixName.ty (((((ar))) ++ ([(FixName.mk (fch text (wr ((r.pos) + 1))) false)] : (qfLop0)))), .gone]⟩ ?_ (fun rd12 => ?_)
 refine RD.succ [0, 4, 5] (by kernel_rfl) rfl ⟨⟨_, _, _, rfl, ?_, rfl, rd16⟩, ⟨_, _, _, rfl, ?_, rfl, rd20⟩, ⟨_, _, _, rfl, ?_, rfl, rd21⟩, trivial⟩
 exact WL.run ht hn 1 _ (by kernel_rfl) WL.nilI
 exact WL.run ht hn 1 _ (by kernel_rfl) WL.nilI
 exact WL.run ht hn 1 _ (by kernel_rfl) WL.nilI
 refine RD.have 12 #[true, false, false, false, false, true, true, false, false, false, false, false, false, false, false] ⟨[sl 0 (.pptr 0 0 (Bk 0)), sl 1 (.v (.int .u8 ch)), sl 6 (.rd (trR fLab (r_3.1))), sl 56 (.ptr 0 0), sl 62 (.ptr 0 0)], [.box [.v (.string text), I (r_3.2.pos), I (r_3.2.deep), I (r_3.2.cnt), .own 1] 144 false, rowI 236 FixName.ty (((((ar))) ++ ([(FixName.mk (fch text (wr ((r.pos) + 1))) false)] : (qfLop0)))), .gone]⟩ ?_ (fun rd11 => ?_)
 refine RD.succ [1, 7] (by kernel_rfl) rfl ⟨⟨_, _, _, rfl, ?_, rfl, rd18⟩, ⟨_, _, _, rfl, ?_, rfl, rd19⟩, trivial⟩
 exact WL.run ht hn 1 _ (by kernel_rfl) WL.nilI
 exact WL.run ht hn 1 _ (by kernel_rfl) WL.nilI
 refine RD.have 12 #[true, true, false, false, false, true, false, false, false, false, false, false, false, false, false] ⟨[sl 0 (.pptr 0 0 (Bk 0)), sl 1 (.v (.int .u8 ch)), sl 6 (.rd (trR fLab (r_3.1))), sl 56 (.ptr 0 0), sl 57 (.ptr 0 0), sl 61 (.ptr 0 0)], [.box [.v (.string text), I (r_3.2.pos), I (r_3.2.deep), I (r_3.2.cnt), .own 1] 144 false, rowI 236 FixName.ty (((((ar))) ++ ([(FixName.mk (fch text (wr ((r.pos) + 1))) false)] : (qfLop0)))), .gone]⟩ ?_ (fun rd10 => ?_)
 refine RD.succ [2, 6] (by kernel_rfl) rfl ⟨⟨_, _, _, rfl, ?_, rfl, rd17⟩, ⟨_, _, _, rfl, ?_, rfl, rd18⟩, trivial⟩
 exact WL.run ht hn 1 _ (by kernel_rfl) WL.nilI
 exact WL.run ht hn 1 _ (by kernel_rfl) WL.nilI
 refine RD.have 12 #[true, true, true, false, false, false, false, false, false, false, false, false, false, false, false] ⟨[sl 0 (.pptr 0 0 (Bk 0)), sl 1 (.v (.int .u8 ch)), sl 6 (.rd (trR fLab (r_3.1))), sl 56 (.ptr 0 0), sl 58 (.ptr 0 0)], [.box [.v (.string text), I (r_3.2.pos), I (r_3.2.deep), I (r_3.2.cnt), .own 1] 144 false, rowI 236 FixName.ty (((((ar))) ++ ([(FixName.mk (fch text (wr ((r.pos) + 1))) false)] : (qfLop0)))), .gone]⟩ ?_ (fun rd9 => ?_)
 refine RD.succ [3, 5] (by kernel_rfl) rfl ⟨⟨_, _, _, rfl, ?_, rfl, rd16⟩, ⟨_, _, _, rfl, ?_, rfl, rd17⟩, trivial⟩
 exact WL.run ht hn 1 _ (by kernel_rfl) WL.nilI
 exact WL.run ht hn 1 _ (by kernel_rfl) WL.nilI
 refine RD.have 13 #[false, false, false, false, false, true, true, false, false, false, false, false, false, false, false] ⟨[sl 0 (.pptr 0 0 (Bk 0)), sl 1 (.v (.int .u8 ch)), sl 6 (.rd (trR fLab (r_3.1))), sl 62 (.ptr 0 0)], [.box [.v (.string text), I (r_3.2.pos), I (r_3.2.deep), I (r_3.2.cnt), .own 1] 144 false, rowI 236 FixName.ty (((((ar))) ++ ([(FixName.mk (fch text (wr ((r.pos) + 1))) false)] : (qfLop0)))), .gone]⟩ ?_ (fun rd8 => ?_)
 refine RD.succ [0, 1, 7] (by kernel_rfl) rfl ⟨⟨_, _, _, rfl, ?_, rfl, rd11⟩, ⟨_, _, _, rfl, ?_, rfl, rd14⟩, ⟨_, _, _, rfl, ?_, rfl, rd15⟩, trivial⟩
 exact WL.run ht hn 1 _ (by kernel_rfl) WL.nilI
 exact WL.run ht hn 1 _ (by kernel_rfl) WL.nilI
 exact WL.run ht hn 1 _ (by kernel_rfl) WL.nilI
 refine RD.have 13 #[false, true, false, false, false, true, false, false, false, false, false, false, false, false, false] ⟨[sl 0 (.pptr 0 0 (Bk 0)), sl 1 (.v (.int .u8 ch)), sl 6 (.rd (trR fLab (r_3.1))), sl 57 (.ptr 0 0), sl 61 (.ptr 0 0)], [.box [.v (.string text), I (r_3.2.pos), I (r_3.2.deep), I (r_3.2.cnt), .own 1] 144 false, rowI 236 FixName.ty (((((ar))) ++ ([(FixName.mk (fch text (wr ((r.pos) + 1))) false)] : (qfLop0)))), .gone]⟩ ?_ (fun rd7 => ?_)
 refine RD.succ [0, 2, 6] (by kernel_rfl) rfl ⟨⟨_, _, _, rfl, ?_, rfl, rd10⟩, ⟨_, _, _, rfl, ?_, rfl, rd13⟩, ⟨_, _, _, rfl, ?_, rfl, rd14⟩, trivial⟩
 exact WL.run ht hn 1 _ (by kernel_rfl) WL.nilI
 exact WL.run ht hn 1 _ (by kernel_rfl) WL.nilI
 exact WL.run ht hn 1 _ (by kernel_rfl) WL.nilI
 refine RD.have 13 #[false, true, true, false, false, false, false, false, false, false, false, false, false, false, false] ⟨[sl 0 (.pptr 0 0 (Bk 0)), sl 1 (.v (.int .u8 ch)), sl 6 (.rd (trR fLab (r_3.1))), sl 58 (.ptr 0 0)], [.box [.v (.string text), I (r_3.2.pos), I (r_3.2.deep), I (r_3.2.cnt), .own 1] 144 false, rowI 236 FixName.ty (((((ar))) ++ ([(FixName.mk (fch text (wr ((r.pos) + 1))) false)] : (qfLop0)))), .gone]⟩ ?_ (fun rd6 => ?_)
 refine RD.succ [0, 3, 5] (by kernel_rfl) rfl ⟨⟨_, _, _, rfl, ?_, rfl, rd9⟩, ⟨_, _, _, rfl, ?_, rfl, rd12⟩, ⟨_, _, _, rfl, ?_, rfl, rd13⟩, trivial⟩
 exact WL.run ht hn 1 _ (by kernel_rfl) WL.nilI
 exact WL.run ht hn 1 _ (by kernel_rfl) WL.nilI
 exact WL.run ht hn 1 _ (by kernel_rfl) WL.nilI
 refine RD.have 13 #[true, false, false, false, false, true, false, false, false, false, false, false, false, false, false] ⟨[sl 0 (.pptr 0 0 (Bk 0)), sl 1 (.v (.int .u8 ch)), sl 6 (.rd (trR fLab (r_3.1))), sl 56 (.ptr 0 0), sl 61 (.ptr 0 0)], [.box [.v (.string text), I (r_3.2.pos), I (r_3.2.deep), I (r_3.2.cnt), .own 1] 144 false, rowI 236 FixName.ty (((((ar))) ++ ([(FixName.mk (fch text (wr ((r.pos) + 1))) false)] : (qfLop0)))), .gone]⟩ ?_ (fun rd5 => ?_)
 refine RD.succ [1, 6] (by kernel_rfl) rfl ⟨⟨_, _, _, rfl, ?_, rfl, rd10⟩, ⟨_, _, _, rfl, ?_, rfl, rd11⟩, trivial⟩
 exact WL.run ht hn 1 _ (by kernel_rfl) WL.nilI
 exact WL.run ht hn 1 _ (by kernel_rfl) WL.nilI
 refine RD.have 13 #[true, true, false, false, false, false, false, false, false, false, false, false, false, false, false] ⟨[sl 0 (.pptr 0 0 (Bk 0)), sl 1 (.v (.int .u8 ch)), sl 6 (.rd (trR fLab (r_3.1))), sl 56 (.ptr 0 0), sl 57 (.ptr 0 0)], [.box [.v (.string text), I (r_3.2.pos), I (r_3.2.deep), I (r_3.2.cnt), .own 1] 144 false, rowI 236 FixName.ty (((((ar))) ++ ([(FixName.mk (fch text (wr ((r.pos) + 1))) false)] : (qfLop0)))), .gone]⟩ ?_ (fun rd4 => ?_)
 refine RD.succ [2, 5] (by kernel_rfl) rfl ⟨⟨_, _, _, rfl, ?_, rfl, rd9⟩, ⟨_, _, _, rfl, ?_, rfl, rd10⟩, trivial⟩
 exact WL.run ht hn 1 _ (by kernel_rfl) WL.nilI
 exact WL.run ht hn 1 _ (by kernel_rfl) WL.nilI
 refine RD.have 14 #[false, false, false, false, false, true, false, false, false, false, false, false, false, false, false] ⟨[sl 0 (.pptr 0 0 (Bk 0)), sl 1 (.v (.int .u8 ch)), sl 6 (.rd (trR fLab (r_3.1))), sl 61 (.ptr 0 0)], [.box [.v (.string text), I (r_3.2.pos), I (r_3.2.deep), I (r_3.2.cnt), .own 1] 144 false, rowI 236 FixName.ty (((((ar))) ++ ([(FixName.mk (fch text (wr ((r.pos) + 1))) false)] : (qfLop0)))), .gone]⟩ ?_ (fun rd3 => ?_)
 refine RD.succ [0, 1, 6] (by kernel_rfl) rfl ⟨⟨_, _, _, rfl, ?_, rfl, rd5⟩, ⟨_, _, _, rfl, ?_, rfl, rd7⟩, ⟨_, _, _, rfl, ?_, rfl, rd8⟩, trivial⟩
 exact WL.run ht hn 1 _ (by kernel_rfl) WL.nilI
 exact WL.run ht hn 1 _ (by kernel_rfl) WL.nilI
 exact WL.run ht hn 1 _ (by kernel_rfl) WL.nilI
 refine RD.have 14 #[false, true, false, false, false, false, false, false, false, false, false, false, false, false, false] ⟨[sl 0 (.pptr 0 0 (Bk 0)), sl 1 (.v (.int .u8 ch)), sl 6 (.rd (trR fLab (r_3.1))), sl 57 (.ptr 0 0)], [.box [.v (.string text), I (r_3.2.pos), I (r_3.2.deep), I (r_3.2.cnt), .own 1] 144 false, rowI 236 FixName.ty (((((ar))) ++ ([(FixName.mk (fch text (wr ((r.pos) + 1))) false)] : (qfLop0)))), .gone]⟩ ?_ (fun rd2 => ?_)
 refine RD.succ [0, 2, 5] (by kernel_rfl) rfl ⟨⟨_, _, _, rfl, ?_, rfl, rd4⟩, ⟨_, _, _, rfl, ?_, rfl, rd6⟩, ⟨_, _, _, rfl, ?_, rfl, rd7⟩, trivial⟩
 exact WL.run ht hn 1 _ (by kernel_rfl) WL.nilI
 exact WL.run ht hn 1 _ (by kernel_rfl) WL.nilI
 exact WL.run ht hn 1 _ (by kernel_rfl) WL.nilI
 refine RD.have 14 #[true, false, false, false, false, false, false, false, false, false, false, false, false, false, false] ⟨[sl 0 (.pptr 0 0 (Bk 0)), sl 1 (.v (.int .u8 ch)), sl 6 (.rd (trR fLab (r_3.1))), sl 56 (.ptr 0 0)], [.box [.v (.string text), I (r_3.2.pos), I (r_3.2.deep), I (r_3.2.cnt), .own 1] 144 false, rowI 236 FixName.ty (((((ar))) ++ ([(FixName.mk (fch text (wr ((r.pos) + 1))) false)] : (qfLop0)))), .gone]⟩ ?_ (fun rd1 => ?_)
 refine RD.succ [1, 5] (by kernel_rfl) rfl ⟨⟨_, _, _, rfl, ?_, rfl, rd4⟩, ⟨_, _, _, rfl, ?_, rfl, rd5⟩, trivial⟩
 exact WL.run ht hn 1 _ (by kernel_rfl) WL.nilI
 exact WL.run ht hn 1 _ (by kernel_rfl) WL.nilI
 refine RD.have 15 #[false, false, false, false, false, false, false, false, false, false, false, false, false, false, false] ⟨[sl 0 (.pptr 0 0 (Bk 0)), sl 1 (.v (.int .u8 ch)), sl 6 (.rd (trR fLab (r_3.1)))], [.box [.v (.string text), I (r_3.2.pos), I (r_3.2.deep), I (r_3.2.cnt), .own 1] 144 false, rowI 236 FixName.ty (((((ar))) ++ ([(FixName.mk (fch text (wr ((r.pos) + 1))) false)] : (qfLop0)))), .gone]⟩ ?_ (fun rd0 => ?_)
 refine RD.succ [0, 1, 5] (by kernel_rfl) rfl ⟨⟨_, _, _, rfl, ?_, rfl, rd1⟩, ⟨_, _, _, rfl, ?_, rfl, rd2⟩, ⟨_, _, _, rfl, ?_, rfl, rd3⟩, trivial⟩
 exact WL.run ht hn 1 _ (by kernel_rfl) WL.nilI
 exact WL.run ht hn 1 _ (by kernel_rfl) WL.nilI
 exact WL.run ht hn 1 _ (by kernel_rfl) WL.nilI
 exact RD.start rd0 rfl (by kernel_rfl) (sub_ok (by kernel_rfl))
 refine En.seq ?_
 refine En.region ?_
 refine WL.run ht hn 7 ⟨[sl 0 (.pptr 0 0 (Bk 0)), sl 70 (.v (.int .u8 ch)), sl 75 (I (((((((ar))) ++ ([(FixName.mk (fch text (wr ((r.pos) + 1))) false)] : (qfLop0)))).take ((wr (((((((ar))) ++ ([(FixName.mk (fch text (wr ((r.pos) + 1))) false)] : (qfLop0)))).length : Int) - 1)) : Int).toNat).length : Int)), sl 76 (.rd (trR fLab (r_3.1)))], [.box [.v (.string text), I (r_3.2.pos), I (r_3.2.deep), I (r_3.2.cnt), .own 1] 144 false, rowI 236 FixName.ty ((((((ar))) ++ ([(FixName.mk (fch text (wr ((r.pos) + 1))) false)] : (qfLop0)))).take ((wr (((((((ar))) ++ ([(FixName.mk (fch text (wr ((r.pos) + 1))) false)] : (qfLop0)))).length : Int) - 1)) : Int).toNat), .gone]⟩ (by kernel_rfl) ?_
 refine WL.mt0 (K := []) (p := some (3, rowI 83 (TT fLab) ([(r_3.1)] : (List (Tr FLab))))) hn (by rfl) (mt_lit (T := (TT fLab)) ([(r_3.1)] : (List (Tr FLab))) (mt_bsl 3 (r := cellsOf (TT fLab) ([(r_3.1)] : (List (Tr FLab)))) ht rfl (by rfl) (by rfl) (by rfl) (by kernel_rfl) (by rfl)) (fun _ h => by cases h) (fun _ => rfl) (fun _ => rfl) (by rfl) (Nat.le_of_ble_eq_true rfl)) (by rfl) (by rfl) (by rfl) ?_
 refine WL.run ht hn 3 ⟨[sl 0 (.pptr 0 0 (Bk 0)), sl 4 (.ptr 4 0)], [.box [.v (.string text), I (r_3.2.pos), I (r_3.2.deep), I (r_3.2.cnt), .own 1] 144 false, rowI 236 FixName.ty ((((((ar))) ++ ([(FixName.mk (fch text (wr ((r.pos) + 1))) false)] : (qfLop0)))).take ((wr (((((((ar))) ++ ([(FixName.mk (fch text (wr ((r.pos) + 1))) false)] : (qfLop0)))).length : Int) - 1)) : Int).toNat), .gone, rowI 83 (TT fLab) ([(r_3.1)] : (List (Tr FLab))), .box [.v (.int .u8 ch), I (((((((ar))) ++ ([(FixName.mk (fch text (wr ((r.pos) + 1))) false)] : (qfLop0)))).take ((wr (((((((ar))) ++ ([(FixName.mk (fch text (wr ((r.pos) + 1))) false)] : (qfLop0)))).length : Int) - 1)) : Int).toNat).length : Int), .own 3] 149 false]⟩ (by kernel_rfl) ?_
 refine WL.nil ?_
 refine En.ret ?_
 refine En.seal (T := (TT fLab)) (l := ([(r_3.1)] : (List (Tr FLab)))) (e := 83) 3 rfl ?_
 refine En.freeze [4] (by rfl) ?_
 refine En.ghost 4 (o1 (.rd (trR fLab (Tr.node (FLab.mk ch (((((((ar))) ++ ([(FixName.mk (fch text (wr ((r.pos) + 1))) false)] : (qfLop0)))).take ((wr (((((((ar))) ++ ([(FixName.mk (fch text (wr ((r.pos) + 1))) false)] : (qfLop0)))).length : Int) - 1)) : Int).toNat).length : Int)) ([(r_3.1)] : (List (Tr FLab))))))) (by rfl) (tree_of (lab := fLab) (x := (FLab.mk ch (((((((ar))) ++ ([(FixName.mk (fch text (wr ((r.pos) + 1))) false)] : (qfLop0)))).take ((wr (((((((ar))) ++ ([(FixName.mk (fch text (wr ((r.pos) + 1))) false)] : (qfLop0)))).length : Int) - 1)) : Int).toNat).length : Int))) (kids := ([(r_3.1)] : (List (Tr FLab)))) (i := 4) (by rfl) (by rfl) (by rfl)) ?_
 exact En.backE [0] ht ((Tr.node (FLab.mk ch (((((((ar))) ++ ([(FixName.mk (fch text (wr ((r.pos) + 1))) false)] : (qfLop0)))).take ((wr (((((((ar))) ++ ([(FixName.mk (fch text (wr ((r.pos) + 1))) false)] : (qfLop0)))).length : Int) - 1)) : Int).toNat).length : Int)) ([(r_3.1)] : (List (Tr FLab)))), (r_3.2.pos), (r_3.2.deep), (r_3.2.cnt), ((((((ar))) ++ ([(FixName.mk (fch text (wr ((r.pos) + 1))) false)] : (qfLop0)))).take ((wr (((((((ar))) ++ ([(FixName.mk (fch text (wr ((r.pos) + 1))) false)] : (qfLop0)))).length : Int) - 1)) : Int).toNat)) h (by kernel_rfl) (by rfl) rfl
theorem en151 : ∀ args w, (callFunc 151 args).run Try.prog w = .ok (.enter 151 args) w := enters_of Try.func151 (by kernel_rfl) rfl
theorem fcst_no {s : FS} (h : fcnt s = none) : fcst s = none := ob_none h
theorem fcst_of {s s1 : FS} (h : fcnt s = some s1) : fcst s = some (fstep s1) := ob h
theorem wr_byte {c : Int} (h0 : 97 ≤ c) (h1 : c ≤ 100) : wr (IntKind.wrap .u8 (c - 97)) = c - 97 := let_inF h0 h1
theorem fArr_all (k : Nat) (text : ByteArray) (ar : Nms) (s : FS) (ch : Int) (hp : fOk (k + 1) 0 text ar s ∧ s.pos < text.size) (Q : FTr × Int × Int × Int × List FixName → Prop) (P : Prop) (h1 : arrF (pF text k 0) text ar ch s = none → P) (h2 : ∀ r, arrF (pF text k 0) text ar ch s = some r → Q (r.1, r.2.pos, r.2.deep, r.2.cnt, ar)) : fArr_vc k text s.pos s.deep s.cnt ar ch Q P := by
 obtain ⟨⟨hz, hk, hg, ha⟩, hlt⟩ := hp
 have w0 := hg.1.1
 unfold fArr_vc
 have body : ∀ s0, fcnt s = some s0 → arrF (pF text k 0) text ar ch s = if 97 ≤ fch text (s0.pos + 1) ∧ fch text (s0.pos + 1) ≤ 100 then (fwant (if ch = 60 then 62 else 93) text ⟨s0.pos + 1 + 1, s0.deep, s0.cnt⟩).bind fun s2 => (pF text k 0 ar s2).bind fun r => some (fn ch (fch text (s0.pos + 1) - 97) [r.1], r.2) else none := fun s0 z => ob (fcst_of z)
 refine ⟨⟨hg, hz⟩, fun z => h1 (ob_none (fcst_no z)), fun s0 z0 => ?_⟩
 have e0 := body s0 z0
 obtain ⟨rfl, hc⟩ := fcnt_some z0
 dsimp only at e0
 rw [e0] at h1
 simp only [e0] at h2
 have g1 : gF text ⟨s.pos + 1, s.deep, s.cnt + 1⟩ := by
  have := fcnt_g hg z0
  exact fstep_g this.1 hlt
 have e1 : wr (s.pos + 1) = s.pos + 1 := by rw [wr_in (by omega) (by omega)]
 rw [e1]
 refine ⟨by omega, fun h => ⟨by decide, h1 (if_neg fun hh => ?_)⟩, fun h => ?_⟩
 ·have := hh.1
  have := hh.2
  rw [Bool.or_eq_true, decide_eq_true_iff, decide_eq_true_iff] at h
  omega
 have c1 : 97 ≤ fch text (s.pos + 1) ∧ fch text (s.pos + 1) ≤ 100 := by
  rw [Bool.or_eq_false_iff, decide_eq_false_iff_not, decide_eq_false_iff_not] at h
  omega
 have hl := fch_lt (text := text) (p := s.pos + 1) (by omega)
 have e2 : wr (s.pos + 1 + 1) = s.pos + 1 + 1 := by rw [wr_in (by omega) (by omega)]
 have g2 : gF text ⟨s.pos + 1 + 1, s.deep, s.cnt + 1⟩ := fstep_g g1 hl
 rw [e2, wr_byte c1.1 c1.2]
 rw [if_pos c1] at h1
 simp only [if_pos c1] at h2
 refine ⟨fun p d n => fwant (if ch = 60 then 62 else 93) text ⟨s.pos + 1 + 1, s.deep, s.cnt + 1⟩ = some ⟨p, d, n⟩, ⟨fun h => ?_, fun h => ?_⟩, fun p d n z1 => ?_⟩
 ·have c2 : ch = 60 := eq_of_beq h
  rw [if_pos c2] at h1 ⊢
  exact ⟨⟨g2, hz, by decide⟩, fun z => h1 (ob_none z), fun r z => z⟩
 ·have c2 : ¬ ch = 60 := by simpa using h
  rw [if_neg c2] at h1 ⊢
  exact ⟨⟨g2, hz, by decide⟩, fun z => h1 (ob_none z), fun r z => z⟩
 ·obtain ⟨g3, q3⟩ := fwant_g (by split <;> decide) g2 z1
  have q3 : p = s.pos + 1 + 1 + 1 := q3
  refine ⟨fOk_of (s := ⟨p, d, n⟩) hz g3 ha (by show 4 * ((text.size : Int) - p) + _ < _; omega), fun z => h1 ((ob z1).trans (ob_none z)), fun r z => h2 (fn ch (fch text (s.pos + 1) - 97) [r.1], r.2) ((ob z1).trans (ob z))⟩
theorem fLop_all (k : Nat) (text : ByteArray) (ar : Nms) (s : FS) (ch : Int) (hp : fOk (k + 1) 0 text ar s ∧ s.pos < text.size) (Q : FTr × Int × Int × Int × List FixName → Prop) (P : Prop) (h1 : lpF (pF text k 0) text ar ch s = none → P) (h2 : ∀ r, lpF (pF text k 0) text ar ch s = some r → Q (r.1, r.2.pos, r.2.deep, r.2.cnt, ar)) : fLop_vc k text s.pos s.deep s.cnt ar ch Q P := by
 obtain ⟨⟨hz, hk, hg, ha⟩, hlt⟩ := hp
 have w0 := hg.1.1
 unfold fLop_vc
 unfold lpF at h1 h2
 refine ⟨fun h => ⟨by decide, h1 (if_pos (by have := eq_of_beq h; omega))⟩, fun h => ?_⟩
 have c0 : ¬ ar.length = 3 := by
  have := beq_eq_false_iff_ne.1 h
  omega
 rw [if_neg c0] at h1
 simp only [if_neg c0] at h2
 have body : ∀ s0, fcnt s = some s0 → ((fcst s).bind fun s1 => if 88 ≤ fch text s1.pos ∧ fch text s1.pos ≤ 90 then (fwant 46 text (fstep s1)).bind fun s2 => (pF text k 0 (ar ++ [⟨fch text s1.pos, false⟩]) s2).bind fun r => some (fn ch ar.length [r.1], r.2) else none) = if 88 ≤ fch text (s0.pos + 1) ∧ fch text (s0.pos + 1) ≤ 90 then (fwant 46 text ⟨s0.pos + 1 + 1, s0.deep, s0.cnt⟩).bind fun s2 => (pF text k 0 (ar ++ [⟨fch text (s0.pos + 1), false⟩]) s2).bind fun r => some (fn ch ar.length [r.1], r.2) else none := fun s0 z => ob (fcst_of z)
 refine ⟨⟨hg, hz⟩, fun z => h1 (ob_none (fcst_no z)), fun s0 z0 => ?_⟩
 have e0 := body s0 z0
 obtain ⟨rfl, hc⟩ := fcnt_some z0
 dsimp only at e0
 rw [e0] at h1
 simp only [e0] at h2
 have g1 : gF text ⟨s.pos + 1, s.deep, s.cnt + 1⟩ := by
  have := fcnt_g hg z0
  exact fstep_g this.1 hlt
 have e1 : wr (s.pos + 1) = s.pos + 1 := by rw [wr_in (by omega) (by omega)]
 rw [e1]
 refine ⟨by omega, fun h => ⟨by decide, h1 (if_neg fun hh => ?_)⟩, fun h => ?_⟩
 ·have := hh.1
  have := hh.2
  rw [Bool.or_eq_true, decide_eq_true_iff, decide_eq_true_iff] at h
  omega
 have c1 : 88 ≤ fch text (s.pos + 1) ∧ fch text (s.pos + 1) ≤ 90 := by
  rw [Bool.or_eq_false_iff, decide_eq_false_iff_not, decide_eq_false_iff_not] at h
  omega
 have hl := fch_lt (text := text) (p := s.pos + 1) (by omega)
 have e2 : wr (s.pos + 1 + 1) = s.pos + 1 + 1 := by rw [wr_in (by omega) (by omega)]
 have g2 : gF text ⟨s.pos + 1 + 1, s.deep, s.cnt + 1⟩ := fstep_g g1 hl
 rw [e2]
 rw [if_pos c1] at h1
 simp only [if_pos c1] at h2
 refine ⟨⟨g2, hz, by decide⟩, fun z => h1 (ob_none z), fun s2 z1 => ?_⟩
 obtain ⟨g3, q3⟩ := fwant_g (by decide) g2 z1
 have q3 : s2.pos = s.pos + 1 + 1 + 1 := q3
 have hla : (ar ++ [(⟨fch text (s.pos + 1), false⟩ : FixName)]).length = ar.length + 1 := by simp
 have e3 : wr (((ar ++ [(⟨fch text (s.pos + 1), false⟩ : FixName)]).length : Int) - 1) = ar.length := by rw [hla, wr_in (by omega) (by omega)]; omega
 refine ⟨by unfold capOk; simp only [List.length_singleton]; omega, fOk_of (s := s2) hz g3 (by rw [hla]; omega) (by show 4 * ((text.size : Int) - s2.pos) + _ < _; omega), fun z => h1 ((ob z1).trans (ob_none z)), fun r z => ?_⟩
 rw [e3]
 refine ⟨⟨by omega, by rw [hla]; omega⟩, ?_⟩
 rw [Int.toNat_natCast, List.take_left]
 exact h2 (fn ch ar.length [r.1], r.2) ((ob z1).trans (ob z))
theorem fArr_ok (k : Nat) (ih : FC k) (text : ByteArray) (pos deep cnt : Int) (ar : List FixName) (ch : Int) (hp : fOk (k + 1) 0 text ar ⟨pos, deep, cnt⟩ ∧ pos < text.size) (r : FTr × FS) (hx : arrF (pF text k 0) text ar ch ⟨pos, deep, cnt⟩ = some r) : CtE 150 [.sv (.one (.ptr 0 0)), .sv (.one (.v (.int .u8 ch)))] [.box [.v (.string text), I pos, I deep, I cnt, .own 1] 144 false, rowI 236 FixName.ty ar] [0] (fun (_ : Unit) => True) (fun _ => .sv (.one (.rd (trR fLab r.1)))) (fun _ => [.box [.v (.string text), I r.2.pos, I r.2.deep, I r.2.cnt, .own 1] 144 false, rowI 236 FixName.ty ar]) :=
 (fArr_walk k text pos deep cnt ar ch ih (fun x => x = (r.1, r.2.pos, r.2.deep, r.2.cnt, ar)) False (fArr_all k text ar ⟨pos, deep, cnt⟩ ch hp _ _ (fun e => by rw [hx] at e; cases e) (fun y e => by rw [hx] at e; cases e; rfl))).toE fun x hx => ⟨(), trivial, by subst hx; rfl, by subst hx; rfl⟩
theorem fArr_bad (k : Nat) (ih : FC k) (text : ByteArray) (pos deep cnt : Int) (ar : List FixName) (ch : Int) (hp : fOk (k + 1) 0 text ar ⟨pos, deep, cnt⟩ ∧ pos < text.size) (hx : arrF (pF text k 0) text ar ch ⟨pos, deep, cnt⟩ = none) : CtX 150 [.sv (.one (.ptr 0 0)), .sv (.one (.v (.int .u8 ch)))] [.box [.v (.string text), I pos, I deep, I cnt, .own 1] 144 false, rowI 236 FixName.ty ar] (psStop 140) :=
 (fArr_walk k text pos deep cnt ar ch ih (fun _ => False) True (fArr_all k text ar ⟨pos, deep, cnt⟩ ch hp _ _ (fun _ => trivial) (fun y e => by rw [hx] at e; cases e))).toX
theorem fLop_ok (k : Nat) (ih : FC k) (text : ByteArray) (pos deep cnt : Int) (ar : List FixName) (ch : Int) (hp : fOk (k + 1) 0 text ar ⟨pos, deep, cnt⟩ ∧ pos < text.size) (r : FTr × FS) (hx : lpF (pF text k 0) text ar ch ⟨pos, deep, cnt⟩ = some r) : CtE 151 [.sv (.one (.ptr 0 0)), .sv (.one (.v (.int .u8 ch)))] [.box [.v (.string text), I pos, I deep, I cnt, .own 1] 144 false, rowI 236 FixName.ty ar] [0] (fun (_ : Unit) => True) (fun _ => .sv (.one (.rd (trR fLab r.1)))) (fun _ => [.box [.v (.string text), I r.2.pos, I r.2.deep, I r.2.cnt, .own 1] 144 false, rowI 236 FixName.ty ar]) :=
 (fLop_walk k text pos deep cnt ar ch ih (fun x => x = (r.1, r.2.pos, r.2.deep, r.2.cnt, ar)) False (fLop_all k text ar ⟨pos, deep, cnt⟩ ch hp _ _ (fun e => by rw [hx] at e; cases e) (fun y e => by rw [hx] at e; cases e; rfl))).toE fun x hx => ⟨(), trivial, by subst hx; rfl, by subst hx; rfl⟩
theorem fLop_bad (k : Nat) (ih : FC k) (text : ByteArray) (pos deep cnt : Int) (ar : List FixName) (ch : Int) (hp : fOk (k + 1) 0 text ar ⟨pos, deep, cnt⟩ ∧ pos < text.size) (hx : lpF (pF text k 0) text ar ch ⟨pos, deep, cnt⟩ = none) : CtX 151 [.sv (.one (.ptr 0 0)), .sv (.one (.v (.int .u8 ch)))] [.box [.v (.string text), I pos, I deep, I cnt, .own 1] 144 false, rowI 236 FixName.ty ar] (psStop 140) :=
 (fLop_walk k text pos deep cnt ar ch ih (fun _ => False) True (fLop_all k text ar ⟨pos, deep, cnt⟩ ch hp _ _ (fun _ => trivial) (fun y e => by rw [hx] at e; cases e))).toX
def fPar_vc (k : Nat) (text : ByteArray) (pos : Int) (deep : Int) (cnt : Int) (ar : (List FixName)) (Q : (Tr FLab) × Int × Int × Int × (List FixName) → Prop) (P : Prop) : Prop :=
 (0 ≤ pos) ∧
 IfP (((fch text pos) == 48) || ((fch text pos) == 49)) ((gF text ⟨(pos), (deep), (cnt)⟩ ∧ text.size ≤ 4000) ∧
 ((fcnt ⟨(pos), (deep), (cnt)⟩) = none → P) ∧ ∀ r, (fcnt ⟨(pos), (deep), (cnt)⟩) = some r →
 (Q ((Tr.node (FLab.mk (fch text pos) 0) []), (wr ((r.pos) + 1)), (r.deep), (r.cnt), ((ar))))) (IfP ((fch text pos) == 33) ((gF text ⟨(pos), (deep), (cnt)⟩ ∧ text.size ≤ 4000) ∧
 ((fcnt ⟨(pos), (deep), (cnt)⟩) = none → P) ∧ ∀ r_2, (fcnt ⟨(pos), (deep), (cnt)⟩) = some r_2 →
 (((((ar))).length ≤ 1000) ∧
 (fOk k 0 text ((flipA ((ar)))) ⟨((wr ((r_2.pos) + 1))), ((r_2.deep)), ((r_2.cnt))⟩) ∧
 ((pF text k 0 ((flipA ((ar)))) ⟨((wr ((r_2.pos) + 1))), ((r_2.deep)), ((r_2.cnt))⟩) = none → P) ∧ ∀ r_3, (pF text k 0 ((flipA ((ar)))) ⟨((wr ((r_2.pos) + 1))), ((r_2.deep)), ((r_2.cnt))⟩) = some r_3 →
 ((((((flipA ((ar)))))).length ≤ 1000) ∧
 Q ((Tr.node (FLab.mk 33 0) ([(r_3.1)] : (List (Tr FLab)))), ((r_3.2.pos)), ((r_3.2.deep)), ((r_3.2.cnt)), ((flipA (((flipA ((ar))))))))))) (IfP (((fch text pos) == 60) || ((fch text pos) == 91)) ((fOk (k + 1) 0 text (ar) ⟨(pos), (deep), (cnt)⟩ ∧ (pos) < text.size) ∧
 ((arrF (pF text k 0) text (ar) (fch text pos) ⟨(pos), (deep), (cnt)⟩) = none → P) ∧ ∀ r_4, (arrF (pF text k 0) text (ar) (fch text pos) ⟨(pos), (deep), (cnt)⟩) = some r_4 →
 (Q ((r_4.1), (r_4.2.pos), (r_4.2.deep), (r_4.2.cnt), ((ar))))) (IfP (((fch text pos) == 109) || ((fch text pos) == 110)) ((fOk (k + 1) 0 text (ar) ⟨(pos), (deep), (cnt)⟩ ∧ (pos) < text.size) ∧
 ((lpF (pF text k 0) text (ar) (fch text pos) ⟨(pos), (deep), (cnt)⟩) = none → P) ∧ ∀ r_5, (lpF (pF text k 0) text (ar) (fch text pos) ⟨(pos), (deep), (cnt)⟩) = some r_5 →
 (Q ((r_5.1), (r_5.2.pos), (r_5.2.deep), (r_5.2.cnt), ((ar))))) (IfP ((decide ((fch text pos) ≥ 88)) && (decide ((fch text pos) ≤ 90))) ((gF text ⟨(pos), (deep), (cnt)⟩ ∧ text.size ≤ 4000 ∧ (pos) < text.size ∧ ((ar)).length ≤ 1000) ∧
 ((namF (ar) (fch text pos) ⟨(pos), (deep), (cnt)⟩) = none → P) ∧ ∀ r_6, (namF (ar) (fch text pos) ⟨(pos), (deep), (cnt)⟩) = some r_6 →
 (Q ((r_6.1), (r_6.2.pos), (r_6.2.deep), (r_6.2.cnt), ((ar))))) (IfP ((fch text pos) != 40) (((4 : Int) ≠ 0) ∧
 P) (IfP ((deep) == 40) (((7 : Int) ≠ 0) ∧
 P) ((fOk k 2 text (ar) ⟨(wr ((pos) + 1)), (wr ((deep) + 1)), (cnt)⟩) ∧
 ((pF text k 2 (ar) ⟨(wr ((pos) + 1)), (wr ((deep) + 1)), (cnt)⟩) = none → P) ∧ ∀ r_7, (pF text k 2 (ar) ⟨(wr ((pos) + 1)), (wr ((deep) + 1)), (cnt)⟩) = some r_7 →
 ((gF text ⟨(r_7.2.pos), (r_7.2.deep), (r_7.2.cnt)⟩ ∧ text.size ≤ 4000 ∧ (41 : Int) ≠ 0) ∧
 ((fwant 41 text ⟨(r_7.2.pos), (r_7.2.deep), (r_7.2.cnt)⟩) = none → P) ∧ ∀ r_8, (fwant 41 text ⟨(r_7.2.pos), (r_7.2.deep), (r_7.2.cnt)⟩) = some r_8 →
 (Q ((r_7.1), (r_8.pos), (wr ((r_8.deep) - 1)), (r_8.cnt), (((ar)))))))))))))
set_option maxHeartbeats 2000000 in
theorem fPar_walk (k : Nat) (text : ByteArray) (pos : Int) (deep : Int) (cnt : Int) (ar : (List FixName)) (ih : FC k) (Q : (Tr FLab) × Int × Int × Int × (List FixName) → Prop) (P : Prop) (h : fPar_vc k text pos deep cnt ar Q P) : CtP 136 [.sv (.one (.ptr 0 0))] [.box [.v (.string text), I pos, I deep, I cnt, .own 1] 144 false, rowI 236 FixName.ty ar] [0] Q (fun (r : (Tr FLab) × Int × Int × Int × (List FixName)) => .sv (.one (.rd (trR fLab r.1)))) (fun (r : (Tr FLab) × Int × Int × Int × (List FixName)) => [.box [.v (.string text), I r.2.1, I r.2.2.1, I r.2.2.2.1, .own 1] 144 false, rowI 236 FixName.ty r.2.2.2.2]) (psStop 140) P := by
 have ht := tab_ok
 refine CtP.body Try.func136 rfl rfl rfl (by kernel_rfl) (by kernel_rfl) (fun c Bk hn hpan => ?_)
 unfold fPar_vc at h
 show En c ⟨[sl 0 (.pptr 0 0 (Bk 0))], [.box [.v (.string text), I pos, I deep, I cnt, .own 1] 144 false, rowI 236 FixName.ty ar]⟩ _
 refine En.seq ?_
 refine En.region ?_
 refine WL.run ht hn 1 ⟨[sl 0 (.pptr 0 0 (Bk 0))], [.box [.v (.string text), I pos, I deep, I cnt, .own 1] 144 false, rowI 236 FixName.ty ar]⟩ (by kernel_rfl) ?_
 refine WL.nil ?_
 refine En.seq ?_
 refine En.region ?_
 refine WL.run ht hn 1 ⟨[sl 0 (.pptr 0 0 (Bk 0)), sl 6 (.ptr 0 0)], [.box [.v (.string text), I pos, I deep, I cnt, .own 1] 144 false, rowI 236 FixName.ty ar]⟩ (by kernel_rfl) ?_
 have hp := h.1
 replace h := h.2
 refine WL.callE (fNow_ct text pos deep cnt ar hp) en110 (caps := []) [0, 1] hn (by rfl) rfl (by rfl) (argsAs (by kernel_rfl) (by rfl)) (by kernel_rfl) (by decide) (by rfl) (by rfl) (fun _ _ => ⟨by rfl, _, by rfl, ?_⟩)
 refine WL.run ht hn 1 ⟨[sl 0 (.pptr 0 0 (Bk 0)), sl 3 (.v (.int .u8 (fch text pos)))], [.box [.v (.string text), I (pos), I (deep), I (cnt), .own 1] 144 false, rowI 236 FixName.ty (ar)]⟩ (by kernel_rfl) ?_
 refine WL.nil ?_
 refine En.seq ?_
 refine En.block ?_
 refine En.seq ?_
 refine En.region ?_
 refine WL.run ht hn 3 ⟨[sl 0 (.pptr 0 0 (Bk 0)), sl 3 (.v (.int .u8 (fch text pos))), sl 11 (B ((fch text pos) == 48))], [.box [.v (.string text), I (pos), I (deep), I (cnt), .own 1] 144 false, rowI 236 FixName.ty (ar)]⟩ (by kernel_rfl) ?_
 refine WL.thru ⟨[sl 0 (.pptr 0 0 (Bk 0)), sl 3 (.v (.int .u8 (fch text pos))), sl 8 (B (((fch text pos) == 48) || ((fch text pos) == 49)))], [.box [.v (.string text), I (pos), I (deep), I (cnt), .own 1] 144 false, rowI 236 FixName.ty (ar)]⟩ ?_ ?_
 refine splitB ((fch text pos) == 48) (fun hb0 => ?_) (fun hb0 => ?_)
 refine WL.setB 11 hb0 (by kernel_rfl) ?_
 refine WL.run ht hn 4 ⟨[sl 0 (.pptr 0 0 (Bk 0)), sl 3 (.v (.int .u8 (fch text pos))), sl 8 (B true)], [.box [.v (.string text), I (pos), I (deep), I (cnt), .own 1] 144 false, rowI 236 FixName.ty (ar)]⟩ (by kernel_rfl) ?_
 exact WL.nil (sub_ok (by simp only [hb0]; kernel_rfl))
 refine WL.setB 11 hb0 (by kernel_rfl) ?_
 refine WL.run ht hn 4 ⟨[sl 0 (.pptr 0 0 (Bk 0)), sl 3 (.v (.int .u8 (fch text pos))), sl 8 (B ((fch text pos) == 49))], [.box [.v (.string text), I (pos), I (deep), I (cnt), .own 1] 144 false, rowI 236 FixName.ty (ar)]⟩ (by kernel_rfl) ?_
 exact WL.nil (sub_ok (by simp only [hb0]; kernel_rfl))
 refine En.cond (b := (((fch text pos) == 48) || ((fch text pos) == 49))) (by kernel_rfl) (fun hb => ?_) (fun hb => ?_)
 replace h := h.1 hb
 refine En.seq ?_
 refine En.region ?_
 refine WL.run ht hn 1 ⟨[sl 0 (.pptr 0 0 (Bk 0)), sl 3 (.v (.int .u8 (fch text pos))), sl 15 (.ptr 0 0)], [.box [.v (.string text), I (pos), I (deep), I (cnt), .own 1] 144 false, rowI 236 FixName.ty (ar)]⟩ (by kernel_rfl) ?_
 have hp := h.1
 replace h := h.2
 refine splitO ((fcnt ⟨(pos), (deep), (cnt)⟩)) (fun hr_2 => ?_) (fun r hr_2 => ?_)
 exact WL.callX (fCnt_bad text (pos) (deep) (cnt) (ar) hp hr_2) en111 (caps := []) [0, 1] (by rfl) rfl (by rfl) (argsAs (by kernel_rfl) (by rfl)) (by kernel_rfl) (by decide) (leftX hpan (h.1 hr_2))
 replace h := h.2 r hr_2
 refine WL.callE (fCnt_ok text (pos) (deep) (cnt) (ar) hp r hr_2) en111 (caps := []) [0, 1] hn (by rfl) rfl (by rfl) (argsAs (by kernel_rfl) (by rfl)) (by kernel_rfl) (by decide) (by rfl) (by rfl) (fun _ _ => ⟨by rfl, _, by rfl, ?_⟩)
 refine WL.nil ?_
 refine En.seq ?_
 refine En.region ?_
 refine WL.run ht hn 8 ⟨[sl 0 (.pptr 0 0 (Bk 0)), sl 3 (.v (.int .u8 (fch text pos)))], [.box [.v (.string text), I (wr ((r.pos) + 1)), I (r.deep), I (r.cnt), .own 1] 144 false, rowI 236 FixName.ty ((ar))]⟩ (by kernel_rfl) ?_
 refine WL.nil ?_
 refine En.seq ?_
 refine En.region ?_
 refine WL.run ht hn 4 ⟨[sl 0 (.pptr 0 0 (Bk 0)), sl 2 (.ptr 2 0)], [.box [.v (.string text), I (wr ((r.pos) + 1)), I (r.deep), I (r.cnt), .own 1] 144 false, rowI 236 FixName.ty ((ar)), .box [.v (.int .u8 (fch text pos)), I 0, .v (.slice none 0 0)] 149 false]⟩ (by kernel_rfl) ?_
 refine WL.nil ?_
 refine En.ret ?_
 refine En.nilBox (T := (TT fLab)) 2 2 (by rfl) (by rfl) ?_
 refine En.freeze [2] (by rfl) ?_
 refine En.ghost 2 (o1 (.rd (trR fLab (Tr.node (FLab.mk (fch text pos) 0) [])))) (by rfl) (tree_of (lab := fLab) (x := (FLab.mk (fch text pos) 0)) (kids := []) (i := 2) (by rfl) (by rfl) (by rfl)) ?_
 exact En.backE [0] ht ((Tr.node (FLab.mk (fch text pos) 0) []), (wr ((r.pos) + 1)), (r.deep), (r.cnt), ((ar))) h (by kernel_rfl) (by rfl) rfl
 replace h := h.2 hb
 refine En.seq ?_
 refine En.region ?_
 refine WL.run ht hn 3 ⟨[sl 0 (.pptr 0 0 (Bk 0)), sl 3 (.v (.int .u8 (fch text pos))), sl 27 (B ((fch text pos) == 33))], [.box [.v (.string text), I (pos), I (deep), I (cnt), .own 1] 144 false, rowI 236 FixName.ty (ar)]⟩ (by kernel_rfl) ?_
 refine WL.nil ?_
 refine En.cond (b := ((fch text pos) == 33)) (by kernel_rfl) (fun hb => ?_) (fun hb => ?_)
 replace h := h.1 hb
 refine En.seq ?_
 refine En.region ?_
 refine WL.run ht hn 1 ⟨[sl 0 (.pptr 0 0 (Bk 0)), sl 30 (.ptr 0 0)], [.box [.v (.string text), I (pos), I (deep), I (cnt), .own 1] 144 false, rowI 236 FixName.ty (ar)]⟩ (by kernel_rfl) ?_
 have hp := h.1
 replace h := h.2
 refine splitO ((fcnt ⟨(pos), (deep), (cnt)⟩)) (fun hr_3 => ?_) (fun r_2 hr_3 => ?_)
 exact WL.callX (fCnt_bad text (pos) (deep) (cnt) (ar) hp hr_3) en111 (caps := []) [0, 1] (by rfl) rfl (by rfl) (argsAs (by kernel_rfl) (by rfl)) (by kernel_rfl) (by decide) (leftX hpan (h.1 hr_3))
 replace h := h.2 r_2 hr_3
 refine WL.callE (fCnt_ok text (pos) (deep) (cnt) (ar) hp r_2 hr_3) en111 (caps := []) [0, 1] hn (by rfl) rfl (by rfl) (argsAs (by kernel_rfl) (by rfl)) (by kernel_rfl) (by decide) (by rfl) (by rfl) (fun _ _ => ⟨by rfl, _, by rfl, ?_⟩)
 refine WL.nil ?_
 refine En.seq ?_
 refine En.region ?_
 refine WL.run ht hn 8 ⟨[sl 0 (.pptr 0 0 (Bk 0))], [.box [.v (.string text), I (wr ((r_2.pos) + 1)), I (r_2.deep), I (r_2.cnt), .own 1] 144 false, rowI 236 FixName.ty ((ar))]⟩ (by kernel_rfl) ?_
 refine WL.nil ?_
 refine En.seq ?_
 refine En.region ?_
 refine WL.run ht hn 1 ⟨[sl 0 (.pptr 0 0 (Bk 0)), sl 39 (.ptr 0 0)], [.box [.v (.string text), I (wr ((r_2.pos) + 1)), I (r_2.deep), I (r_2.cnt), .own 1] 144 false, rowI 236 FixName.ty ((ar))]⟩ (by kernel_rfl) ?_
 have hp := h.1
 replace h := h.2
 refine WL.callE (fTurn_ct text (wr ((r_2.pos) + 1)) (r_2.deep) (r_2.cnt) ((ar)) hp) en149 (caps := []) [0, 1] hn (by rfl) rfl (by rfl) (argsAs (by kernel_rfl) (by rfl)) (by kernel_rfl) (by decide) (by rfl) (by rfl) (fun _ _ => ⟨by rfl, _, by rfl, ?_⟩)
 refine WL.nil ?_
 refine En.seq ?_
 refine En.region ?_
 refine WL.run ht hn 1 ⟨[sl 0 (.pptr 0 0 (Bk 0)), sl 41 (.ptr 0 0)], [.box [.v (.string text), I ((wr ((r_2.pos) + 1))), I ((r_2.deep)), I ((r_2.cnt)), .own 1] 144 false, rowI 236 FixName.ty ((flipA ((ar))))]⟩ (by kernel_rfl) ?_
 have hp := h.1
 replace h := h.2
 refine splitO ((pF text k 0 ((flipA ((ar)))) ⟨((wr ((r_2.pos) + 1))), ((r_2.deep)), ((r_2.cnt))⟩)) (fun hr_4 => ?_) (fun r_3 hr_4 => ?_)
 exact WL.callX (fI0_bad k ih text ((wr ((r_2.pos) + 1))) ((r_2.deep)) ((r_2.cnt)) ((flipA ((ar)))) hp hr_4) en136 (caps := []) [0, 1] (by rfl) rfl (by rfl) (argsAs (by kernel_rfl) (by rfl)) (by kernel_rfl) (by decide) (leftX hpan (h.1 hr_4))
 replace h := h.2 r_3 hr_4
 refine WL.callE (fI0_ok k ih text ((wr ((r_2.pos) + 1))) ((r_2.deep)) ((r_2.cnt)) ((flipA ((ar)))) hp r_3 hr_4) en136 (caps := []) [0, 1] hn (by rfl) rfl (by rfl) (argsAs (by kernel_rfl) (by rfl)) (by kernel_rfl) (by decide) (by rfl) (by rfl) (fun _ _ => ⟨by rfl, _, by rfl, ?_⟩)
 refine WL.run ht hn 1 ⟨[sl 0 (.pptr 0 0 (Bk 0)), sl 4 (.rd (trR fLab (r_3.1)))], [.box [.v (.string text), I (r_3.2.pos), I (r_3.2.deep), I (r_3.2.cnt), .own 1] 144 false, rowI 236 FixName.ty (((flipA ((ar)))))]⟩ (by kernel_rfl) ?_
 refine WL.nil ?_
 refine En.seq ?_
 refine En.region ?_
 refine WL.run ht hn 1 ⟨[sl 0 (.pptr 0 0 (Bk 0)), sl 4 (.rd (trR fLab (r_3.1))), sl 43 (.ptr 0 0)], [.box [.v (.string text), I (r_3.2.pos), I (r_3.2.deep), I (r_3.2.cnt), .own 1] 144 false, rowI 236 FixName.ty (((flipA ((ar)))))]⟩ (by kernel_rfl) ?_
 have hp := h.1
 replace h := h.2
 refine WL.callE (fTurn_ct text (r_3.2.pos) (r_3.2.deep) (r_3.2.cnt) (((flipA ((ar))))) hp) en149 (caps := []) [0, 1] hn (by rfl) rfl (by rfl) (argsAs (by kernel_rfl) (by rfl)) (by kernel_rfl) (by decide) (by rfl) (by rfl) (fun _ _ => ⟨by rfl, _, by rfl, ?_⟩)
 refine WL.nil ?_
 refine En.seq ?_
 refine En.region ?_
 refine WL.run ht hn 1 ⟨[sl 0 (.pptr 0 0 (Bk 0)), sl 45 (.rd (trR fLab (r_3.1)))], [.box [.v (.string text), I ((r_3.2.pos)), I ((r_3.2.deep)), I ((r_3.2.cnt)), .own 1] 144 false, rowI 236 FixName.ty ((flipA (((flipA ((ar)))))))]⟩ (by kernel_rfl) ?_
 refine WL.mt0 (K := []) (p := some (2, rowI 83 (TT fLab) ([(r_3.1)] : (List (Tr FLab))))) hn (by rfl) (mt_lit (T := (TT fLab)) ([(r_3.1)] : (List (Tr FLab))) (mt_bsl 2 (r := cellsOf (TT fLab) ([(r_3.1)] : (List (Tr FLab)))) ht rfl (by rfl) (by rfl) (by rfl) (by kernel_rfl) (by rfl)) (fun _ h => by cases h) (fun _ => rfl) (fun _ => rfl) (by rfl) (Nat.le_of_ble_eq_true rfl)) (by rfl) (by rfl) (by rfl) ?_
 refine WL.run ht hn 3 ⟨[sl 0 (.pptr 0 0 (Bk 0)), sl 2 (.ptr 3 0)], [.box [.v (.string text), I ((r_3.2.pos)), I ((r_3.2.deep)), I ((r_3.2.cnt)), .own 1] 144 false, rowI 236 FixName.ty ((flipA (((flipA ((ar))))))), rowI 83 (TT fLab) ([(r_3.1)] : (List (Tr FLab))), .box [.v (.int .u8 33), I 0, .own 2] 149 false]⟩ (by kernel_rfl) ?_
 refine WL.nil ?_
 refine En.ret ?_
 refine En.seal (T := (TT fLab)) (l := ([(r_3.1)] : (List (Tr FLab)))) (e := 83) 2 rfl ?_
 refine En.freeze [3] (by rfl) ?_
 refine En.ghost 2 (o1 (.rd (trR fLab (Tr.node (FLab.mk 33 0) ([(r_3.1)] : (List (Tr FLab))))))) (by rfl) (tree_of (lab := fLab) (x := (FLab.mk 33 0)) (kids := ([(r_3.1)] : (List (Tr FLab)))) (i := 3) (by rfl) (by rfl) (by rfl)) ?_
 exact En.backE [0] ht ((Tr.node (FLab.mk 33 0) ([(r_3.1)] : (List (Tr FLab)))), ((r_3.2.pos)), ((r_3.2.deep)), ((r_3.2.cnt)), ((flipA (((flipA ((ar)))))))) h (by kernel_rfl) (by rfl) rfl
 replace h := h.2 hb
 refine En.seq ?_
 refine En.region ?_
 refine WL.run ht hn 3 ⟨[sl 0 (.pptr 0 0 (Bk 0)), sl 3 (.v (.int .u8 (fch text pos))), sl 52 (B ((fch text pos) == 60))], [.box [.v (.string text), I (pos), I (deep), I (cnt), .own 1] 144 false, rowI 236 FixName.ty (ar)]⟩ (by kernel_rfl) ?_
 refine WL.thru ⟨[sl 0 (.pptr 0 0 (Bk 0)), sl 3 (.v (.int .u8 (fch text pos))), sl 49 (B (((fch text pos) == 60) || ((fch text pos) == 91)))], [.box [.v (.string text), I (pos), I (deep), I (cnt), .own 1] 144 false, rowI 236 FixName.ty (ar)]⟩ ?_ ?_
 refine splitB ((fch text pos) == 60) (fun hb0 => ?_) (fun hb0 => ?_)
 refine WL.setB 52 hb0 (by kernel_rfl) ?_
 refine WL.run ht hn 4 ⟨[sl 0 (.pptr 0 0 (Bk 0)), sl 3 (.v (.int .u8 (fch text pos))), sl 49 (B true)], [.box [.v (.string text), I (pos), I (deep), I (cnt), .own 1] 144 false, rowI 236 FixName.ty (ar)]⟩ (by kernel_rfl) ?_
 exact WL.nil (sub_ok (by simp only [hb0]; kernel_rfl))
 refine WL.setB 52 hb0 (by kernel_rfl) ?_
 refine WL.run ht hn 4 ⟨[sl 0 (.pptr 0 0 (Bk 0)), sl 3 (.v (.int .u8 (fch text pos))), sl 49 (B ((fch text pos) == 91))], [.box [.v (.string text), I (pos), I (deep), I (cnt), .own 1] 144 false, rowI 236 FixName.ty (ar)]⟩ (by kernel_rfl) ?_
 exact WL.nil (sub_ok (by simp only [hb0]; kernel_rfl))
 refine En.cond (b := (((fch text pos) == 60) || ((fch text pos) == 91))) (by kernel_rfl) (fun hb => ?_) (fun hb => ?_)
 replace h := h.1 hb
 refine En.seq ?_
 refine En.region ?_
 refine WL.run ht hn 2 ⟨[sl 0 (.pptr 0 0 (Bk 0)), sl 56 (.ptr 0 0), sl 57 (.v (.int .u8 (fch text pos)))], [.box [.v (.string text), I (pos), I (deep), I (cnt), .own 1] 144 false, rowI 236 FixName.ty (ar)]⟩ (by kernel_rfl) ?_
 have hp := h.1
 replace h := h.2
 refine splitO ((arrF (pF text k 0) text (ar) (fch text pos) ⟨(pos), (deep), (cnt)⟩)) (fun hr_5 => ?_) (fun r_4 hr_5 => ?_)
 exact WL.callX (fArr_bad k ih text (pos) (deep) (cnt) (ar) (fch text pos) hp hr_5) en150 (caps := []) [0, 1] (by rfl) rfl (by rfl) (argsAs (by kernel_rfl) (by rfl)) (by kernel_rfl) (by decide) (leftX hpan (h.1 hr_5))
 replace h := h.2 r_4 hr_5
 refine WL.callE (fArr_ok k ih text (pos) (deep) (cnt) (ar) (fch text pos) hp r_4 hr_5) en150 (caps := []) [0, 1] hn (by rfl) rfl (by rfl) (argsAs (by kernel_rfl) (by rfl)) (by kernel_rfl) (by decide) (by rfl) (by rfl) (fun _ _ => ⟨by rfl, _, by rfl, ?_⟩)
 refine WL.run ht hn 1 ⟨[sl 0 (.pptr 0 0 (Bk 0)), sl 2 (.rd (trR fLab (r_4.1)))], [.box [.v (.string text), I (r_4.2.pos), I (r_4.2.deep), I (r_4.2.cnt), .own 1] 144 false, rowI 236 FixName.ty ((ar))]⟩ (by kernel_rfl) ?_
 refine WL.nil ?_
 refine En.ret ?_
 exact En.backE [0] ht ((r_4.1), (r_4.2.pos), (r_4.2.deep), (r_4.2.cnt), ((ar))) h (by kernel_rfl) (by rfl) rfl
 replace h := h.2 hb
 refine En.seq ?_
 refine En.region ?_
 refine WL.run ht hn 3 ⟨[sl 0 (.pptr 0 0 (Bk 0)), sl 3 (.v (.int .u8 (fch text pos))), sl 62 (B ((fch text pos) == 109))], [.box [.v (.string text), I (pos), I (deep), I (cnt), .own 1] 144 false, rowI 236 FixName.ty (ar)]⟩ (by kernel_rfl) ?_
 refine WL.thru ⟨[sl 0 (.pptr 0 0 (Bk 0)), sl 3 (.v (.int .u8 (fch text pos))), sl 59 (B (((fch text pos) == 109) || ((fch text pos) == 110)))], [.box [.v (.string text), I (pos), I (deep), I (cnt), .own 1] 144 false, rowI 236 FixName.ty (ar)]⟩ ?_ ?_
 refine splitB ((fch text pos) == 109) (fun hb0 => ?_) (fun hb0 => ?_)
 refine WL.setB 62 hb0 (by kernel_rfl) ?_
 refine WL.run ht hn 4 ⟨[sl 0 (.pptr 0 0 (Bk 0)), sl 3 (.v (.int .u8 (fch text pos))), sl 59 (B true)], [.box [.v (.string text), I (pos), I (deep), I (cnt), .own 1] 144 false, rowI 236 FixName.ty (ar)]⟩ (by kernel_rfl) ?_
 exact WL.nil (sub_ok (by simp only [hb0]; kernel_rfl))
 refine WL.setB 62 hb0 (by kernel_rfl) ?_
 refine WL.run ht hn 4 ⟨[sl 0 (.pptr 0 0 (Bk 0)), sl 3 (.v (.int .u8 (fch text pos))), sl 59 (B ((fch text pos) == 110))], [.box [.v (.string text), I (pos), I (deep), I (cnt), .own 1] 144 false, rowI 236 FixName.ty (ar)]⟩ (by kernel_rfl) ?_
 exact WL.nil (sub_ok (by simp only [hb0]; kernel_rfl))
 refine En.cond (b := (((fch text pos) == 109) || ((fch text pos) == 110))) (by kernel_rfl) (fun hb => ?_) (fun hb => ?_)
 replace h := h.1 hb
 refine En.seq ?_
 refine En.region ?_
 refine WL.run ht hn 2 ⟨[sl 0 (.pptr 0 0 (Bk 0)), sl 66 (.ptr 0 0), sl 67 (.v (.int .u8 (fch text pos)))], [.box [.v (.string text), I (pos), I (deep), I (cnt), .own 1] 144 false, rowI 236 FixName.ty (ar)]⟩ (by kernel_rfl) ?_
 have hp := h.1
 replace h := h.2
 refine splitO ((lpF (pF text k 0) text (ar) (fch text pos) ⟨(pos), (deep), (cnt)⟩)) (fun hr_6 => ?_) (fun r_5 hr_6 => ?_)
 exact WL.callX (fLop_bad k ih text (pos) (deep) (cnt) (ar) (fch text pos) hp hr_6) en151 (caps := []) [0, 1] (by rfl) rfl (by rfl) (argsAs (by kernel_rfl) (by rfl)) (by kernel_rfl) (by decide) (leftX hpan (h.1 hr_6))
 replace h := h.2 r_5 hr_6
 refine WL.callE (fLop_ok k ih text (pos) (deep) (cnt) (ar) (fch text pos) hp r_5 hr_6) en151 (caps := []) [0, 1] hn (by rfl) rfl (by rfl) (argsAs (by kernel_rfl) (by rfl)) (by kernel_rfl) (by decide) (by rfl) (by rfl) (fun _ _ => ⟨by rfl, _, by rfl, ?_⟩)
 refine WL.run ht hn 1 ⟨[sl 0 (.pptr 0 0 (Bk 0)), sl 2 (.rd (trR fLab (r_5.1)))], [.box [.v (.string text), I (r_5.2.pos), I (r_5.2.deep), I (r_5.2.cnt), .own 1] 144 false, rowI 236 FixName.ty ((ar))]⟩ (by kernel_rfl) ?_
 refine WL.nil ?_
 refine En.ret ?_
 exact En.backE [0] ht ((r_5.1), (r_5.2.pos), (r_5.2.deep), (r_5.2.cnt), ((ar))) h (by kernel_rfl) (by rfl) rfl
 replace h := h.2 hb
 refine En.seq ?_
 refine En.region ?_
 refine WL.run ht hn 3 ⟨[sl 0 (.pptr 0 0 (Bk 0)), sl 3 (.v (.int .u8 (fch text pos))), sl 72 (B (decide ((fch text pos) ≥ 88)))], [.box [.v (.string text), I (pos), I (deep), I (cnt), .own 1] 144 false, rowI 236 FixName.ty (ar)]⟩ (by kernel_rfl) ?_
 refine WL.thru ⟨[sl 0 (.pptr 0 0 (Bk 0)), sl 3 (.v (.int .u8 (fch text pos))), sl 69 (B ((decide ((fch text pos) ≥ 88)) && (decide ((fch text pos) ≤ 90))))], [.box [.v (.string text), I (pos), I (deep), I (cnt), .own 1] 144 false, rowI 236 FixName.ty (ar)]⟩ ?_ ?_
 refine splitB (decide ((fch text pos) ≥ 88)) (fun hb0 => ?_) (fun hb0 => ?_)
 refine WL.setB 72 hb0 (by kernel_rfl) ?_
 refine WL.run ht hn 4 ⟨[sl 0 (.pptr 0 0 (Bk 0)), sl 3 (.v (.int .u8 (fch text pos))), sl 69 (B (decide ((fch text pos) ≤ 90)))], [.box [.v (.string text), I (pos), I (deep), I (cnt), .own 1] 144 false, rowI 236 FixName.ty (ar)]⟩ (by kernel_rfl) ?_
 exact WL.nil (sub_ok (by simp only [hb0]; kernel_rfl))
 refine WL.setB 72 hb0 (by kernel_rfl) ?_
 refine WL.run ht hn 4 ⟨[sl 0 (.pptr 0 0 (Bk 0)), sl 3 (.v (.int .u8 (fch text pos))), sl 69 (B false)], [.box [.v (.string text), I (pos), I (deep), I (cnt), .own 1] 144 false, rowI 236 FixName.ty (ar)]⟩ (by kernel_rfl) ?_
 exact WL.nil (sub_ok (by simp only [hb0]; kernel_rfl))
 refine En.cond (b := ((decide ((fch text pos) ≥ 88)) && (decide ((fch text pos) ≤ 90)))) (by kernel_rfl) (fun hb => ?_) (fun hb => ?_)
 replace h := h.1 hb
 refine En.seq ?_
 refine En.region ?_
 refine WL.run ht hn 2 ⟨[sl 0 (.pptr 0 0 (Bk 0)), sl 76 (.ptr 0 0), sl 77 (.v (.int .u8 (fch text pos)))], [.box [.v (.string text), I (pos), I (deep), I (cnt), .own 1] 144 false, rowI 236 FixName.ty (ar)]⟩ (by kernel_rfl) ?_
 have hp := h.1
 replace h := h.2
 refine splitO ((namF (ar) (fch text pos) ⟨(pos), (deep), (cnt)⟩)) (fun hr_7 => ?_) (fun r_6 hr_7 => ?_)
 exact WL.callX (fNam_bad text (pos) (deep) (cnt) (ar) (fch text pos) hp hr_7) en152 (caps := []) [0, 1] (by rfl) rfl (by rfl) (argsAs (by kernel_rfl) (by rfl)) (by kernel_rfl) (by decide) (leftX hpan (h.1 hr_7))
 replace h := h.2 r_6 hr_7
 refine WL.callE (fNam_ok text (pos) (deep) (cnt) (ar) (fch text pos) hp r_6 hr_7) en152 (caps := []) [0, 1] hn (by rfl) rfl (by rfl) (argsAs (by kernel_rfl) (by rfl)) (by kernel_rfl) (by decide) (by rfl) (by rfl) (fun _ _ => ⟨by rfl, _, by rfl, ?_⟩)
 refine WL.run ht hn 1 ⟨[sl 0 (.pptr 0 0 (Bk 0)), sl 2 (.rd (trR fLab (r_6.1)))], [.box [.v (.string text), I (r_6.2.pos), I (r_6.2.deep), I (r_6.2.cnt), .own 1] 144 false, rowI 236 FixName.ty ((ar))]⟩ (by kernel_rfl) ?_
 refine WL.nil ?_
 refine En.ret ?_
 exact En.backE [0] ht ((r_6.1), (r_6.2.pos), (r_6.2.deep), (r_6.2.cnt), ((ar))) h (by kernel_rfl) (by rfl) rfl
 replace h := h.2 hb
 refine En.seq ?_
 refine En.region ?_
 refine WL.run ht hn 3 ⟨[sl 0 (.pptr 0 0 (Bk 0)), sl 79 (B ((fch text pos) != 40))], [.box [.v (.string text), I (pos), I (deep), I (cnt), .own 1] 144 false, rowI 236 FixName.ty (ar)]⟩ (by kernel_rfl) ?_
 refine WL.nil ?_
 refine En.cond (b := ((fch text pos) != 40)) (by kernel_rfl) (fun hb => ?_) (fun hb => ?_)
 replace h := h.1 hb
 refine En.region ?_
 refine WL.run ht hn 1 ⟨[sl 0 (.pptr 0 0 (Bk 0)), sl 82 (.ptr 0 0)], [.box [.v (.string text), I (pos), I (deep), I (cnt), .own 1] 144 false, rowI 236 FixName.ty (ar)]⟩ (by kernel_rfl) ?_
 have hp := h.1
 replace h := h.2
 exact WL.callX (fFail_ct text (pos) (deep) (cnt) (ar) 4 hp) en75 (caps := []) [0, 1] (by rfl) rfl (by rfl) (argsAs (by kernel_rfl) (by rfl)) (by kernel_rfl) (by decide) (leftX hpan h)
 replace h := h.2 hb
 refine En.seq ?_
 refine En.region ?_
 refine WL.run ht hn 6 ⟨[sl 0 (.pptr 0 0 (Bk 0)), sl 84 (B ((deep) == 40))], [.box [.v (.string text), I (pos), I (deep), I (cnt), .own 1] 144 false, rowI 236 FixName.ty (ar)]⟩ (by kernel_rfl) ?_
 refine WL.nil ?_
 refine En.cond (b := ((deep) == 40)) (by kernel_rfl) (fun hb => ?_) (fun hb => ?_)
 replace h := h.1 hb
 refine En.region ?_
 refine WL.run ht hn 1 ⟨[sl 0 (.pptr 0 0 (Bk 0)), sl 90 (.ptr 0 0)], [.box [.v (.string text), I (pos), I (deep), I (cnt), .own 1] 144 false, rowI 236 FixName.ty (ar)]⟩ (by kernel_rfl) ?_
 have hp := h.1
 replace h := h.2
 exact WL.callX (fFail_ct text (pos) (deep) (cnt) (ar) 7 hp) en75 (caps := []) [0, 1] (by rfl) rfl (by rfl) (argsAs (by kernel_rfl) (by rfl)) (by kernel_rfl) (by decide) (leftX hpan h)
 replace h := h.2 hb
 refine En.skip ?_
 refine En.seq ?_
 refine En.region ?_
 refine WL.run ht hn 8 ⟨[sl 0 (.pptr 0 0 (Bk 0))], [.box [.v (.string text), I (pos), I (wr ((deep) + 1)), I (cnt), .own 1] 144 false, rowI 236 FixName.ty (ar)]⟩ (by kernel_rfl) ?_
 refine WL.nil ?_
 refine En.seq ?_
 refine En.region ?_
 refine WL.run ht hn 8 ⟨[sl 0 (.pptr 0 0 (Bk 0))], [.box [.v (.string text), I (wr ((pos) + 1)), I (wr ((deep) + 1)), I (cnt), .own 1] 144 false, rowI 236 FixName.ty (ar)]⟩ (by kernel_rfl) ?_
 refine WL.nil ?_
 refine En.seq ?_
 refine En.region ?_
 refine WL.run ht hn 1 ⟨[sl 0 (.pptr 0 0 (Bk 0)), sl 106 (.ptr 0 0)], [.box [.v (.string text), I (wr ((pos) + 1)), I (wr ((deep) + 1)), I (cnt), .own 1] 144 false, rowI 236 FixName.ty (ar)]⟩ (by kernel_rfl) ?_
 have hp := h.1
 replace h := h.2
 refine splitO ((pF text k 2 (ar) ⟨(wr ((pos) + 1)), (wr ((deep) + 1)), (cnt)⟩)) (fun hr_8 => ?_) (fun r_7 hr_8 => ?_)
 exact WL.callX (fI2_bad k ih text (wr ((pos) + 1)) (wr ((deep) + 1)) (cnt) (ar) hp hr_8) en74 (caps := []) [0, 1] (by rfl) rfl (by rfl) (argsAs (by kernel_rfl) (by rfl)) (by kernel_rfl) (by decide) (leftX hpan (h.1 hr_8))
 replace h := h.2 r_7 hr_8
 refine WL.callE (fI2_ok k ih text (wr ((pos) + 1)) (wr ((deep) + 1)) (cnt) (ar) hp r_7 hr_8) en74 (caps := []) [0, 1] hn (by rfl) rfl (by rfl) (argsAs (by kernel_rfl) (by rfl)) (by kernel_rfl) (by decide) (by rfl) (by rfl) (fun _ _ => ⟨by rfl, _, by rfl, ?_⟩)
 refine WL.run ht hn 1 ⟨[sl 0 (.pptr 0 0 (Bk 0)), sl 5 (.rd (trR fLab (r_7.1)))], [.box [.v (.string text), I (r_7.2.pos), I (r_7.2.deep), I (r_7.2.cnt), .own 1] 144 false, rowI 236 FixName.ty ((ar))]⟩ (by kernel_rfl) ?_
 refine WL.nil ?_
 refine En.seq ?_
 refine En.region ?_
 refine WL.run ht hn 1 ⟨[sl 0 (.pptr 0 0 (Bk 0)), sl 5 (.rd (trR fLab (r_7.1))), sl 108 (.ptr 0 0)], [.box [.v (.string text), I (r_7.2.pos), I (r_7.2.deep), I (r_7.2.cnt), .own 1] 144 false, rowI 236 FixName.ty ((ar))]⟩ (by kernel_rfl) ?_
 have hp := h.1
 replace h := h.2
 refine splitO ((fwant 41 text ⟨(r_7.2.pos), (r_7.2.deep), (r_7.2.cnt)⟩)) (fun hr_9 => ?_) (fun r_8 hr_9 => ?_)
 exact WL.callX (fWnt_bad text (r_7.2.pos) (r_7.2.deep) (r_7.2.cnt) ((ar)) 41 hp hr_9) en153 (caps := []) [0, 1] (by rfl) rfl (by rfl) (argsAs (by kernel_rfl) (by rfl)) (by kernel_rfl) (by decide) (leftX hpan (h.1 hr_9))
 replace h := h.2 r_8 hr_9
 refine WL.callE (fWnt_ok text (r_7.2.pos) (r_7.2.deep) (r_7.2.cnt) ((ar)) 41 hp r_8 hr_9) en153 (caps := []) [0, 1] hn (by rfl) rfl (by rfl) (argsAs (by kernel_rfl) (by rfl)) (by kernel_rfl) (by decide) (by rfl) (by rfl) (fun _ _ => ⟨by rfl, _, by rfl, ?_⟩)
 refine WL.nil ?_
 refine En.seq ?_
 refine En.region ?_
 refine WL.run ht hn 8 ⟨[sl 0 (.pptr 0 0 (Bk 0)), sl 5 (.rd (trR fLab (r_7.1)))], [.box [.v (.string text), I (r_8.pos), I (wr ((r_8.deep) - 1)), I (r_8.cnt), .own 1] 144 false, rowI 236 FixName.ty (((ar)))]⟩ (by kernel_rfl) ?_
 refine WL.nil ?_
 refine En.seq ?_
 refine En.region ?_
 refine WL.run ht hn 2 ⟨[sl 0 (.pptr 0 0 (Bk 0)), sl 2 (.rd (trR fLab (r_7.1)))], [.box [.v (.string text), I (r_8.pos), I (wr ((r_8.deep) - 1)), I (r_8.cnt), .own 1] 144 false, rowI 236 FixName.ty (((ar)))]⟩ (by kernel_rfl) ?_
 refine WL.nil ?_
 refine En.ret ?_
 exact En.backE [0] ht ((r_7.1), (r_8.pos), (wr ((r_8.deep) - 1)), (r_8.cnt), (((ar)))) h (by kernel_rfl) (by rfl) rfl
def fTrm_vc (k : Nat) (text : ByteArray) (pos : Int) (deep : Int) (cnt : Int) (ar : (List FixName)) (Q : (Tr FLab) × Int × Int × Int × (List FixName) → Prop) (P : Prop) : Prop :=
 (fOk k 0 text ar ⟨pos, deep, cnt⟩) ∧
 ((pF text k 0 ar ⟨pos, deep, cnt⟩) = none → P) ∧ ∀ r, (pF text k 0 ar ⟨pos, deep, cnt⟩) = some r →
 (∃ (Inv : (Tr FLab) → Int → Int → Int → (List FixName) → Prop) (mu : (Tr FLab) → Int → Int → Int → (List FixName) → Nat), Inv (r.1) (r.2.pos) (r.2.deep) (r.2.cnt) (ar) ∧
 ∀ (x3 : (Tr FLab)) (y01 : Int) (y02 : Int) (y03 : Int) (l1 : (List FixName)) , Inv x3 y01 y02 y03 l1 → ((0 ≤ y01) ∧
 IfP ((fch text y01) == 38) ((gF text ⟨(y01), (y02), (y03)⟩ ∧ text.size ≤ 4000) ∧
 ((fcnt ⟨(y01), (y02), (y03)⟩) = none → P) ∧ ∀ r_2, (fcnt ⟨(y01), (y02), (y03)⟩) = some r_2 →
 ((fOk k 0 text ((l1)) ⟨(wr ((r_2.pos) + 1)), (r_2.deep), (r_2.cnt)⟩) ∧
 ((pF text k 0 ((l1)) ⟨(wr ((r_2.pos) + 1)), (r_2.deep), (r_2.cnt)⟩) = none → P) ∧ ∀ r_3, (pF text k 0 ((l1)) ⟨(wr ((r_2.pos) + 1)), (r_2.deep), (r_2.cnt)⟩) = some r_3 →
 ((Inv (Tr.node (FLab.mk 38 0) ([x3, (r_3.1)] : (List (Tr FLab)))) (r_3.2.pos) (r_3.2.deep) (r_3.2.cnt) (((l1))) ∧ mu (Tr.node (FLab.mk 38 0) ([x3, (r_3.1)] : (List (Tr FLab)))) (r_3.2.pos) (r_3.2.deep) (r_3.2.cnt) (((l1))) < mu x3 y01 y02 y03 l1)))) (Q (x3, (y01), (y02), (y03), (l1)))))
theorem fTrm_walk (k : Nat) (text : ByteArray) (pos : Int) (deep : Int) (cnt : Int) (ar : (List FixName)) (ih : FC k) (Q : (Tr FLab) × Int × Int × Int × (List FixName) → Prop) (P : Prop) (h : fTrm_vc k text pos deep cnt ar Q P) : CtP 109 [.sv (.one (.ptr 0 0))] [.box [.v (.string text), I pos, I deep, I cnt, .own 1] 144 false, rowI 236 FixName.ty ar] [0] Q (fun (r : (Tr FLab) × Int × Int × Int × (List FixName)) => .sv (.one (.rd (trR fLab r.1)))) (fun (r : (Tr FLab) × Int × Int × Int × (List FixName)) => [.box [.v (.string text), I r.2.1, I r.2.2.1, I r.2.2.2.1, .own 1] 144 false, rowI 236 FixName.ty r.2.2.2.2]) (psStop 140) P := by
 have ht := tab_ok
 refine CtP.body Try.func109 rfl rfl rfl (by kernel_rfl) (by kernel_rfl) (fun c Bk hn hpan => ?_)
 unfold fTrm_vc at h
 show En c ⟨[sl 0 (.pptr 0 0 (Bk 0))], [.box [.v (.string text), I pos, I deep, I cnt, .own 1] 144 false, rowI 236 FixName.ty ar]⟩ _
 refine En.seq ?_
 refine En.region ?_
 refine WL.run ht hn 1 ⟨[sl 0 (.pptr 0 0 (Bk 0))], [.box [.v (.string text), I pos, I deep, I cnt, .own 1] 144 false, rowI 236 FixName.ty ar]⟩ (by kernel_rfl) ?_
 refine WL.nil ?_
 refine En.seq ?_
 refine En.region ?_
 refine WL.run ht hn 1 ⟨[sl 0 (.pptr 0 0 (Bk 0)), sl 4 (.ptr 0 0)], [.box [.v (.string text), I pos, I deep, I cnt, .own 1] 144 false, rowI 236 FixName.ty ar]⟩ (by kernel_rfl) ?_
 have hp := h.1
 replace h := h.2
 refine splitO ((pF text k 0 ar ⟨pos, deep, cnt⟩)) (fun hr_2 => ?_) (fun r hr_2 => ?_)
 exact WL.callX (fI0_bad k ih text pos deep cnt ar hp hr_2) en136 (caps := []) [0, 1] (by rfl) rfl (by rfl) (argsAs (by kernel_rfl) (by rfl)) (by kernel_rfl) (by decide) (leftX hpan (h.1 hr_2))
 replace h := h.2 r hr_2
 refine WL.callE (fI0_ok k ih text pos deep cnt ar hp r hr_2) en136 (caps := []) [0, 1] hn (by rfl) rfl (by rfl) (argsAs (by kernel_rfl) (by rfl)) (by kernel_rfl) (by decide) (by rfl) (by rfl) (fun _ _ => ⟨by rfl, _, by rfl, ?_⟩)
 refine WL.run ht hn 1 ⟨[sl 0 (.pptr 0 0 (Bk 0)), sl 3 (.rd (trR fLab (r.1)))], [.box [.v (.string text), I (r.2.pos), I (r.2.deep), I (r.2.cnt), .own 1] 144 false, rowI 236 FixName.ty (ar)]⟩ (by kernel_rfl) ?_
 refine WL.nil ?_
 refine En.seq ?_
 refine En.block ?_
 obtain ⟨Inv, mu, h0, hI⟩ := h
 refine En.loop (σ := (Tr FLab) × Int × Int × Int × (List FixName)) (fun zz => Inv zz.1 zz.2.1 zz.2.2.1 zz.2.2.2.1 zz.2.2.2.2) (fun zz => mu zz.1 zz.2.1 zz.2.2.1 zz.2.2.2.1 zz.2.2.2.2) (fun zz => ⟨[sl 0 (.pptr 0 0 (Bk 0)), sl 3 (.rd (trR fLab zz.1))], [.box [.v (.string text), I zz.2.1, I zz.2.2.1, I zz.2.2.2.1, .own 1] 144 false, rowI 236 FixName.ty zz.2.2.2.2]⟩) ((r.1), (r.2.pos), (r.2.deep), (r.2.cnt), (ar)) h0 (sub_ok (by kernel_rfl)) ?_
 rintro ⟨x3, y01, y02, y03, l1⟩ h
 replace h := hI _ _ _ _ _ h
 show En c ⟨[sl 0 (.pptr 0 0 (Bk 0)), sl 3 (.rd (trR fLab x3))], [.box [.v (.string text), I y01, I y02, I y03, .own 1] 144 false, rowI 236 FixName.ty l1]⟩ _
 refine En.seq ?_
 refine En.seq ?_
 refine En.region ?_
 refine WL.run ht hn 1 ⟨[sl 0 (.pptr 0 0 (Bk 0)), sl 3 (.rd (trR fLab x3)), sl 6 (.ptr 0 0)], [.box [.v (.string text), I y01, I y02, I y03, .own 1] 144 false, rowI 236 FixName.ty l1]⟩ (by kernel_rfl) ?_
 have hp := h.1
 replace h := h.2
 refine WL.callE (fNow_ct text y01 y02 y03 l1 hp) en110 (caps := []) [0, 1] hn (by rfl) rfl (by rfl) (argsAs (by kernel_rfl) (by rfl)) (by kernel_rfl) (by decide) (by rfl) (by rfl) (fun _ _ => ⟨by rfl, _, by rfl, ?_⟩)
 refine WL.run ht hn 1 ⟨[sl 0 (.pptr 0 0 (Bk 0)), sl 3 (.rd (trR fLab x3)), sl 8 (B ((fch text y01) == 38))], [.box [.v (.string text), I (y01), I (y02), I (y03), .own 1] 144 false, rowI 236 FixName.ty (l1)]⟩ (by kernel_rfl) ?_
 refine WL.nil ?_
 refine En.cond (b := ((fch text y01) == 38)) (by kernel_rfl) (fun hb => ?_) (fun hb => ?_)
 replace h := h.1 hb
 refine En.skip ?_
 refine En.block ?_
 refine En.seq ?_
 refine En.region ?_
 refine WL.run ht hn 1 ⟨[sl 0 (.pptr 0 0 (Bk 0)), sl 3 (.rd (trR fLab x3)), sl 9 (.ptr 0 0)], [.box [.v (.string text), I (y01), I (y02), I (y03), .own 1] 144 false, rowI 236 FixName.ty (l1)]⟩ (by kernel_rfl) ?_
 have hp := h.1
 replace h := h.2
 refine splitO ((fcnt ⟨(y01), (y02), (y03)⟩)) (fun hr_3 => ?_) (fun r_2 hr_3 => ?_)
 exact WL.callX (fCnt_bad text (y01) (y02) (y03) (l1) hp hr_3) en111 (caps := []) [0, 1] (by rfl) rfl (by rfl) (argsAs (by kernel_rfl) (by rfl)) (by kernel_rfl) (by decide) (leftX hpan (h.1 hr_3))
 replace h := h.2 r_2 hr_3
 refine WL.callE (fCnt_ok text (y01) (y02) (y03) (l1) hp r_2 hr_3) en111 (caps := []) [0, 1] hn (by rfl) rfl (by rfl) (argsAs (by kernel_rfl) (by rfl)) (by kernel_rfl) (by decide) (by rfl) (by rfl) (fun _ _ => ⟨by rfl, _, by rfl, ?_⟩)
 refine WL.nil ?_
 refine En.seq ?_
 refine En.region ?_
 refine WL.run ht hn 8 ⟨[sl 0 (.pptr 0 0 (Bk 0)), sl 3 (.rd (trR fLab x3))], [.box [.v (.string text), I (wr ((r_2.pos) + 1)), I (r_2.deep), I (r_2.cnt), .own 1] 144 false, rowI 236 FixName.ty ((l1))]⟩ (by kernel_rfl) ?_
 refine WL.nil ?_
 refine En.region ?_
 refine WL.run ht hn 2 ⟨[sl 0 (.pptr 0 0 (Bk 0)), sl 18 (.rd (trR fLab x3)), sl 19 (.ptr 0 0)], [.box [.v (.string text), I (wr ((r_2.pos) + 1)), I (r_2.deep), I (r_2.cnt), .own 1] 144 false, rowI 236 FixName.ty ((l1))]⟩ (by kernel_rfl) ?_
 have hp := h.1
 replace h := h.2
 refine splitO ((pF text k 0 ((l1)) ⟨(wr ((r_2.pos) + 1)), (r_2.deep), (r_2.cnt)⟩)) (fun hr_4 => ?_) (fun r_3 hr_4 => ?_)
 exact WL.callX (fI0_bad k ih text (wr ((r_2.pos) + 1)) (r_2.deep) (r_2.cnt) ((l1)) hp hr_4) en136 (caps := []) [0, 1] (by rfl) rfl (by rfl) (argsAs (by kernel_rfl) (by rfl)) (by kernel_rfl) (by decide) (leftX hpan (h.1 hr_4))
 replace h := h.2 r_3 hr_4
 refine WL.callE (fI0_ok k ih text (wr ((r_2.pos) + 1)) (r_2.deep) (r_2.cnt) ((l1)) hp r_3 hr_4) en136 (caps := []) [0, 1] hn (by rfl) rfl (by rfl) (argsAs (by kernel_rfl) (by rfl)) (by kernel_rfl) (by decide) (by rfl) (by rfl) (fun _ _ => ⟨by rfl, _, by rfl, ?_⟩)
 refine WL.mt0 (K := []) (p := some (2, rowI 83 (TT fLab) ([x3, (r_3.1)] : (List (Tr FLab))))) hn (by rfl) (mt_lit (T := (TT fLab)) ([x3, (r_3.1)] : (List (Tr FLab))) (mt_bsl 2 (r := cellsOf (TT fLab) ([x3, (r_3.1)] : (List (Tr FLab)))) ht rfl (by rfl) (by rfl) (by rfl) (by kernel_rfl) (by rfl)) (fun _ h => by cases h) (fun _ => rfl) (fun _ => rfl) (by rfl) (Nat.le_of_ble_eq_true rfl)) (by rfl) (by rfl) (by rfl) ?_
 refine WL.run ht hn 3 ⟨[sl 0 (.pptr 0 0 (Bk 0)), sl 3 (.ptr 3 0)], [.box [.v (.string text), I (r_3.2.pos), I (r_3.2.deep), I (r_3.2.cnt), .own 1] 144 false, rowI 236 FixName.ty (((l1))), rowI 83 (TT fLab) ([x3, (r_3.1)] : (List (Tr FLab))), .box [.v (.int .u8 38), I 0, .own 2] 149 false]⟩ (by kernel_rfl) ?_
 refine WL.nil ?_
 refine En.seal (T := (TT fLab)) (l := ([x3, (r_3.1)] : (List (Tr FLab)))) (e := 83) 2 rfl ?_
 refine En.freeze [3] (by rfl) ?_
 refine En.ghost 3 (o1 (.rd (trR fLab (Tr.node (FLab.mk 38 0) ([x3, (r_3.1)] : (List (Tr FLab))))))) (by rfl) (tree_of (lab := fLab) (x := (FLab.mk 38 0)) (kids := ([x3, (r_3.1)] : (List (Tr FLab)))) (i := 3) (by rfl) (by rfl) (by rfl)) ?_
 exact En.at (I := fun zz => Inv zz.1 zz.2.1 zz.2.2.1 zz.2.2.2.1 zz.2.2.2.2 ∧ mu zz.1 zz.2.1 zz.2.2.1 zz.2.2.2.1 zz.2.2.2.2 < mu x3 y01 y02 y03 l1) (T := fun zz => ⟨[sl 0 (.pptr 0 0 (Bk 0)), sl 3 (.rd (trR fLab zz.1))], [.box [.v (.string text), I zz.2.1, I zz.2.2.1, I zz.2.2.2.1, .own 1] 144 false, rowI 236 FixName.ty zz.2.2.2.2]⟩) ((Tr.node (FLab.mk 38 0) ([x3, (r_3.1)] : (List (Tr FLab)))), (r_3.2.pos), (r_3.2.deep), (r_3.2.cnt), (((l1)))) h (by kernel_rfl)
 replace h := h.2 hb
 refine En.exit rfl ?_
 refine En.seq ?_
 refine En.region ?_
 refine WL.run ht hn 2 ⟨[sl 0 (.pptr 0 0 (Bk 0)), sl 2 (.rd (trR fLab x3))], [.box [.v (.string text), I (y01), I (y02), I (y03), .own 1] 144 false, rowI 236 FixName.ty (l1)]⟩ (by kernel_rfl) ?_
 refine WL.nil ?_
 refine En.ret ?_
 exact En.backE [0] ht (x3, (y01), (y02), (y03), (l1)) h (by kernel_rfl) (by rfl) rfl
def fWho_vc (k : Nat) (text : ByteArray) (pos : Int) (deep : Int) (cnt : Int) (ar : (List FixName)) (Q : (Tr FLab) × Int × Int × Int × (List FixName) → Prop) (P : Prop) : Prop :=
 (fOk k 1 text ar ⟨pos, deep, cnt⟩) ∧
 ((pF text k 1 ar ⟨pos, deep, cnt⟩) = none → P) ∧ ∀ r, (pF text k 1 ar ⟨pos, deep, cnt⟩) = some r →
 (∃ (Inv : (Tr FLab) → Int → Int → Int → (List FixName) → Prop) (mu : (Tr FLab) → Int → Int → Int → (List FixName) → Nat), Inv (r.1) (r.2.pos) (r.2.deep) (r.2.cnt) (ar) ∧
 ∀ (x3 : (Tr FLab)) (y01 : Int) (y02 : Int) (y03 : Int) (l1 : (List FixName)) , Inv x3 y01 y02 y03 l1 → ((0 ≤ y01) ∧
 IfP ((fch text y01) == 124) ((gF text ⟨(y01), (y02), (y03)⟩ ∧ text.size ≤ 4000) ∧
 ((fcnt ⟨(y01), (y02), (y03)⟩) = none → P) ∧ ∀ r_2, (fcnt ⟨(y01), (y02), (y03)⟩) = some r_2 →
 ((fOk k 1 text ((l1)) ⟨(wr ((r_2.pos) + 1)), (r_2.deep), (r_2.cnt)⟩) ∧
 ((pF text k 1 ((l1)) ⟨(wr ((r_2.pos) + 1)), (r_2.deep), (r_2.cnt)⟩) = none → P) ∧ ∀ r_3, (pF text k 1 ((l1)) ⟨(wr ((r_2.pos) + 1)), (r_2.deep), (r_2.cnt)⟩) = some r_3 →
 ((Inv (Tr.node (FLab.mk 124 0) ([x3, (r_3.1)] : (List (Tr FLab)))) (r_3.2.pos) (r_3.2.deep) (r_3.2.cnt) (((l1))) ∧ mu (Tr.node (FLab.mk 124 0) ([x3, (r_3.1)] : (List (Tr FLab)))) (r_3.2.pos) (r_3.2.deep) (r_3.2.cnt) (((l1))) < mu x3 y01 y02 y03 l1)))) (Q (x3, (y01), (y02), (y03), (l1)))))
theorem fWho_walk (k : Nat) (text : ByteArray) (pos : Int) (deep : Int) (cnt : Int) (ar : (List FixName)) (ih : FC k) (Q : (Tr FLab) × Int × Int × Int × (List FixName) → Prop) (P : Prop) (h : fWho_vc k text pos deep cnt ar Q P) : CtP 74 [.sv (.one (.ptr 0 0))] [.box [.v (.string text), I pos, I deep, I cnt, .own 1] 144 false, rowI 236 FixName.ty ar] [0] Q (fun (r : (Tr FLab) × Int × Int × Int × (List FixName)) => .sv (.one (.rd (trR fLab r.1)))) (fun (r : (Tr FLab) × Int × Int × Int × (List FixName)) => [.box [.v (.string text), I r.2.1, I r.2.2.1, I r.2.2.2.1, .own 1] 144 false, rowI 236 FixName.ty r.2.2.2.2]) (psStop 140) P := by
 have ht := tab_ok
 refine CtP.body Try.func74 rfl rfl rfl (by kernel_rfl) (by kernel_rfl) (fun c Bk hn hpan => ?_)
 unfold fWho_vc at h
 show En c ⟨[sl 0 (.pptr 0 0 (Bk 0))], [.box [.v (.string text), I pos, I deep, I cnt, .own 1] 144 false, rowI 236 FixName.ty ar]⟩ _
 refine En.seq ?_
 refine En.region ?_
 refine WL.run ht hn 1 ⟨[sl 0 (.pptr 0 0 (Bk 0))], [.box [.v (.string text), I pos, I deep, I cnt, .own 1] 144 false, rowI 236 FixName.ty ar]⟩ (by kernel_rfl) ?_
 refine WL.nil ?_
 refine En.seq ?_
 refine En.region ?_
 refine WL.run ht hn 1 ⟨[sl 0 (.pptr 0 0 (Bk 0)), sl 4 (.ptr 0 0)], [.box [.v (.string text), I pos, I deep, I cnt, .own 1] 144 false, rowI 236 FixName.ty ar]⟩ (by kernel_rfl) ?_
 have hp := h.1
 replace h := h.2
 refine splitO ((pF text k 1 ar ⟨pos, deep, cnt⟩)) (fun hr_2 => ?_) (fun r hr_2 => ?_)
 exact WL.callX (fI1_bad k ih text pos deep cnt ar hp hr_2) en109 (caps := []) [0, 1] (by rfl) rfl (by rfl) (argsAs (by kernel_rfl) (by rfl)) (by kernel_rfl) (by decide) (leftX hpan (h.1 hr_2))
 replace h := h.2 r hr_2
 refine WL.callE (fI1_ok k ih text pos deep cnt ar hp r hr_2) en109 (caps := []) [0, 1] hn (by rfl) rfl (by rfl) (argsAs (by kernel_rfl) (by rfl)) (by kernel_rfl) (by decide) (by rfl) (by rfl) (fun _ _ => ⟨by rfl, _, by rfl, ?_⟩)
 refine WL.run ht hn 1 ⟨[sl 0 (.pptr 0 0 (Bk 0)), sl 3 (.rd (trR fLab (r.1)))], [.box [.v (.string text), I (r.2.pos), I (r.2.deep), I (r.2.cnt), .own 1] 144 false, rowI 236 FixName.ty (ar)]⟩ (by kernel_rfl) ?_
 refine WL.nil ?_
 refine En.seq ?_
 refine En.block ?_
 obtain ⟨Inv, mu, h0, hI⟩ := h
 refine En.loop (σ := (Tr FLab) × Int × Int × Int × (List FixName)) (fun zz => Inv zz.1 zz.2.1 zz.2.2.1 zz.2.2.2.1 zz.2.2.2.2) (fun zz => mu zz.1 zz.2.1 zz.2.2.1 zz.2.2.2.1 zz.2.2.2.2) (fun zz => ⟨[sl 0 (.pptr 0 0 (Bk 0)), sl 3 (.rd (trR fLab zz.1))], [.box [.v (.string text), I zz.2.1, I zz.2.2.1, I zz.2.2.2.1, .own 1] 144 false, rowI 236 FixName.ty zz.2.2.2.2]⟩) ((r.1), (r.2.pos), (r.2.deep), (r.2.cnt), (ar)) h0 (sub_ok (by kernel_rfl)) ?_
 rintro ⟨x3, y01, y02, y03, l1⟩ h
 replace h := hI _ _ _ _ _ h
 show En c ⟨[sl 0 (.pptr 0 0 (Bk 0)), sl 3 (.rd (trR fLab x3))], [.box [.v (.string text), I y01, I y02, I y03, .own 1] 144 false, rowI 236 FixName.ty l1]⟩ _
 refine En.seq ?_
 refine En.seq ?_
 refine En.region ?_
 refine WL.run ht hn 1 ⟨[sl 0 (.pptr 0 0 (Bk 0)), sl 3 (.rd (trR fLab x3)), sl 6 (.ptr 0 0)], [.box [.v (.string text), I y01, I y02, I y03, .own 1] 144 false, rowI 236 FixName.ty l1]⟩ (by kernel_rfl) ?_
 have hp := h.1
 replace h := h.2
 refine WL.callE (fNow_ct text y01 y02 y03 l1 hp) en110 (caps := []) [0, 1] hn (by rfl) rfl (by rfl) (argsAs (by kernel_rfl) (by rfl)) (by kernel_rfl) (by decide) (by rfl) (by rfl) (fun _ _ => ⟨by rfl, _, by rfl, ?_⟩)
 refine WL.run ht hn 1 ⟨[sl 0 (.pptr 0 0 (Bk 0)), sl 3 (.rd (trR fLab x3)), sl 8 (B ((fch text y01) == 124))], [.box [.v (.string text), I (y01), I (y02), I (y03), .own 1] 144 false, rowI 236 FixName.ty (l1)]⟩ (by kernel_rfl) ?_
 refine WL.nil ?_
 refine En.cond (b := ((fch text y01) == 124)) (by kernel_rfl) (fun hb => ?_) (fun hb => ?_)
 replace h := h.1 hb
 refine En.skip ?_
 refine En.block ?_
 refine En.seq ?_
 refine En.region ?_
 refine WL.run ht hn 1 ⟨[sl 0 (.pptr 0 0 (Bk 0)), sl 3 (.rd (trR fLab x3)), sl 9 (.ptr 0 0)], [.box [.v (.string text), I (y01), I (y02), I (y03), .own 1] 144 false, rowI 236 FixName.ty (l1)]⟩ (by kernel_rfl) ?_
 have hp := h.1
 replace h := h.2
 refine splitO ((fcnt ⟨(y01), (y02), (y03)⟩)) (fun hr_3 => ?_) (fun r_2 hr_3 => ?_)
 exact WL.callX (fCnt_bad text (y01) (y02) (y03) (l1) hp hr_3) en111 (caps := []) [0, 1] (by rfl) rfl (by rfl) (argsAs (by kernel_rfl) (by rfl)) (by kernel_rfl) (by decide) (leftX hpan (h.1 hr_3))
 replace h := h.2 r_2 hr_3
 refine WL.callE (fCnt_ok text (y01) (y02) (y03) (l1) hp r_2 hr_3) en111 (caps := []) [0, 1] hn (by rfl) rfl (by rfl) (argsAs (by kernel_rfl) (by rfl)) (by kernel_rfl) (by decide) (by rfl) (by rfl) (fun _ _ => ⟨by rfl, _, by rfl, ?_⟩)
 refine WL.nil ?_
 refine En.seq ?_
 refine En.region ?_
 refine WL.run ht hn 8 ⟨[sl 0 (.pptr 0 0 (Bk 0)), sl 3 (.rd (trR fLab x3))], [.box [.v (.string text), I (wr ((r_2.pos) + 1)), I (r_2.deep), I (r_2.cnt), .own 1] 144 false, rowI 236 FixName.ty ((l1))]⟩ (by kernel_rfl) ?_
 refine WL.nil ?_
 refine En.region ?_
 refine WL.run ht hn 2 ⟨[sl 0 (.pptr 0 0 (Bk 0)), sl 18 (.rd (trR fLab x3)), sl 19 (.ptr 0 0)], [.box [.v (.string text), I (wr ((r_2.pos) + 1)), I (r_2.deep), I (r_2.cnt), .own 1] 144 false, rowI 236 FixName.ty ((l1))]⟩ (by kernel_rfl) ?_
 have hp := h.1
 replace h := h.2
 refine splitO ((pF text k 1 ((l1)) ⟨(wr ((r_2.pos) + 1)), (r_2.deep), (r_2.cnt)⟩)) (fun hr_4 => ?_) (fun r_3 hr_4 => ?_)
 exact WL.callX (fI1_bad k ih text (wr ((r_2.pos) + 1)) (r_2.deep) (r_2.cnt) ((l1)) hp hr_4) en109 (caps := []) [0, 1] (by rfl) rfl (by rfl) (argsAs (by kernel_rfl) (by rfl)) (by kernel_rfl) (by decide) (leftX hpan (h.1 hr_4))
 replace h := h.2 r_3 hr_4
 refine WL.callE (fI1_ok k ih text (wr ((r_2.pos) + 1)) (r_2.deep) (r_2.cnt) ((l1)) hp r_3 hr_4) en109 (caps := []) [0, 1] hn (by rfl) rfl (by rfl) (argsAs (by kernel_rfl) (by rfl)) (by kernel_rfl) (by decide) (by rfl) (by rfl) (fun _ _ => ⟨by rfl, _, by rfl, ?_⟩)
 refine WL.mt0 (K := []) (p := some (2, rowI 83 (TT fLab) ([x3, (r_3.1)] : (List (Tr FLab))))) hn (by rfl) (mt_lit (T := (TT fLab)) ([x3, (r_3.1)] : (List (Tr FLab))) (mt_bsl 2 (r := cellsOf (TT fLab) ([x3, (r_3.1)] : (List (Tr FLab)))) ht rfl (by rfl) (by rfl) (by rfl) (by kernel_rfl) (by rfl)) (fun _ h => by cases h) (fun _ => rfl) (fun _ => rfl) (by rfl) (Nat.le_of_ble_eq_true rfl)) (by rfl) (by rfl) (by rfl) ?_
 refine WL.run ht hn 3 ⟨[sl 0 (.pptr 0 0 (Bk 0)), sl 3 (.ptr 3 0)], [.box [.v (.string text), I (r_3.2.pos), I (r_3.2.deep), I (r_3.2.cnt), .own 1] 144 false, rowI 236 FixName.ty (((l1))), rowI 83 (TT fLab) ([x3, (r_3.1)] : (List (Tr FLab))), .box [.v (.int .u8 124), I 0, .own 2] 149 false]⟩ (by kernel_rfl) ?_
 refine WL.nil ?_
 refine En.seal (T := (TT fLab)) (l := ([x3, (r_3.1)] : (List (Tr FLab)))) (e := 83) 2 rfl ?_
 refine En.freeze [3] (by rfl) ?_
 refine En.ghost 3 (o1 (.rd (trR fLab (Tr.node (FLab.mk 124 0) ([x3, (r_3.1)] : (List (Tr FLab))))))) (by rfl) (tree_of (lab := fLab) (x := (FLab.mk 124 0)) (kids := ([x3, (r_3.1)] : (List (Tr FLab)))) (i := 3) (by rfl) (by rfl) (by rfl)) ?_
 exact En.at (I := fun zz => Inv zz.1 zz.2.1 zz.2.2.1 zz.2.2.2.1 zz.2.2.2.2 ∧ mu zz.1 zz.2.1 zz.2.2.1 zz.2.2.2.1 zz.2.2.2.2 < mu x3 y01 y02 y03 l1) (T := fun zz => ⟨[sl 0 (.pptr 0 0 (Bk 0)), sl 3 (.rd (trR fLab zz.1))], [.box [.v (.string text), I zz.2.1, I zz.2.2.1, I zz.2.2.2.1, .own 1] 144 false, rowI 236 FixName.ty zz.2.2.2.2]⟩) ((Tr.node (FLab.mk 124 0) ([x3, (r_3.1)] : (List (Tr FLab)))), (r_3.2.pos), (r_3.2.deep), (r_3.2.cnt), (((l1)))) h (by kernel_rfl)
 replace h := h.2 hb
 refine En.exit rfl ?_
 refine En.seq ?_
 refine En.region ?_
 refine WL.run ht hn 2 ⟨[sl 0 (.pptr 0 0 (Bk 0)), sl 2 (.rd (trR fLab x3))], [.box [.v (.string text), I (y01), I (y02), I (y03), .own 1] 144 false, rowI 236 FixName.ty (l1)]⟩ (by kernel_rfl) ?_
 refine WL.nil ?_
 refine En.ret ?_
 exact En.backE [0] ht (x3, (y01), (y02), (y03), (l1)) h (by kernel_rfl) (by rfl) rfl
theorem fPar_all (k : Nat) (text : ByteArray) (ar : Nms) (s : FS) (hp : fOk (k + 1) 0 text ar s) (Q : FTr × Int × Int × Int × List FixName → Prop) (P : Prop) (h1 : pF text (k + 1) 0 ar s = none → P) (h2 : ∀ r, pF text (k + 1) 0 ar s = some r → Q (r.1, r.2.pos, r.2.deep, r.2.cnt, ar)) : fPar_vc k text s.pos s.deep s.cnt ar Q P := by
 obtain ⟨hz, hk, hg, ha⟩ := hp
 have e0 : pF text (k + 1) 0 ar s = parF (pF text k 0) (pF text k 2) text ar s := rfl
 rw [e0] at h1
 simp only [e0] at h2
 unfold parF at h1 h2
 unfold fPar_vc
 have w0 := hg.1.1
 refine ⟨w0, fun h => ?_, fun h => ?_⟩
 ·have c : fch text s.pos = 48 ∨ fch text s.pos = 49 := by simpa using h
  have hl := fch_lt (text := text) (p := s.pos) (by omega)
  refine ⟨⟨hg, hz⟩, fun z => h1 ((if_pos c).trans (ob_none (fcst_no z))), fun s1 z => ?_⟩
  have q := fcnt_g hg z
  rw [show wr (s1.pos + 1) = s1.pos + 1 by rw [q.2.1, wr_in (by omega) (by omega)]]
  exact h2 (fn (fch text s.pos) 0 [], fstep s1) ((if_pos c).trans (ob (fcst_of z)))
 have n1 : ¬ (fch text s.pos = 48 ∨ fch text s.pos = 49) := by simpa using h
 rw [if_neg n1] at h1
 simp only [if_neg n1] at h2
 refine ⟨fun h => ?_, fun h => ?_⟩
 ·have c := eq_of_beq h
  have hl := fch_lt (text := text) (p := s.pos) (by omega)
  refine ⟨⟨hg, hz⟩, fun z => h1 ((if_pos c).trans (ob_none (fcst_no z))), fun s1 z1 => ?_⟩
  have q := fcnt_g hg z1
  rw [show wr (s1.pos + 1) = s1.pos + 1 by rw [q.2.1, wr_in (by omega) (by omega)]]
  have g1 : gF text (fstep s1) := fstep_g q.1 (by rw [q.2.1]; exact hl)
  refine ⟨by omega, fOk_of (s := fstep s1) hz g1 (by rw [flip_len]; exact ha) (by show 4 * ((text.size : Int) - (s1.pos + 1)) + _ < _; rw [q.2.1]; omega), fun z => h1 ((if_pos c).trans ((ob (fcst_of z1)).trans (ob_none z))), fun r z => ⟨by rw [flip_len]; omega, ?_⟩⟩
  rw [flip_flip]
  exact h2 (fn 33 0 [r.1], r.2) ((if_pos c).trans ((ob (fcst_of z1)).trans (ob z)))
 have n2 : ¬ fch text s.pos = 33 := by simpa using h
 rw [if_neg n2] at h1
 simp only [if_neg n2] at h2
 refine ⟨fun h => ?_, fun h => ?_⟩
 ·have c : fch text s.pos = 60 ∨ fch text s.pos = 91 := by simpa using h
  have hl := fch_lt (text := text) (p := s.pos) (by omega)
  exact ⟨⟨⟨hz, hk, hg, ha⟩, hl⟩, fun z => h1 ((if_pos c).trans z), fun r z => h2 r ((if_pos c).trans z)⟩
 have n3 : ¬ (fch text s.pos = 60 ∨ fch text s.pos = 91) := by simpa using h
 rw [if_neg n3] at h1
 simp only [if_neg n3] at h2
 refine ⟨fun h => ?_, fun h => ?_⟩
 ·have c : fch text s.pos = 109 ∨ fch text s.pos = 110 := by simpa using h
  have hl := fch_lt (text := text) (p := s.pos) (by omega)
  exact ⟨⟨⟨hz, hk, hg, ha⟩, hl⟩, fun z => h1 ((if_pos c).trans z), fun r z => h2 r ((if_pos c).trans z)⟩
 have n4 : ¬ (fch text s.pos = 109 ∨ fch text s.pos = 110) := by simpa using h
 rw [if_neg n4] at h1
 simp only [if_neg n4] at h2
 refine ⟨fun h => ?_, fun h => ?_⟩
 ·have c : 88 ≤ fch text s.pos ∧ fch text s.pos ≤ 90 := by simpa using h
  have hl := fch_lt (text := text) (p := s.pos) (by omega)
  exact ⟨⟨hg, hz, hl, by omega⟩, fun z => h1 ((if_pos c).trans z), fun r z => h2 r ((if_pos c).trans z)⟩
 have n5 : ¬ (88 ≤ fch text s.pos ∧ fch text s.pos ≤ 90) := by
  intro hh
  have := hh.1
  have := hh.2
  simp [*] at h
 rw [if_neg n5] at h1
 simp only [if_neg n5] at h2
 refine ⟨fun h => ⟨by decide, h1 (if_neg (bne_iff_ne.1 h))⟩, fun h => ?_⟩
 have c := bne_eq_false_iff_eq.1 h
 have hl := fch_lt (text := text) (p := s.pos) (by omega)
 rw [if_pos c] at h1
 simp only [if_pos c] at h2
 obtain ⟨⟨p0, p1⟩, ⟨m0, m1⟩, d0, d1⟩ := hg
 refine ⟨fun h => ⟨by decide, h1 (if_pos (eq_of_beq h))⟩, fun h => ?_⟩
 have c7 : ¬ s.deep = 40 := by simpa using h
 rw [if_neg c7] at h1
 simp only [if_neg c7] at h2
 rw [wr_in (n := s.pos + 1) (by omega) (by omega), wr_in (n := s.deep + 1) (by omega) (by omega)]
 have g1 : gF text ⟨s.pos + 1, s.deep + 1, s.cnt⟩ := ⟨⟨by show 0 ≤ s.pos + 1; omega, by show s.pos + 1 ≤ text.size; omega⟩, ⟨m0, m1⟩, by show 0 ≤ s.deep + 1; omega, by show s.deep + 1 ≤ 40; omega⟩
 refine ⟨fOk_of (s := ⟨s.pos + 1, s.deep + 1, s.cnt⟩) hz g1 ha (by show 4 * ((text.size : Int) - (s.pos + 1)) + _ < _; omega), fun z => h1 (ob_none z), fun r z => ?_⟩
 have G := pF_good k 2 ar _ r hz g1 ha z
 refine ⟨⟨G.ok, hz, by decide⟩, fun z2 => h1 ((ob z).trans (ob_none z2)), fun s2 z2 => ?_⟩
 obtain ⟨g2, _⟩ := fwant_g (by decide) G.ok z2
 obtain ⟨_, _, e1, e2⟩ := g2
 rw [wr_in (n := s2.deep - 1) (by omega) (by omega)]
 exact h2 (r.1, ⟨s2.pos, s2.deep - 1, s2.cnt⟩) ((ob z).trans (ob z2))
theorem fTrm_all (k : Nat) (text : ByteArray) (ar : Nms) (s : FS) (hp : fOk (k + 1) 1 text ar s) (Q : FTr × Int × Int × Int × List FixName → Prop) (P : Prop) (h1 : pF text (k + 1) 1 ar s = none → P) (h2 : ∀ r, pF text (k + 1) 1 ar s = some r → Q (r.1, r.2.pos, r.2.deep, r.2.cnt, ar)) : fTrm_vc k text s.pos s.deep s.cnt ar Q P := by
 obtain ⟨hz, hk, hg, ha⟩ := hp
 have e0 : pF text (k + 1) 1 ar s = (pF text k 0 ar s).bind fun r => lopFL 38 (pF text k 0 ar) text (text.size + 1) r.1 r.2 := rfl
 unfold fTrm_vc
 refine ⟨fOk_of (s := s) hz hg ha (by omega), fun z => h1 (e0.trans (ob_none z)), fun r z0 => ?_⟩
 have G0 := pF_good k 0 ar s r hz hg ha z0
 have k1 := fun e => h1 (e0.trans ((ob z0).trans e))
 have k2 := fun x e => h2 x (e0.trans ((ob z0).trans e))
 have hpos := G0.pos
 have hp0 := hg.1.1
 obtain ⟨R, hR⟩ : ∃ R, R = lopFL 38 (pF text k 0 ar) text (text.size + 1) r.1 r.2 := ⟨_, rfl⟩
 refine ⟨fun t p d n l => l = ar ∧ ∃ m : Nat, text.size - p < m ∧ gF text ⟨p, d, n⟩ ∧ s.pos < p ∧ lopFL 38 (pF text k 0 ar) text m t ⟨p, d, n⟩ = R, fun _ p _ _ _ => (text.size - p).toNat, ⟨rfl, text.size + 1, by omega, G0.ok, hpos, hR.symm⟩, ?_⟩
 rintro t p d n _ ⟨rfl, m, hm, hgp, hps, heq⟩
 have hsz : p ≤ text.size := hgp.1.2
 have hp1 : 0 ≤ p := hgp.1.1
 obtain ⟨m', rfl⟩ : ∃ m', m = m' + 1 := ⟨m - 1, by omega⟩
 rw [lopFL] at heq
 simp only at heq
 rw [hR] at heq
 refine ⟨hp1, fun hb => ?_, fun hb => ?_⟩
 ·have c : fch text p = 38 := eq_of_beq hb
  have hlt := fch_lt (text := text) (p := p) (by omega)
  rw [if_pos c] at heq
  refine ⟨⟨hgp, hz⟩, fun z => k1 (heq.symm.trans (ob_none (fcst_no z))), fun s1 z1 => ?_⟩
  have q := fcnt_g hgp z1
  have q1 : s1.pos = p := q.2.1
  have g1 : gF text (fstep s1) := fstep_g q.1 (by rw [q1]; exact hlt)
  rw [show wr (s1.pos + 1) = s1.pos + 1 by rw [q1, wr_in (by omega) (by omega)]]
  refine ⟨fOk_of (s := fstep s1) hz g1 ha (by show 4 * ((text.size : Int) - (s1.pos + 1)) + _ < _; omega), fun z => k1 (heq.symm.trans ((ob (fcst_of z1)).trans (ob_none z))), fun y z2 => ?_⟩
  have G := pF_good k 0 _ (fstep s1) y hz g1 ha z2
  have hy : s1.pos + 1 < y.2.pos := G.pos
  have hy2 := G.ok.1.2
  refine ⟨⟨rfl, m', by omega, G.ok, by omega, ?_⟩, by show ((text.size : Int) - y.2.pos).toNat < ((text.size : Int) - p).toNat; omega⟩
  rw [hR]
  exact ((ob (fcst_of z1)).trans ((ob z2).trans rfl)).symm.trans heq
 ·have c : ¬ fch text p = 38 := by simpa using hb
  rw [if_neg c] at heq
  exact k2 (t, ⟨p, d, n⟩) heq.symm
theorem fWho_all (k : Nat) (text : ByteArray) (ar : Nms) (s : FS) (hp : fOk (k + 1) 2 text ar s) (Q : FTr × Int × Int × Int × List FixName → Prop) (P : Prop) (h1 : pF text (k + 1) 2 ar s = none → P) (h2 : ∀ r, pF text (k + 1) 2 ar s = some r → Q (r.1, r.2.pos, r.2.deep, r.2.cnt, ar)) : fWho_vc k text s.pos s.deep s.cnt ar Q P := by
 obtain ⟨hz, hk, hg, ha⟩ := hp
 have e0 : pF text (k + 1) 2 ar s = (pF text k 1 ar s).bind fun r => lopFL 124 (pF text k 1 ar) text (text.size + 1) r.1 r.2 := rfl
 unfold fWho_vc
 refine ⟨fOk_of (s := s) hz hg ha (by omega), fun z => h1 (e0.trans (ob_none z)), fun r z0 => ?_⟩
 have G0 := pF_good k 1 ar s r hz hg ha z0
 have k1 := fun e => h1 (e0.trans ((ob z0).trans e))
 have k2 := fun x e => h2 x (e0.trans ((ob z0).trans e))
 have hpos := G0.pos
 have hp0 := hg.1.1
 obtain ⟨R, hR⟩ : ∃ R, R = lopFL 124 (pF text k 1 ar) text (text.size + 1) r.1 r.2 := ⟨_, rfl⟩
 refine ⟨fun t p d n l => l = ar ∧ ∃ m : Nat, text.size - p < m ∧ gF text ⟨p, d, n⟩ ∧ s.pos < p ∧ lopFL 124 (pF text k 1 ar) text m t ⟨p, d, n⟩ = R, fun _ p _ _ _ => (text.size - p).toNat, ⟨rfl, text.size + 1, by omega, G0.ok, hpos, hR.symm⟩, ?_⟩
 rintro t p d n _ ⟨rfl, m, hm, hgp, hps, heq⟩
 have hsz : p ≤ text.size := hgp.1.2
 have hp1 : 0 ≤ p := hgp.1.1
 obtain ⟨m', rfl⟩ : ∃ m', m = m' + 1 := ⟨m - 1, by omega⟩
 rw [lopFL] at heq
 simp only at heq
 rw [hR] at heq
 refine ⟨hp1, fun hb => ?_, fun hb => ?_⟩
 ·have c : fch text p = 124 := eq_of_beq hb
  have hlt := fch_lt (text := text) (p := p) (by omega)
  rw [if_pos c] at heq
  refine ⟨⟨hgp, hz⟩, fun z => k1 (heq.symm.trans (ob_none (fcst_no z))), fun s1 z1 => ?_⟩
  have q := fcnt_g hgp z1
  have q1 : s1.pos = p := q.2.1
  have g1 : gF text (fstep s1) := fstep_g q.1 (by rw [q1]; exact hlt)
  rw [show wr (s1.pos + 1) = s1.pos + 1 by rw [q1, wr_in (by omega) (by omega)]]
  refine ⟨fOk_of (s := fstep s1) hz g1 ha (by show 4 * ((text.size : Int) - (s1.pos + 1)) + _ < _; omega), fun z => k1 (heq.symm.trans ((ob (fcst_of z1)).trans (ob_none z))), fun y z2 => ?_⟩
  have G := pF_good k 1 _ (fstep s1) y hz g1 ha z2
  have hy : s1.pos + 1 < y.2.pos := G.pos
  have hy2 := G.ok.1.2
  refine ⟨⟨rfl, m', by omega, G.ok, by omega, ?_⟩, by show ((text.size : Int) - y.2.pos).toNat < ((text.size : Int) - p).toNat; omega⟩
  rw [hR]
  exact ((ob (fcst_of z1)).trans ((ob z2).trans rfl)).symm.trans heq
 ·have c : ¬ fch text p = 124 := by simpa using hb
  rw [if_neg c] at heq
  exact k2 (t, ⟨p, d, n⟩) heq.symm
theorem fPar_ok (k : Nat) (ih : FC k) (text : ByteArray) (pos deep cnt : Int) (ar : List FixName) (hp : fOk (k + 1) 0 text ar ⟨pos, deep, cnt⟩) (r : FTr × FS) (hx : pF text (k + 1) 0 ar ⟨pos, deep, cnt⟩ = some r) : CtE 136 [.sv (.one (.ptr 0 0))] [.box [.v (.string text), I pos, I deep, I cnt, .own 1] 144 false, rowI 236 FixName.ty ar] [0] (fun (_ : Unit) => True) (fun _ => .sv (.one (.rd (trR fLab r.1)))) (fun _ => [.box [.v (.string text), I r.2.pos, I r.2.deep, I r.2.cnt, .own 1] 144 false, rowI 236 FixName.ty ar]) :=
 (fPar_walk k text pos deep cnt ar  ih (fun x => x = (r.1, r.2.pos, r.2.deep, r.2.cnt, ar)) False (fPar_all k text ar ⟨pos, deep, cnt⟩  hp _ _ (fun e => by rw [hx] at e; cases e) (fun y e => by rw [hx] at e; cases e; rfl))).toE fun x hx => ⟨(), trivial, by subst hx; rfl, by subst hx; rfl⟩
theorem fPar_bad (k : Nat) (ih : FC k) (text : ByteArray) (pos deep cnt : Int) (ar : List FixName) (hp : fOk (k + 1) 0 text ar ⟨pos, deep, cnt⟩) (hx : pF text (k + 1) 0 ar ⟨pos, deep, cnt⟩ = none) : CtX 136 [.sv (.one (.ptr 0 0))] [.box [.v (.string text), I pos, I deep, I cnt, .own 1] 144 false, rowI 236 FixName.ty ar] (psStop 140) :=
 (fPar_walk k text pos deep cnt ar  ih (fun _ => False) True (fPar_all k text ar ⟨pos, deep, cnt⟩  hp _ _ (fun _ => trivial) (fun y e => by rw [hx] at e; cases e))).toX
theorem fTrm_ok (k : Nat) (ih : FC k) (text : ByteArray) (pos deep cnt : Int) (ar : List FixName) (hp : fOk (k + 1) 1 text ar ⟨pos, deep, cnt⟩) (r : FTr × FS) (hx : pF text (k + 1) 1 ar ⟨pos, deep, cnt⟩ = some r) : CtE 109 [.sv (.one (.ptr 0 0))] [.box [.v (.string text), I pos, I deep, I cnt, .own 1] 144 false, rowI 236 FixName.ty ar] [0] (fun (_ : Unit) => True) (fun _ => .sv (.one (.rd (trR fLab r.1)))) (fun _ => [.box [.v (.string text), I r.2.pos, I r.2.deep, I r.2.cnt, .own 1] 144 false, rowI 236 FixName.ty ar]) :=
 (fTrm_walk k text pos deep cnt ar  ih (fun x => x = (r.1, r.2.pos, r.2.deep, r.2.cnt, ar)) False (fTrm_all k text ar ⟨pos, deep, cnt⟩  hp _ _ (fun e => by rw [hx] at e; cases e) (fun y e => by rw [hx] at e; cases e; rfl))).toE fun x hx => ⟨(), trivial, by subst hx; rfl, by subst hx; rfl⟩
theorem fTrm_bad (k : Nat) (ih : FC k) (text : ByteArray) (pos deep cnt : Int) (ar : List FixName) (hp : fOk (k + 1) 1 text ar ⟨pos, deep, cnt⟩) (hx : pF text (k + 1) 1 ar ⟨pos, deep, cnt⟩ = none) : CtX 109 [.sv (.one (.ptr 0 0))] [.box [.v (.string text), I pos, I deep, I cnt, .own 1] 144 false, rowI 236 FixName.ty ar] (psStop 140) :=
 (fTrm_walk k text pos deep cnt ar  ih (fun _ => False) True (fTrm_all k text ar ⟨pos, deep, cnt⟩  hp _ _ (fun _ => trivial) (fun y e => by rw [hx] at e; cases e))).toX
theorem fWho_ok (k : Nat) (ih : FC k) (text : ByteArray) (pos deep cnt : Int) (ar : List FixName) (hp : fOk (k + 1) 2 text ar ⟨pos, deep, cnt⟩) (r : FTr × FS) (hx : pF text (k + 1) 2 ar ⟨pos, deep, cnt⟩ = some r) : CtE 74 [.sv (.one (.ptr 0 0))] [.box [.v (.string text), I pos, I deep, I cnt, .own 1] 144 false, rowI 236 FixName.ty ar] [0] (fun (_ : Unit) => True) (fun _ => .sv (.one (.rd (trR fLab r.1)))) (fun _ => [.box [.v (.string text), I r.2.pos, I r.2.deep, I r.2.cnt, .own 1] 144 false, rowI 236 FixName.ty ar]) :=
 (fWho_walk k text pos deep cnt ar  ih (fun x => x = (r.1, r.2.pos, r.2.deep, r.2.cnt, ar)) False (fWho_all k text ar ⟨pos, deep, cnt⟩  hp _ _ (fun e => by rw [hx] at e; cases e) (fun y e => by rw [hx] at e; cases e; rfl))).toE fun x hx => ⟨(), trivial, by subst hx; rfl, by subst hx; rfl⟩
theorem fWho_bad (k : Nat) (ih : FC k) (text : ByteArray) (pos deep cnt : Int) (ar : List FixName) (hp : fOk (k + 1) 2 text ar ⟨pos, deep, cnt⟩) (hx : pF text (k + 1) 2 ar ⟨pos, deep, cnt⟩ = none) : CtX 74 [.sv (.one (.ptr 0 0))] [.box [.v (.string text), I pos, I deep, I cnt, .own 1] 144 false, rowI 236 FixName.ty ar] (psStop 140) :=
 (fWho_walk k text pos deep cnt ar  ih (fun _ => False) True (fWho_all k text ar ⟨pos, deep, cnt⟩  hp _ _ (fun _ => trivial) (fun y e => by rw [hx] at e; cases e))).toX
theorem fixAll : ∀ k, FC k
 | 0 => fun text pos deep cnt ar => ⟨fun hp => absurd hp.2.1 (by have := hp.2.2.1.1.2; simp only at this; show ¬ (4 * ((text.size : Int) - pos) + _ < _); omega), fun hp => absurd hp.2.1 (by have := hp.2.2.1.1.2; simp only at this; show ¬ (4 * ((text.size : Int) - pos) + _ < _); omega), fun hp => absurd hp.2.1 (by have := hp.2.2.1.1.2; simp only at this; show ¬ (4 * ((text.size : Int) - pos) + _ < _); omega)⟩
 | k + 1 => fun text pos deep cnt ar => ⟨fun hp => ⟨fPar_ok k (fixAll k) text pos deep cnt ar hp, fPar_bad k (fixAll k) text pos deep cnt ar hp⟩, fun hp => ⟨fTrm_ok k (fixAll k) text pos deep cnt ar hp, fTrm_bad k (fixAll k) text pos deep cnt ar hp⟩, fun hp => ⟨fWho_ok k (fixAll k) text pos deep cnt ar hp, fWho_bad k (fixAll k) text pos deep cnt ar hp⟩⟩
end Go.Proofs.Ytiejmeedkhkfgaa


namespace Go.Proofs.Ytiejmeedkhkfgaa
open Go.RowKit Go.MapKept
set_option linter.unusedSimpArgs false
set_option linter.unusedVariables false
set_option maxRecDepth 100000
theorem en73 : ∀ args w, (callFunc 73 args).run Try.prog w = .ok (.enter 73 args) w := enters_of Try.func73 (by kernel_rfl) rfl
theorem fixCatch (r0 : Rd) (c0 a0 code at_ : Int) (hc : code ≠ 0) : CtD 73 [.box [.rd r0] 83 false, .box [I c0, I a0] 32 false] [.box [.rd (optR fLab none)] 83 false, .box [I code, I at_] 32 false] (.panicking [{ v := .iface 140 (.agg #[.int .i64 code, .int .i64 at_]), recovered := false }]) (.panicking [{ v := .iface 140 (.agg #[.int .i64 code, .int .i64 at_]), recovered := true }]) := by
 have ht := tab_ok
 refine CtD.body (pv := .iface 140 (.agg #[.int .i64 code, .int .i64 at_])) (d := 5) Try.func73 rfl rfl rfl (by kernel_rfl) (by kernel_rfl) (by kernel_rfl) rfl rfl rfl (fun c₀ cs hm => by simp [recoverD, hm]) trivial (fun c Bk hn => ?_)
 have h : True := trivial
 refine En.block ?_
 refine En.seq ?_
 refine En.region ?_
 refine WL.val hn (by rfl) (val_ifNil rfl (by rfl) (by rfl) (fun w => by kernel_rfl)) (by rfl) ?_
 refine WL.nil ?_
 refine En.cond (b := false) (by kernel_rfl) (fun hb => ?_) (fun hb => ?_)
 ·cases hb
 ·refine En.seq ?_
  refine En.region ?_
  refine WL.val hn (by rfl) (val_assert (cs := [.int .i64 code, .int .i64 at_]) rfl (by rfl) rfl (by simp [cellV]) (fun w => by kernel_rfl)) (by rfl) ?_
  refine WL.run ht hn 2 ⟨[(0, .sv (.one (.pptr 0 0 (Bk 0)))), (1, .sv (.one (.pptr 1 0 (Bk 1)))), (5, .sv (.one (.v (.iface 140 (.agg #[.int .i64 code, .int .i64 at_]))))), (9, .sv (.one (B true))), (10, .sv (.agg [I code, I at_]))], [.box [.rd r0] 83 false, .box [I c0, I a0] 32 false]⟩ (by kernel_rfl) ?_
  refine WL.nil ?_
  refine En.cond (b := true) (by kernel_rfl) (fun hb => ?_) (fun hb => ?_)
  ·refine En.seq ?_
   refine En.region ?_
   refine WL.run ht hn 2 ⟨[(0, .sv (.one (.pptr 0 0 (Bk 0)))), (1, .sv (.one (.pptr 1 0 (Bk 1)))), (3, .sv (.one (.ptr 2 0)))], [.box [.rd r0] 83 false, .box [I c0, I a0] 32 false, .box [I code, I at_] 140 false]⟩ (by kernel_rfl) ?_
   refine WL.nil ?_
   refine En.regionA ⟨[(0, .sv (.one (.pptr 0 0 (Bk 0)))), (1, .sv (.one (.pptr 1 0 (Bk 1)))), (3, .sv (.one (.ptr 2 0)))], [.sv (.one (.ptr 2 0)), .sv (.agg [I code, I at_]), .tup [], .tup []], [⟨.box [.rd r0] 83 false, none, none, some (2, .box [.v (.pointer none)] 83 false)⟩, ⟨.box [I c0, I a0] 32 false, none, none, some (3, .box [I code, I at_] 32 false)⟩, ⟨.box [I code, I at_] 140 false, none, none, none⟩]⟩ ⟨[(0, .sv (.one (.pptr 0 0 (Bk 0)))), (1, .sv (.one (.pptr 1 0 (Bk 1))))], [.box [.v (.pointer none)] 83 false, .box [I code, I at_] 32 false, .gone]⟩ (by kernel_rfl) hn (by kernel_rfl) (by rfl) (by kernel_rfl) ?_ (by kernel_rfl) ?_
   ·exact ⟨.mt ⟨[(3, .sv (.one (.ptr 2 0)))], []⟩ [] none (by kernel_rfl) (by rfl) (mt_ev ht (by kernel_rfl)) rfl rfl rfl rfl,
  .mt ⟨[(11, .sv (.one (.ptr 2 0)))], [.gone, .gone, .box [I code, I at_] 140 false]⟩ [] none (by kernel_rfl) (by rfl) (mt_ev ht (by kernel_rfl)) rfl rfl rfl rfl,
  .mu ⟨[(0, .sv (.one (.pptr 0 0 (Bk 0))))], [.box [.rd r0] 83 false]⟩ 0 _ _ rfl rfl (by kernel_rfl) (by rfl) (mu_store2 ht rfl (by rfl) (by rfl) (by rfl) (by rfl) (fun h => by cases h) (by rfl) (by rfl)) rfl rfl rfl rfl rfl rfl rfl,
  .mu ⟨[(1, .sv (.one (.pptr 1 0 (Bk 1)))), (12, .sv (.agg [I code, I at_]))], [.gone, .box [I c0, I a0] 32 false]⟩ 1 _ _ rfl rfl (by kernel_rfl) (by rfl) (mu_store2 ht rfl (by rfl) (by rfl) (by rfl) (by rfl) (fun h => by cases h) (by rfl) (by rfl)) rfl rfl rfl rfl rfl rfl rfl,
  trivial⟩
   ·refine En.boxTurn (.rd (optR fLab none)) 0 0 (by rfl) (by rfl) optNil ?_
    exact En.backE [0, 1] ht () trivial (by kernel_rfl) (by rfl) rfl
  ·cases hb
theorem fixIdle (r0 : Rd) (c0 a0 : Int) : CtD 73 [.box [.rd r0] 83 false, .box [I c0, I a0] 32 false] [.box [.rd r0] 83 false, .box [I c0, I a0] 32 false] (.returning) (.returning) := by
 have ht := tab_ok
 refine CtD.body (pv := .nilIface) (d := 5) Try.func73 rfl rfl rfl (by kernel_rfl) (by kernel_rfl) (by kernel_rfl) rfl rfl rfl (fun c₀ cs hm => by simp [recoverD, hm]) trivial (fun c Bk hn => ?_)
 have h : True := trivial
 refine En.block ?_
 refine En.seq ?_
 refine En.region ?_
 refine WL.val hn (by rfl) (val_nilNil rfl (by rfl) (by rfl) (fun w => by kernel_rfl)) (by rfl) ?_
 refine WL.nil ?_
 refine En.cond (b := true) (by kernel_rfl) (fun hb => ?_) (fun hb => ?_)
 ·refine En.region ?_
  refine WL.run ht hn 1 ⟨[(0, .sv (.one (.pptr 0 0 (Bk 0)))), (1, .sv (.one (.pptr 1 0 (Bk 1))))], [.box [.rd r0] 83 false, .box [I c0, I a0] 32 false]⟩ (by kernel_rfl) ?_
  refine WL.nil ?_
  exact En.backE [0, 1] ht () trivial (by kernel_rfl) (by rfl) rfl
 ·cases hb
def fParse_vc (text : ByteArray) (Q : (Option (Tr FLab) × ApiFault) → Prop) : Prop :=
 IfP (decide ((text.size : Int) > 4000)) (Q (none, ApiFault.mk 1 0)) ((fOk (4 * text.size + 4) 2 text ([] : (List FixName)) ⟨0, 0, 0⟩) ∧
 ((pF text (4 * text.size + 4) 2 ([] : (List FixName)) ⟨0, 0, 0⟩) = none → (∀ code at_ : Int, code ≠ 0 → Q (none, ApiFault.mk code at_))) ∧ ∀ r, (pF text (4 * text.size + 4) 2 ([] : (List FixName)) ⟨0, 0, 0⟩) = some r →
 (IfP (decide ((r.2.pos) < (text.size : Int))) (((4 : Int) ≠ 0) ∧
 (∀ code at_ : Int, code ≠ 0 → Q (none, ApiFault.mk code at_))) (Q ((some (r.1)), ApiFault.mk 0 0))))
theorem fParse_walk (text : ByteArray) (Q : (Option (Tr FLab) × ApiFault) → Prop) (h : fParse_vc text Q) : Ct 32 [.sv (.one (.v (.string text)))] [] Q (fun (r : (Option (Tr FLab) × ApiFault)) => .tup [.one (.rd (optR fLab r.1)), .agg [I r.2.fCode, I r.2.fAt]]) := by
 have ht := tab_ok
 refine Ct.bodyD Try.func32 rfl rfl rfl (fun c R hn hdf hR hpan => ?_)
 unfold fParse_vc at h
 refine En.seq ?_
 refine En.region ?_
 refine WL.run ht hn 2 ⟨[sl 0 (.v (.string text)), sl 2 (.ptr 0 0), sl 3 (.ptr 1 0)], [.box [.v (.pointer none)] 83 false, .box [I 0, I 0] 32 false]⟩ (by kernel_rfl) ?_
 refine WL.nil ?_
 refine En.seq ?_
 refine En.seq ?_
 refine En.region ?_
 refine WL.run ht hn 1 ⟨[sl 0 (.v (.string text)), sl 2 (.ptr 0 0), sl 3 (.ptr 1 0), sl 5 (.v (.string text))], [.box [.v (.pointer none)] 83 false, .box [I 0, I 0] 32 false]⟩ (by kernel_rfl) ?_
 refine WL.val hn (by rfl) (val_lenS (s := text) rfl Try.underlying9 (by rfl)) (by rfl) ?_
 refine WL.run ht hn 1 ⟨[sl 0 (.v (.string text)), sl 2 (.ptr 0 0), sl 3 (.ptr 1 0), sl 7 (B (decide ((text.size : Int) > 4000)))], [.box [.v (.pointer none)] 83 false, .box [I 0, I 0] 32 false]⟩ (by kernel_rfl) ?_
 refine WL.nil ?_
 refine En.cond (b := (decide ((text.size : Int) > 4000))) (by kernel_rfl) (fun hb => ?_) (fun hb => ?_)
 replace h := h.1 hb
 refine En.seq ?_
 refine En.region ?_
 refine WL.run ht hn 3 ⟨[sl 2 (.ptr 0 0), sl 3 (.ptr 1 0)], [.box [.v (.pointer none)] 83 false, .box [I 1, I 0] 32 false]⟩ (by kernel_rfl) ?_
 refine WL.nil ?_
 refine En.ret ?_
 refine En.boxTurn (.rd (optR fLab none)) 0 0 (by rfl) (by rfl) optNil ?_
 exact En.backD0 ht rfl hR hdf (none, ApiFault.mk 1 0) h (by kernel_rfl) rfl
 replace h := h.2 hb
 refine En.skip ?_
 refine En.seq ?_
 refine En.region ?_
 refine WL.run ht hn 1 ⟨[sl 0 (.v (.string text)), sl 2 (.ptr 0 0), sl 3 (.ptr 1 0), sl 9 (.fn 73 [0, 1])], [.box [.v (.pointer none)] 83 false, .box [I 0, I 0] 32 false]⟩ (by kernel_rfl) ?_
 refine WL.defer (F := 73) (t0 := 2) (t1 := 3) (d := 9) (i := 0) (j := 1) (by rfl) rfl rfl (by rfl) (by rfl) (by rfl) hdf (fun c' Bk hn' hw0 hg0 hm0 hpn hdf => ?_)
 replace hR := hR_cast hw0 hg0 hm0 hR
 replace hpan := hpan_cast hpn hpan
 replace hn := hn'.trans hn
 clear hn' hw0 hg0 hm0
 refine WL.sub ⟨[sl 0 (.v (.string text)), sl 2 (.pptr 0 0 (Bk 0)), sl 3 (.pptr 1 0 (Bk 1)), sl 9 (.fn 73 [0, 1])], [.box [.v (.pointer none)] 83 false, .box [I 0, I 0] 32 false]⟩ (by kernel_rfl) ?_
 refine WL.boxTurn (.rd (optR fLab none)) 0 0 (by rfl) (by rfl) optNil ?_
 refine WL.nil ?_
 refine En.cfg hpn ?_
 refine En.seq ?_
 refine En.region ?_
 refine WL.run ht hn 4 ⟨[sl 0 (.v (.string text)), sl 2 (.pptr 0 0 (Bk 0)), sl 3 (.pptr 1 0 (Bk 1)), sl 4 (.ptr 2 0)], [.box [.rd (optR fLab none)] 83 false, .box [I 0, I 0] 32 false, .box [.v (.string text), I 0, I 0, I 0, .v (.slice none 0 0)] 144 false]⟩ (by kernel_rfl) ?_
 refine WL.nil ?_
 refine En.seq ?_
 refine En.region ?_
 refine WL.run ht hn 1 ⟨[sl 0 (.v (.string text)), sl 2 (.pptr 0 0 (Bk 0)), sl 3 (.pptr 1 0 (Bk 1)), sl 4 (.ptr 2 0), sl 13 (.ptr 2 0)], [.box [.rd (optR fLab none)] 83 false, .box [I 0, I 0] 32 false, .box [.v (.string text), I 0, I 0, I 0, .v (.slice none 0 0)] 144 false]⟩ (by kernel_rfl) ?_
 refine WL.nilBoxO (T := FixName.ty) 2 4 3 236 (by rfl) (by rfl) (by rfl) (by rfl) ?_
 have hp := h.1
 replace h := h.2
 refine splitO ((pF text (4 * text.size + 4) 2 ([] : (List FixName)) ⟨0, 0, 0⟩)) (fun hr_2 => ?_) (fun r hr_2 => ?_)
 exact WL.callX (fI2_bad _ (fixAll _) text 0 0 0 ([] : (List FixName)) hp hr_2) en74 (caps := []) [2, 3] (by rfl) rfl (by rfl) (argsAs (by kernel_rfl) (by rfl)) (by kernel_rfl) (by decide) (leftD (ty := 140) 2 3 0 1 ht rfl hR hpan hdf (by rfl) (by rfl) (fun code at_ hc => fixCatch (optR fLab none) 0 0 code at_ hc) en73 (by kernel_rfl) (by kernel_rfl) (by decide) (by rfl) (fun _ _ => by rfl) (fun _ _ => Nat.le_of_ble_eq_true rfl) (fun _ _ => by rfl) (fun _ _ => rfl) (fun code at_ => (none, ApiFault.mk code at_)) (fun code at_ hc => (h.1 hr_2) code at_ hc) (fun _ _ => by kernel_rfl) (fun _ _ => rfl))
 replace h := h.2 r hr_2
 refine WL.callE (fI2_ok _ (fixAll _) text 0 0 0 ([] : (List FixName)) hp r hr_2) en74 (caps := []) [2, 3] hn (by rfl) rfl (by rfl) (argsAs (by kernel_rfl) (by rfl)) (by kernel_rfl) (by decide) (by rfl) (by rfl) (fun _ _ => ⟨by rfl, _, by rfl, ?_⟩)
 refine WL.run ht hn 1 ⟨[sl 0 (.v (.string text)), sl 2 (.pptr 0 0 (Bk 0)), sl 3 (.pptr 1 0 (Bk 1)), sl 4 (.ptr 2 0)], [.box [.rd (trR fLab (r.1))] 83 false, .box [I 0, I 0] 32 false, .box [.v (.string text), I (r.2.pos), I (r.2.deep), I (r.2.cnt), .own 3] 144 false, rowI 236 FixName.ty (([] : (List FixName)))]⟩ (by kernel_rfl) ?_
 refine WL.nil ?_
 refine En.seq ?_
 refine En.seq ?_
 refine En.region ?_
 refine WL.run ht hn 5 ⟨[sl 2 (.pptr 0 0 (Bk 0)), sl 3 (.pptr 1 0 (Bk 1)), sl 4 (.ptr 2 0), sl 18 (I (r.2.pos)), sl 19 (.v (.string text))], [.box [.rd (trR fLab (r.1))] 83 false, .box [I 0, I 0] 32 false, .box [.v (.string text), I (r.2.pos), I (r.2.deep), I (r.2.cnt), .own 3] 144 false, rowI 236 FixName.ty (([] : (List FixName)))]⟩ (by kernel_rfl) ?_
 refine WL.val hn (by rfl) (val_lenS (s := text) rfl Try.underlying9 (by rfl)) (by rfl) ?_
 refine WL.run ht hn 1 ⟨[sl 2 (.pptr 0 0 (Bk 0)), sl 3 (.pptr 1 0 (Bk 1)), sl 4 (.ptr 2 0), sl 21 (B (decide ((r.2.pos) < (text.size : Int))))], [.box [.rd (trR fLab (r.1))] 83 false, .box [I 0, I 0] 32 false, .box [.v (.string text), I (r.2.pos), I (r.2.deep), I (r.2.cnt), .own 3] 144 false, rowI 236 FixName.ty (([] : (List FixName)))]⟩ (by kernel_rfl) ?_
 refine WL.nil ?_
 refine En.cond (b := (decide ((r.2.pos) < (text.size : Int)))) (by kernel_rfl) (fun hb => ?_) (fun hb => ?_)
 replace h := h.1 hb
 refine En.region ?_
 refine WL.run ht hn 1 ⟨[sl 2 (.pptr 0 0 (Bk 0)), sl 3 (.pptr 1 0 (Bk 1)), sl 22 (.ptr 2 0)], [.box [.rd (trR fLab (r.1))] 83 false, .box [I 0, I 0] 32 false, .box [.v (.string text), I (r.2.pos), I (r.2.deep), I (r.2.cnt), .own 3] 144 false, rowI 236 FixName.ty (([] : (List FixName)))]⟩ (by kernel_rfl) ?_
 have hp := h.1
 replace h := h.2
 exact WL.callX (fFail_ct text (r.2.pos) (r.2.deep) (r.2.cnt) (([] : (List FixName))) 4 hp) en75 (caps := []) [2, 3] (by rfl) rfl (by rfl) (argsAs (by kernel_rfl) (by rfl)) (by kernel_rfl) (by decide) (leftD (ty := 140) 2 3 0 1 ht rfl hR hpan hdf (by rfl) (by rfl) (fun code at_ hc => fixCatch (trR fLab (r.1)) 0 0 code at_ hc) en73 (by kernel_rfl) (by kernel_rfl) (by decide) (by rfl) (fun _ _ => by rfl) (fun _ _ => Nat.le_of_ble_eq_true rfl) (fun _ _ => by rfl) (fun _ _ => rfl) (fun code at_ => (none, ApiFault.mk code at_)) (fun code at_ hc => h code at_ hc) (fun _ _ => by kernel_rfl) (fun _ _ => rfl))
 replace h := h.2 hb
 refine En.skip ?_
 refine En.seq ?_
 refine En.region ?_
 refine WL.run ht hn 4 ⟨[sl 2 (.pptr 0 0 (Bk 0)), sl 3 (.pptr 1 0 (Bk 1))], [.box [.rd (trR fLab (r.1))] 83 false, .box [I 0, I 0] 32 false, .gone, .gone]⟩ (by kernel_rfl) ?_
 refine WL.nil ?_
 refine En.ret ?_
 refine En.boxTurn (.rd (optR fLab (some (r.1)))) 0 0 (by rfl) (by rfl) optSome ?_
 exact En.backD 2 3 0 1 ht rfl hR hdf (by rfl) (by rfl) (fixIdle (optR fLab (some (r.1))) 0 0) en73 (by kernel_rfl) (by decide) (by rfl) (by rfl) (Nat.le_of_ble_eq_true rfl) (by rfl) rfl ((some (r.1)), ApiFault.mk 0 0) h (by kernel_rfl) rfl
theorem en32 : ∀ args w, (callFunc 32 args).run Try.prog w = .ok (.enter 32 args) w := enters_of Try.func32 (by kernel_rfl) rfl
def fullF (text : ByteArray) : Option FTr := if 4000 < text.size then none else match pF text (4 * text.size + 4) 2 [] ⟨0, 0, 0⟩ with
 | none => none
 | some r => if r.2.pos < text.size then none else some r.1
def ParsedF (text : ByteArray) (r : Option FTr × ApiFault) : Prop := (r.1 = none ∧ r.2.fCode ≠ 0 ∧ fullF text = none) ∨ ∃ t, fullF text = some t ∧ r = (some t, ⟨0, 0⟩)
theorem fullF_some {text : ByteArray} {t : FTr} (h : fullF text = some t) : text.size ≤ 4000 ∧ WfF 30 [] t ∧ qF text (4 * text.size + 4) 2 [] 0 = some (t, (text.size : Int)) := by
 unfold fullF at h
 split at h
 ·cases h
 rename_i hz
 split at h
 ·cases h
 rename_i r hr
 split at h
 ·cases h
 rename_i he
 cases h
 have hz : text.size ≤ 4000 := by omega
 obtain ⟨_, g2, _, _, g5, g6⟩ := pF_good _ _ [] ⟨0, 0, 0⟩ r hz (show gF text ⟨0, 0, 0⟩ from ⟨⟨by decide, Int.natCast_nonneg _⟩, ⟨by decide, by decide⟩, by decide, by decide⟩) (by decide) hr
 obtain ⟨⟨_, q1⟩, ⟨n0, n1⟩, _⟩ := g2
 refine ⟨hz, g5.mono (by show (r.2.cnt - 0).toNat ≤ 30; omega), ?_⟩
 have : r.2.pos = (text.size : Int) := by omega
 rw [← this]
 exact g6
theorem fParse_ct (text : ByteArray) : Ct 32 [.sv (.one (.v (.string text)))] [] (ParsedF text) (fun (r : (Option (Tr FLab) × ApiFault)) => .tup [.one (.rd (optR fLab r.1)), .agg [I r.2.fCode, I r.2.fAt]]) := by
 refine fParse_walk text (ParsedF text) ?_
 unfold fParse_vc
 refine ⟨fun hb => .inl ⟨rfl, by show (1 : Int) ≠ 0; decide, ?_⟩, fun hb => ?_⟩
 ·have := of_decide_eq_true hb
  unfold fullF
  rw [if_pos (by omega)]
 have hz : text.size ≤ 4000 := by have := of_decide_eq_false hb; omega
 have hg : gF text ⟨0, 0, 0⟩ := ⟨⟨by decide, Int.natCast_nonneg _⟩, ⟨by decide, by decide⟩, by decide, by decide⟩
 refine ⟨fOk_of hz hg (by decide) (by show 4 * ((text.size : Int) - 0) + 2 < ((4 * text.size + 4 : Nat) : Int); omega), fun hn code at_ hc => .inl ⟨rfl, hc, ?_⟩, fun r hr => ⟨fun hb2 => ⟨by decide, fun code at_ hc => .inl ⟨rfl, hc, ?_⟩⟩, fun hb2 => .inr ⟨r.1, ?_, rfl⟩⟩⟩
 ·unfold fullF
  rw [if_neg (by omega), hn]
 ·have := of_decide_eq_true hb2
  unfold fullF
  rw [if_neg (by omega), hr]
  exact if_pos this
 ·have := of_decide_eq_false hb2
  unfold fullF
  rw [if_neg (by omega), hr]
  exact if_neg this
end Go.Proofs.Ytiejmeedkhkfgaa


namespace Go.Proofs.Ytiejmeedkhkfgaa
set_option linter.unusedSimpArgs false
set_option linter.unusedVariables false
set_option maxRecDepth 100000
def onF (l : List Bool) (p : Int) : Bool := l.getD p.toNat false
def eachF (n : Int) (f : Int → Bool) : List Bool := (List.range n.toNat).map fun p : Nat => f (p : Int)
theorem eachF_len (n : Int) (f : Int → Bool) : (eachF n f).length = n.toNat := by simp [eachF]
theorem onF_each {n : Int} {f : Int → Bool} {p : Int} (h0 : 0 ≤ p) (h1 : p < n) : onF (eachF n f) p = f p := by
 unfold onF eachF
 rw [List.getD_eq_getElem?_getD, List.getElem?_map, List.getElem?_range (by omega)]
 simp only [Option.map_some, Option.getD_some]
 rw [Int.toNat_of_nonneg h0]
def allF (n : Int) (v : Bool) : List Bool := List.replicate n.toNat v
theorem allF_len (n : Int) (v : Bool) : (allF n v).length = n.toNat := List.length_replicate
theorem onF_all {n : Int} {v : Bool} {p : Int} (h0 : 0 ≤ p) (h1 : p < n) : onF (allF n v) p = v := by
 unfold onF allF
 rw [List.getD_eq_getElem?_getD, List.getElem?_replicate, if_pos (by omega)]
 rfl
theorem rowF_ext {n : Int} {a b : List Bool} (ha : a.length = n.toNat) (hb : b.length = n.toNat) (h : ∀ p : Int, 0 ≤ p → p < n → onF a p = onF b p) : a = b := by
 refine List.ext_getElem (by omega) fun i h1 h2 => ?_
 have := h i (Int.natCast_nonneg _) (by omega)
 unfold onF at this
 rw [List.getD_eq_getElem?_getD, List.getD_eq_getElem?_getD, Int.toNat_natCast, List.getElem?_eq_getElem h1, List.getElem?_eq_getElem h2] at this
 exact this
def arrB (g : ApiGraph) (c : Int) (v : Bool) (p : Int) (a : List Bool) : Bool := g.fArrows.any fun x => x.fFrom == p && x.fLetter == c && onF a x.fTo == v
def itF (f : List Bool → List Bool) : Nat → List Bool → List Bool
 | 0, o => o
 | m + 1, o => f (itF f m o)
def kid0 : List FTr → FTr
 | x :: _ => x
 | [] => fn 48 0 []
def kid1 : List FTr → FTr
 | _ :: y :: _ => y
 | _ => fn 48 0 []
def wayF (g : ApiGraph) (sg c : Int) (a : List Bool) : List Bool := eachF g.fPlaces fun p => if sg = 60 then arrB g c true p a else !(arrB g c false p a)
def semF (g : ApiGraph) : Nat → FTr → List (List Bool) → List Bool
 | 0, _, _ => []
 | k + 1, .node a kids, S =>
  if a.fSign = 49 then allF g.fPlaces true
  else if a.fSign = 88 then S.getD a.fN.toNat []
  else if a.fSign = 33 then eachF g.fPlaces fun p => !(onF (semF g k (kid0 kids) S) p)
  else if a.fSign = 38 then eachF g.fPlaces fun p => onF (semF g k (kid0 kids) S) p && onF (semF g k (kid1 kids) S) p
  else if a.fSign = 124 then eachF g.fPlaces fun p => onF (semF g k (kid0 kids) S) p || onF (semF g k (kid1 kids) S) p
  else if a.fSign = 60 ∨ a.fSign = 91 then wayF g a.fSign a.fN (semF g k (kid0 kids) S)
  else if a.fSign = 109 ∨ a.fSign = 110 then itF (fun o => semF g k (kid0 kids) (S ++ [o])) g.fPlaces.toNat (allF g.fPlaces (decide (a.fSign = 110)))
  else allF g.fPlaces false
section
variable {g : ApiGraph} {k : Nat} {n : Int} {S : List (List Bool)} {x y : FTr} {kids : List FTr}
theorem sem_not : semF g (k + 1) (fn 33 n [x]) S = eachF g.fPlaces fun p => !(onF (semF g k x S) p) := rfl
theorem sem_and : semF g (k + 1) (fn 38 n [x, y]) S = eachF g.fPlaces fun p => onF (semF g k x S) p && onF (semF g k y S) p := rfl
theorem sem_or : semF g (k + 1) (fn 124 n [x, y]) S = eachF g.fPlaces fun p => onF (semF g k x S) p || onF (semF g k y S) p := rfl
theorem sem_way {sg : Int} (h : sg = 60 ∨ sg = 91) : semF g (k + 1) (fn sg n [x]) S = wayF g sg n (semF g k x S) := by
 rcases h with rfl | rfl <;> rfl
theorem sem_lp {sg : Int} (h : sg = 109 ∨ sg = 110) : semF g (k + 1) (fn sg n [x]) S = itF (fun o => semF g k x (S ++ [o])) g.fPlaces.toNat (allF g.fPlaces (decide (sg = 110))) := by
 rcases h with rfl | rfl <;> rfl
end
theorem getD_appF {S : List (List Bool)} {o : List Bool} {j : Nat} (hj : j < S.length) : (S ++ [o]).getD j [] = S.getD j [] := by
 rw [List.getD_eq_getElem?_getD, List.getD_eq_getElem?_getD, List.getElem?_append_left hj]
theorem getD_lastF {S : List (List Bool)} {o : List Bool} {j : Nat} (hj : j = S.length) : (S ++ [o]).getD j [] = o := by
 subst hj
 rw [List.getD_eq_getElem?_getD, List.getElem?_append_right (Nat.le_refl _), Nat.sub_self]
 rfl
def SOk (g : ApiGraph) (fl : List Bool) (S : List (List Bool)) : Prop := S.length = fl.length ∧ ∀ s ∈ S, s.length = g.fPlaces.toNat
theorem SOk.add {g : ApiGraph} {fl : List Bool} {S : List (List Bool)} (h : SOk g fl S) {o : List Bool} (ho : o.length = g.fPlaces.toNat) (b : Bool) : SOk g (fl ++ [b]) (S ++ [o]) :=
 ⟨by rw [List.length_append, List.length_append, h.1]; rfl, fun s hs => by
  rcases List.mem_append.1 hs with hs | hs
  ·exact h.2 s hs
  ·cases List.mem_singleton.1 hs
   exact ho⟩
theorem SOk.not {g : ApiGraph} {fl : List Bool} {S : List (List Bool)} (h : SOk g fl S) : SOk g (fl.map (!·)) S := ⟨by rw [List.length_map]; exact h.1, h.2⟩
theorem itF_len {f : List Bool → List Bool} {n : Nat} (hf : ∀ o, o.length = n → (f o).length = n) {o : List Bool} (ho : o.length = n) : ∀ m, (itF f m o).length = n
 | 0 => ho
 | m + 1 => hf _ (itF_len hf ho m)
theorem sem_len {g : ApiGraph} : ∀ {k : Nat} {fl : List Bool} {t : FTr} {S : List (List Bool)}, WfF k fl t → SOk g fl S → (semF g k t S).length = g.fPlaces.toNat
 | 0, _, _, _, h, _ => h.elim
 | k + 1, fl, .node ⟨sg, n⟩ kids, S, h, hS => by
  rcases h with ⟨h, _⟩ | ⟨h, _, j, h2, h3⟩ | ⟨h, x, e, hx⟩ | ⟨h, b, x, e, hx⟩ | ⟨h, b, b2, x, e, hx⟩ | ⟨h, x, y, e, hx, hy⟩
  ·rcases h with h | h <;> (have h : sg = _ := h; subst h; exact allF_len _ _)
  ·have h : sg = 88 := h
   subst h
   have h2 : n = j := h2
   subst h2
   show (S.getD (j : Int).toNat []).length = _
   have hj : j < S.length := by
    rw [hS.1]
    exact (List.getElem?_eq_some_iff.1 h3).1
   rw [Int.toNat_natCast, List.getD_eq_getElem?_getD, List.getElem?_eq_getElem hj]
   exact hS.2 _ (List.getElem_mem hj)
  ·have h : sg = 33 := h
   subst h
   subst e
   exact (congrArg List.length (sem_not (g := g))).trans (eachF_len _ _)
  ·subst e
   exact (congrArg List.length (sem_way (g := g) h)).trans (eachF_len _ _)
  ·subst e
   show (semF g (k + 1) (fn sg n [x]) S).length = _
   rw [sem_lp h]
   exact itF_len (fun o ho => sem_len hx (hS.add ho false)) (allF_len _ _) _
  ·subst e
   rcases h with h | h
   ·have h : sg = 38 := h
    subst h
    exact (congrArg List.length (sem_and (g := g))).trans (eachF_len _ _)
   ·have h : sg = 124 := h
    subst h
    exact (congrArg List.length (sem_or (g := g))).trans (eachF_len _ _)
def leV (n : Int) (v : Bool) (a b : List Bool) : Prop := ∀ p : Int, 0 ≤ p → p < n → onF a p = v → onF b p = v
theorem leV.flip {n : Int} {v : Bool} {a b : List Bool} (h : leV n v a b) : leV n (!v) b a := fun p h0 h1 hb => by
 have := h p h0 h1
 revert this hb
 cases onF a p <;> cases onF b p <;> cases v <;> simp
theorem leV.flip' {n : Int} {a b : List Bool} (h : leV n false a b) : leV n true b a := h.flip
def ToOk (g : ApiGraph) : Prop := ∀ x ∈ g.fArrows, 0 ≤ x.fTo ∧ x.fTo < g.fPlaces
theorem arrB_mono {g : ApiGraph} (hg : ToOk g) {c : Int} {v : Bool} {p : Int} {a b : List Bool} (h : leV g.fPlaces v a b) (ha : arrB g c v p a = true) : arrB g c v p b = true := by
 unfold arrB at ha ⊢
 rw [List.any_eq_true] at ha ⊢
 obtain ⟨x, hx, e⟩ := ha
 simp only [Bool.and_eq_true, beq_iff_eq] at e
 have := hg x hx
 refine ⟨x, hx, ?_⟩
 simp only [Bool.and_eq_true, beq_iff_eq]
 exact ⟨e.1, h _ this.1 this.2 e.2⟩
theorem wayF_mono {g : ApiGraph} (hg : ToOk g) {sg c : Int} {a b : List Bool} (h : leV g.fPlaces true a b) : leV g.fPlaces true (wayF g sg c a) (wayF g sg c b) := fun p h0 h1 e => by
 unfold wayF at e ⊢
 rw [onF_each h0 h1] at e ⊢
 by_cases hs : sg = 60
 ·rw [if_pos hs] at e ⊢
  exact arrB_mono hg h e
 ·rw [if_neg hs] at e ⊢
  have h2 := @arrB_mono g hg c false p b a h.flip
  revert e h2
  cases arrB g c false p a <;> cases arrB g c false p b <;> simp
theorem sem_mono {g : ApiGraph} (hg : ToOk g) : ∀ {k : Nat} {fl : List Bool} {t : FTr} {S S' : List (List Bool)}, WfF k fl t → SOk g fl S → SOk g fl S' → (∀ j : Nat, fl[j]? = some false → leV g.fPlaces true (S.getD j []) (S'.getD j [])) → (∀ j : Nat, fl[j]? = some true → leV g.fPlaces true (S'.getD j []) (S.getD j [])) → leV g.fPlaces true (semF g k t S) (semF g k t S')
 | 0, _, _, _, _, h, _, _, _, _ => h.elim
 | k + 1, fl, .node ⟨sg, n⟩ kids, S, S', h, hS, hS', h0, h1 => by
  rcases h with ⟨h | h, _⟩ | ⟨h, _, j, h2, h3⟩ | ⟨h, x, e, hx⟩ | ⟨h, b, x, e, hx⟩ | ⟨h, b, b2, x, e, hx⟩ | ⟨h | h, x, y, e, hx, hy⟩
  ·cases h
   exact fun p _ _ e => e
  ·cases h
   exact fun p _ _ e => e
  ·cases h
   have h2 : n = j := h2
   subst h2
   exact h0 j h3
  ·have h : sg = 33 := h
   subst h
   subst e
   have := sem_mono hg (S := S') (S' := S) hx hS'.not hS.not (fun j hj => h1 j (by
    rw [List.getElem?_map] at hj
    obtain ⟨b, hb, e⟩ := Option.map_eq_some_iff.1 hj
    cases b
    ·cases e
    ·exact hb)) (fun j hj => h0 j (by
    rw [List.getElem?_map] at hj
    obtain ⟨b, hb, e⟩ := Option.map_eq_some_iff.1 hj
    cases b
    ·exact hb
    ·cases e))
   intro p p0 p1 e
   have := this p p0 p1
   rw [show semF g (k + 1) (.node ⟨33, n⟩ [x] : FTr) S = eachF g.fPlaces fun p => !(onF (semF g k x S) p) from rfl, onF_each p0 p1] at e
   rw [show semF g (k + 1) (.node ⟨33, n⟩ [x] : FTr) S' = eachF g.fPlaces fun p => !(onF (semF g k x S') p) from rfl, onF_each p0 p1]
   revert e this
   cases onF (semF g k x S) p <;> cases onF (semF g k x S') p <;> simp
  ·subst e
   show leV _ true (semF g (k + 1) (fn sg n [x]) S) (semF g (k + 1) (fn sg n [x]) S')
   rw [sem_way h, sem_way h]
   exact wayF_mono hg (sem_mono hg hx hS hS' h0 h1)
  ·subst e
   show leV _ true (semF g (k + 1) (fn sg n [x]) S) (semF g (k + 1) (fn sg n [x]) S')
   rw [sem_lp h, sem_lp h]
   generalize g.fPlaces.toNat = m
   induction m with
   | zero => exact fun p _ _ e => e
   | succ m ih =>
    have l1 := itF_len (f := fun o => semF g k x (S ++ [o])) (fun o ho => sem_len hx (hS.add ho false)) (allF_len g.fPlaces (decide (sg = 110))) m
    have l2 := itF_len (f := fun o => semF g k x (S' ++ [o])) (fun o ho => sem_len hx (hS'.add ho false)) (allF_len g.fPlaces (decide (sg = 110))) m
    have e1 : S.length = fl.length := hS.1
    have e2 : S'.length = fl.length := hS'.1
    refine sem_mono hg hx (hS.add l1 false) (hS'.add l2 false) (fun j hj => ?_) (fun j hj => ?_)
    ·by_cases hl : j < fl.length
     ·rw [List.getElem?_append_left hl] at hj
      rw [getD_appF (by omega), getD_appF (by omega)]
      exact h0 j hj
     ·have hj2 : j = fl.length := by
       rw [List.getElem?_append_right (by omega)] at hj
       obtain ⟨hh, _⟩ := List.getElem?_eq_some_iff.1 hj
       simp at hh
       omega
      rw [getD_lastF (by omega), getD_lastF (by omega)]
      exact ih
    ·by_cases hl : j < fl.length
     ·rw [List.getElem?_append_left hl] at hj
      rw [getD_appF (by omega), getD_appF (by omega)]
      exact h1 j hj
     ·rw [List.getElem?_append_right (by omega)] at hj
      obtain ⟨hh, e3⟩ := List.getElem?_eq_some_iff.1 hj
      simp at e3
  ·have h : sg = 38 := h
   subst h
   subst e
   have i1 := sem_mono hg hx hS hS' h0 h1
   have i2 := sem_mono hg hy hS hS' h0 h1
   intro p p0 p1 e
   have j1 := i1 p p0 p1
   have j2 := i2 p p0 p1
   rw [show semF g (k + 1) (.node ⟨38, n⟩ [x, y]) S = eachF g.fPlaces fun p => onF (semF g k x S) p && onF (semF g k y S) p from rfl, onF_each p0 p1, Bool.and_eq_true] at e
   rw [show semF g (k + 1) (.node ⟨38, n⟩ [x, y]) S' = eachF g.fPlaces fun p => onF (semF g k x S') p && onF (semF g k y S') p from rfl, onF_each p0 p1, Bool.and_eq_true]
   exact ⟨j1 e.1, j2 e.2⟩
  ·have h : sg = 124 := h
   subst h
   subst e
   have i1 := sem_mono hg hx hS hS' h0 h1
   have i2 := sem_mono hg hy hS hS' h0 h1
   intro p p0 p1 e
   have j1 := i1 p p0 p1
   have j2 := i2 p p0 p1
   rw [show semF g (k + 1) (.node ⟨124, n⟩ [x, y]) S = eachF g.fPlaces fun p => onF (semF g k x S) p || onF (semF g k y S) p from rfl, onF_each p0 p1, Bool.or_eq_true] at e
   rw [show semF g (k + 1) (.node ⟨124, n⟩ [x, y]) S' = eachF g.fPlaces fun p => onF (semF g k x S') p || onF (semF g k y S') p from rfl, onF_each p0 p1, Bool.or_eq_true]
   exact e.elim (fun e => .inl (j1 e)) (fun e => .inr (j2 e))
theorem cntF {v : Bool} : ∀ {a b : List Bool}, a.length = b.length → (∀ i : Nat, a[i]? = some v → b[i]? = some v) → a.count v ≤ b.count v ∧ (a ≠ b → a.count v < b.count v)
 | [], [], _, _ => ⟨Nat.le_refl _, fun h => absurd rfl h⟩
 | [], _ :: _, h, _ => by simp at h
 | _ :: _, [], h, _ => by simp at h
 | x :: a, y :: b, h, hi => by
  obtain ⟨i1, i2⟩ := cntF (v := v) (a := a) (b := b) (by simpa using h) (fun i hx => by simpa using hi (i + 1) (by simpa using hx))
  have hx := hi 0
  simp only [List.getElem?_cons_zero, Option.some.injEq] at hx
  rw [List.count_cons, List.count_cons]
  by_cases e1 : x = v
  ·have e2 := hx e1
   subst e1 e2
   refine ⟨by omega, fun hne => ?_⟩
   have := i2 (fun e => hne (by rw [e]))
   omega
  ·rw [if_neg (by simpa using e1)]
   by_cases e2 : y = v
   ·rw [if_pos (by simpa using e2)]
    exact ⟨by omega, fun _ => by omega⟩
   ·rw [if_neg (by simpa using e2)]
    refine ⟨by omega, fun hne => ?_⟩
    have e3 : x = y := by
     have key : ∀ x y v : Bool, ¬ x = v → ¬ y = v → x = y := by decide
     exact key x y v e1 e2
    have := i2 (fun e => hne (by rw [e, e3]))
    omega
theorem leV_cnt {n : Int} {v : Bool} {a b : List Bool} (ha : a.length = n.toNat) (hb : b.length = n.toNat) (h : leV n v a b) (hne : a ≠ b) : a.count v < b.count v := by
 refine (cntF (by omega) fun i hi => ?_).2 hne
 obtain ⟨h1, h2⟩ := List.getElem?_eq_some_iff.1 hi
 have := h i (Int.natCast_nonneg _) (by omega) (by
  unfold onF
  rw [List.getD_eq_getElem?_getD, Int.toNat_natCast, hi]
  rfl)
 unfold onF at this
 rw [List.getD_eq_getElem?_getD, Int.toNat_natCast, List.getElem?_eq_getElem (by omega)] at this
 rw [List.getElem?_eq_getElem (by omega)]
 exact congrArg some this
section
variable {f : List Bool → List Bool} {n : Int} {v : Bool} (hl : ∀ o, o.length = n.toNat → (f o).length = n.toNat) (hm : ∀ a b, a.length = n.toNat → b.length = n.toNat → leV n v a b → leV n v (f a) (f b))
include hl hm
theorem itF_up : ∀ m, leV n v (itF f m (allF n (!v))) (itF f (m + 1) (allF n (!v)))
 | 0 => fun p h0 h1 e => by
  rw [show itF f 0 (allF n (!v)) = allF n (!v) from rfl, onF_all h0 h1] at e
  cases v <;> cases e
 | m + 1 => hm _ _ (itF_len hl (allF_len n (!v)) m) (itF_len hl (allF_len n (!v)) (m + 1)) (itF_up m)
theorem itF_grow : ∀ m, f (itF f m (allF n (!v))) = itF f m (allF n (!v)) ∨ m < (itF f (m + 1) (allF n (!v))).count v
 | 0 => by
  by_cases h : f (itF f 0 (allF n (!v))) = itF f 0 (allF n (!v))
  ·exact .inl h
  ·right
   have := leV_cnt (itF_len hl (allF_len n (!v)) 0) (itF_len hl (allF_len n (!v)) (0 + 1)) (itF_up hl hm 0) (fun e => h e.symm)
   omega
 | m + 1 => by
  by_cases h : f (itF f (m + 1) (allF n (!v))) = itF f (m + 1) (allF n (!v))
  ·exact .inl h
  ·right
   have := leV_cnt (itF_len hl (allF_len n (!v)) (m + 1)) (itF_len hl (allF_len n (!v)) (m + 1 + 1)) (itF_up hl hm (m + 1)) (fun e => h e.symm)
   rcases itF_grow m with h2 | h2
   ·exact absurd (congrArg f h2) h
   ·omega
theorem itF_fix : f (itF f n.toNat (allF n (!v))) = itF f n.toNat (allF n (!v)) := by
 rcases itF_grow hl hm n.toNat with h | h
 ·exact h
 ·have h1 := itF_len hl (allF_len n (!v)) (n.toNat + 1)
  have h2 : (itF f (n.toNat + 1) (allF n (!v))).count v ≤ _ := List.count_le_length
  omega
omit hl hm in
theorem itF_stay {o : List Bool} : ∀ {m m' : Nat}, f (itF f m o) = itF f m o → m ≤ m' → itF f m' o = itF f m o
 | m, 0, _, h => by
  have : m = 0 := by omega
  rw [this]
 | m, m' + 1, h, hk => by
  by_cases e : m = m' + 1
  ·rw [e]
  ·show f (itF f m' o) = _
   rw [itF_stay h (by omega), h]
theorem itF_any {m : Nat} (h : f (itF f m (allF n (!v))) = itF f m (allF n (!v))) : itF f n.toNat (allF n (!v)) = itF f m (allF n (!v)) := by
 by_cases hmn : m ≤ n.toNat
 ·exact itF_stay h hmn
 ·exact (itF_stay (itF_fix hl hm) (by omega)).symm
end
theorem lp_mono {g : ApiGraph} (hg : ToOk g) {k : Nat} {fl : List Bool} {x : FTr} {S : List (List Bool)} (hx : WfF k (fl ++ [false]) x) (hS : SOk g fl S) (v : Bool) {a b : List Bool} (ha : a.length = g.fPlaces.toNat) (hb : b.length = g.fPlaces.toNat) (h : leV g.fPlaces v a b) : leV g.fPlaces v (semF g k x (S ++ [a])) (semF g k x (S ++ [b])) := by
 have key : ∀ {a b : List Bool}, a.length = g.fPlaces.toNat → b.length = g.fPlaces.toNat → leV g.fPlaces true a b → leV g.fPlaces true (semF g k x (S ++ [a])) (semF g k x (S ++ [b])) := fun {a b} ha hb h => by
  refine sem_mono hg hx (hS.add ha false) (hS.add hb false) (fun j hj => ?_) (fun j hj => ?_)
  ·by_cases hl : j < S.length
   ·rw [List.getD_eq_getElem?_getD, List.getD_eq_getElem?_getD, List.getElem?_append_left hl, List.getElem?_append_left hl]
    exact fun p _ _ e => e
   ·have hj2 : j = S.length := by
     obtain ⟨hh, _⟩ := List.getElem?_eq_some_iff.1 hj
     rw [List.length_append, ← hS.1] at hh
     simp at hh
     omega
    subst hj2
    rw [List.getD_eq_getElem?_getD, List.getD_eq_getElem?_getD, List.getElem?_append_right (Nat.le_refl _), List.getElem?_append_right (Nat.le_refl _), Nat.sub_self]
    exact h
  ·by_cases hl : j < S.length
   ·rw [List.getD_eq_getElem?_getD, List.getD_eq_getElem?_getD, List.getElem?_append_left hl, List.getElem?_append_left hl]
    exact fun p _ _ e => e
   ·have hj2 : j = fl.length := by
     obtain ⟨hh, _⟩ := List.getElem?_eq_some_iff.1 hj
     rw [List.length_append] at hh
     simp at hh
     rw [hS.1] at hl
     omega
    rw [hj2, List.getElem?_append_right (Nat.le_refl _), Nat.sub_self] at hj
    cases hj
 cases v
 ·exact (key hb ha h.flip').flip
 ·exact key ha hb h
end Go.Proofs.Ytiejmeedkhkfgaa


namespace Go.Proofs.Ytiejmeedkhkfgaa
open Go.RowKit Go.MapKept
set_option linter.unusedSimpArgs false
set_option linter.unusedVariables false
set_option maxRecDepth 100000
set_option linter.unusedSectionVars false
theorem nodup_le {α : Type} : ∀ {l m : List α}, l.Nodup → (∀ x ∈ l, x ∈ m) → l.length ≤ m.length
 | [], _, _, _ => Nat.zero_le _
 | x :: l, m, hn, h => by
  rw [List.nodup_cons] at hn
  obtain ⟨s, t, rfl⟩ := List.append_of_mem (h x List.mem_cons_self)
  have := nodup_le (l := l) (m := s ++ t) hn.2 fun y hy => by
   have h1 := h y (List.mem_cons_of_mem _ hy)
   rw [List.mem_append, List.mem_cons] at h1
   rw [List.mem_append]
   rcases h1 with h1 | rfl | h1
   ·exact .inl h1
   ·exact absurd hy hn.1
   ·exact .inr h1
  simp only [List.length_append, List.length_cons] at this ⊢
  omega
theorem idxOf_left {α : Type} [DecidableEq α] {x : α} : ∀ {l r : List α}, x ∈ l → (l ++ r).idxOf x = l.idxOf x
 | [], _, h => by simp at h
 | y :: l, r, h => by
  rw [List.cons_append, List.idxOf_cons, List.idxOf_cons]
  by_cases e : y = x
  ·simp [e]
  ·have hm : x ∈ l := by
    rcases List.mem_cons.1 h with h | h
    ·exact absurd h.symm e
    ·exact h
   simp [e, idxOf_left (r := r) hm]
section
variable {K : Type} [DecidableEq K]
variable {go : K → Nat → K} {mark : K → Int} {L : Nat} {k0 : K} {P : K → Prop}
section
variable {K' : Type} [DecidableEq K'] {go' : K' → Nat → K'} {mark' : K' → Int} {φ : K → K'}
end
end
abbrev Lang := List Nat → Int
noncomputable instance langDec : DecidableEq Lang := fun _ _ => Classical.propDecidable _
def rs (L : Nat) (r : Lang) : Lang := fun w => if ∀ a ∈ w, a < L then r w else 0
theorem rs_congr {L : Nat} {r s : Lang} (h : ∀ w, (∀ a ∈ w, a < L) → r w = s w) : rs L r = rs L s := by
 funext w
 unfold rs
 split
 ·rename_i hw
  exact h w hw
 ·rfl
theorem rs_at {L : Nat} {r s : Lang} (h : rs L r = rs L s) {w : List Nat} (hw : ∀ a ∈ w, a < L) : r w = s w := by
 have := congrFun h w
 unfold rs at this
 rw [if_pos hw, if_pos hw] at this
 exact this
section
variable {K : Type} [DecidableEq K] {go : K → Nat → K} {mark : K → Int} {L : Nat} {k0 : K} {P : K → Prop}
end
def stepD (d : ApiDet) (q : Nat) (a : Nat) : Nat := ((d.fNext.getD q []).getD a 0).toNat
def langD (d : ApiDet) (q : Nat) : Lang := fun w => d.fMark.getD (w.foldl (stepD d) q) 0
section
variable {K : Type} [DecidableEq K] {go : K → Nat → K} {mark : K → Int} {L : Nat} {k0 : K} {P : K → Prop}
end
structure Wf (d : ApiDet) : Prop where
 letters : 0 ≤ d.fLetters
 rows : ∀ r ∈ d.fNext, r.length = d.fLetters.toNat
 next : ∀ r ∈ d.fNext, ∀ x ∈ r, 0 ≤ x ∧ x < (d.fNext.length : Int)
 start : 0 ≤ d.fStart ∧ d.fStart < (d.fNext.length : Int)
 mark : d.fMark.length = d.fNext.length
section
variable {K : Type} [DecidableEq K] {go : K → Nat → K} {mark : K → Int} {L : Nat} {k0 : K} {P : K → Prop}
end
end Go.Proofs.Ytiejmeedkhkfgaa


namespace Go.Proofs.Ytiejmeedkhkfgaa
open Go.RowKit Go.MapKept
set_option linter.unusedSimpArgs false
set_option linter.unusedVariables false
set_option maxRecDepth 100000
set_option linter.unusedSectionVars false
section
variable {K : Type} [DecidableEq K] {go : K → Nat → K} {mark : K → Int} {L : Nat} {k0 : K} {P : K → Prop}
def MapOf (m : List (K × Int)) (l : List K) : Prop := ∀ k, mget k m = if k ∈ l then some (l.idxOf k : Int) else none
theorem MapOf.one : MapOf (mput k0 0 ([] : List (K × Int))) [k0] := fun k => by
 rw [mget_put]
 by_cases h : k = k0
 ·subst h; simp
 ·simp [h, mget]
theorem idxOf_last {l : List K} {k : K} (h : k ∉ l) : (l ++ [k]).idxOf k = l.length := by
 induction l with
 | nil => simp
 | cons x l ih =>
  have h1 : x ≠ k := fun e => h (e ▸ List.mem_cons_self)
  have h2 : k ∉ l := fun e => h (List.mem_cons_of_mem _ e)
  rw [List.cons_append, List.idxOf_cons, ih h2, show (x == k) = false by simpa using h1]
  simp
theorem MapOf.push {m : List (K × Int)} {l : List K} (h : MapOf m l) {k : K} (hk : k ∉ l) : MapOf (mput k (l.length : Int) m) (l ++ [k]) := fun q => by
 rw [mget_put]
 by_cases e : q = k
 ·subst e
  simp [idxOf_last hk]
 ·rw [if_neg e, h q]
  by_cases hq : q ∈ l
  ·rw [if_pos hq, if_pos (List.mem_append_left _ hq), idxOf_left hq]
  ·rw [if_neg hq, if_neg (by simp [hq, e])]
end
end Go.Proofs.Ytiejmeedkhkfgaa


namespace Go.Proofs.Ytiejmeedkhkfgaa
open Go.RowKit Go.MapKept
set_option linter.unusedSimpArgs false
set_option linter.unusedVariables false
set_option maxRecDepth 100000
set_option linter.unusedSectionVars false
theorem onto_inj {m : Nat} {f : Nat → Nat} (hon : ∀ j, j < m → ∃ i, i < m ∧ f i = j) {i j : Nat} (hi : i < m) (hj : j < m) (h : f i = f j) : i = j := by
 refine Decidable.byContradiction fun hne => ?_
 have := nodup_le (l := List.range m) (m := ((List.range m).erase i).map f) List.nodup_range fun x hx => by
  obtain ⟨q, hq, rfl⟩ := hon x (List.mem_range.1 hx)
  rw [List.mem_map]
  by_cases e : q = i
  ·subst e
   exact ⟨j, (List.mem_erase_of_ne (fun e => hne e.symm)).2 (List.mem_range.2 hj), h.symm⟩
  ·exact ⟨q, (List.mem_erase_of_ne e).2 (List.mem_range.2 hq), rfl⟩
 rw [List.length_range, List.length_map, List.length_erase_of_mem (List.mem_range.2 hi), List.length_range] at this
 omega
theorem onto_le {k m : Nat} {f : Nat → Nat} (hon : ∀ j, j < k → ∃ i, i < m ∧ f i = j) : k ≤ m := by
 have := nodup_le (l := List.range k) (m := (List.range m).map f) List.nodup_range fun x hx => by
  obtain ⟨q, hq, rfl⟩ := hon x (List.mem_range.1 hx)
  exact List.mem_map.2 ⟨q, List.mem_range.2 hq, rfl⟩
 simpa using this
def two8 (c : Int) : List Int := [c % 256, c / 256 % 256]
theorem two8_inj {c d : Int} (hc : 0 ≤ c ∧ c < 65536) (hd : 0 ≤ d ∧ d < 65536) (h : two8 c = two8 d) : c = d := by
 unfold two8 at h
 simp only [List.cons.injEq] at h
 omega
theorem two8_in {c : Int} : ∀ x ∈ two8 c, 0 ≤ x ∧ x < 256 := by
 intro x hx
 unfold two8 at hx
 simp only [List.mem_cons, List.not_mem_nil, or_false] at hx
 omega
theorem twos_inj : ∀ {l m : List Int}, (∀ x ∈ l, 0 ≤ x ∧ x < 65536) → (∀ x ∈ m, 0 ≤ x ∧ x < 65536) → l.flatMap two8 = m.flatMap two8 → l = m
 | [], [], _, _, _ => rfl
 | [], _ :: _, _, _, h => by simp [two8] at h
 | _ :: _, [], _, _, h => by simp [two8] at h
 | x :: l, y :: m, hl, hm, h => by
  rw [List.flatMap_cons, List.flatMap_cons] at h
  have h1 := List.append_inj h (by simp [two8])
  rw [two8_inj (hl x List.mem_cons_self) (hm y List.mem_cons_self) h1.1, twos_inj (fun z hz => hl z (List.mem_cons_of_mem _ hz)) (fun z hz => hm z (List.mem_cons_of_mem _ hz)) h1.2]
theorem twos_in {l : List Int} : ∀ x ∈ l.flatMap two8, 0 ≤ x ∧ x < 256 := fun x hx => by
 obtain ⟨c, _, h⟩ := List.mem_flatMap.1 hx
 exact two8_in x h
def rowCls (cls : List Int) (r : List Int) : List Int := r.map fun t => cls.getD t.toNat 0
def keyOf (cls : List Int) (q : Nat) (r : List Int) : DetSplit := ⟨cls.getD q 0, bytesOf ((rowCls cls r).flatMap two8)⟩
structure RoundOf (N : List (List Int)) (cls next : List Int) (m : Nat) : Prop where
 len : next.length = N.length
 range : ∀ x ∈ next, 0 ≤ x ∧ x < (m : Int)
 onto : ∀ j : Nat, j < m → (j : Int) ∈ next
 same : ∀ (p q : Nat) (r s : List Int) (x y : Int), N[p]? = some r → N[q]? = some s → next[p]? = some x → next[q]? = some y → (x = y ↔ keyOf cls p r = keyOf cls q s)
structure ClsPre (d : ApiDet) : Prop where
 size : d.fNext.length ≤ 65536
 next : ∀ r ∈ d.fNext, ∀ x ∈ r, 0 ≤ x ∧ x < (d.fNext.length : Int)
 wide : ∀ r ∈ d.fNext, r.length ≤ 1000
 marks : d.fMark.length = d.fNext.length
 small : ∀ x ∈ d.fMark, 0 ≤ x ∧ x < 65536
structure Half (N : List (List Int)) (cls : List Int) (q : Nat) (m2 : List (DetSplit × Int)) (next : List Int) : Prop where
 len : next.length = N.length
 get : ∀ (p : Nat) (r : List Int), p < q → N[p]? = some r → ∃ x : Int, next[p]? = some x ∧ mget (keyOf cls p r) m2 = some x
 range : ∀ (k : DetSplit) (x : Int), mget k m2 = some x → 0 ≤ x ∧ x < (m2.length : Int)
 inj : ∀ (k l : DetSplit) (x : Int), mget k m2 = some x → mget l m2 = some x → k = l
 onto : ∀ j : Nat, j < m2.length → ∃ p : Nat, p < q ∧ next[p]? = some (j : Int)
 size : m2.length ≤ q
theorem mput_length {κ : Type} [DecidableEq κ] {a : κ} {v : Int} : ∀ {D : List (κ × Int)}, mget a D = none → (mput a v D).length = D.length + 1
 | [], _ => rfl
 | x :: D, h => by
  rw [mget] at h
  split at h
  ·cases h
  ·rename_i e
   rw [mput, if_neg e, List.length_cons, mput_length h, List.length_cons]
theorem Half.start {N : List (List Int)} {cls next : List Int} (h : next.length = N.length) : Half N cls 0 [] next :=
 ⟨h, fun p r hp => absurd hp (Nat.not_lt_zero _), fun k x e => by simp [mget] at e, fun k l x e => by simp [mget] at e, fun j hj => by simp at hj, Nat.le_refl _⟩
theorem Half.known {N : List (List Int)} {cls next : List Int} {q : Nat} {m2 : List (DetSplit × Int)} (h : Half N cls q m2 next) {r : List Int} (hr : N[q]? = some r) {x : Int} (hx : mget (keyOf cls q r) m2 = some x) : Half N cls (q + 1) m2 (next.set q x) := by
 have hq : q < next.length := by rw [h.len]; exact (List.getElem?_eq_some_iff.1 hr).1
 refine ⟨by simp [h.len], fun p s hp hs => ?_, h.range, h.inj, fun j hj => ?_, Nat.le_succ_of_le h.size⟩
 ·by_cases e : p = q
  ·subst e
   rw [hr] at hs
   cases hs
   exact ⟨x, by rw [List.getElem?_set_self hq], hx⟩
  ·obtain ⟨y, h1, h2⟩ := h.get p s (by omega) hs
   exact ⟨y, by rw [List.getElem?_set_ne (Ne.symm e)]; exact h1, h2⟩
 ·obtain ⟨p, h1, h2⟩ := h.onto j hj
  exact ⟨p, by omega, by rw [List.getElem?_set_ne (by omega)]; exact h2⟩
theorem Half.new {N : List (List Int)} {cls next : List Int} {q : Nat} {m2 : List (DetSplit × Int)} (h : Half N cls q m2 next) {r : List Int} (hr : N[q]? = some r) (hx : mget (keyOf cls q r) m2 = none) : Half N cls (q + 1) (mput (keyOf cls q r) (m2.length : Int) m2) (next.set q (m2.length : Int)) := by
 have hq : q < next.length := by rw [h.len]; exact (List.getElem?_eq_some_iff.1 hr).1
 have hl := mput_length (v := (m2.length : Int)) hx
 refine ⟨by simp [h.len], fun p s hp hs => ?_, fun k x e => ?_, fun k l x e1 e2 => ?_, fun j hj => ?_, by rw [hl]; have := h.size; omega⟩
 ·by_cases e : p = q
  ·subst e
   rw [hr] at hs
   cases hs
   exact ⟨_, by rw [List.getElem?_set_self hq], by rw [mget_put, if_pos rfl]⟩
  ·obtain ⟨y, h1, h2⟩ := h.get p s (by omega) hs
   refine ⟨y, by rw [List.getElem?_set_ne (Ne.symm e)]; exact h1, ?_⟩
   rw [mget_put, if_neg (fun e2 => by rw [e2, hx] at h2; cases h2)]
   exact h2
 ·rw [mget_put] at e
  rw [hl]
  split at e
  ·cases e; omega
  ·have := h.range k x e
   omega
 ·rw [mget_put] at e1 e2
  split at e1 <;> split at e2
  ·rename_i a b; rw [a, b]
  ·cases e1
   have := h.range l _ e2
   omega
  ·cases e2
   have := h.range k _ e1
   omega
  ·exact h.inj k l x e1 e2
 ·rw [hl] at hj
  by_cases e : j = m2.length
  ·subst e
   exact ⟨q, by omega, by rw [List.getElem?_set_self hq]⟩
  ·obtain ⟨p, h1, h2⟩ := h.onto j (by omega)
   exact ⟨p, by omega, by rw [List.getElem?_set_ne (by omega)]; exact h2⟩
theorem Half.round {N : List (List Int)} {cls next : List Int} {m2 : List (DetSplit × Int)} (h : Half N cls N.length m2 next) : RoundOf N cls next m2.length := by
 have hget : ∀ (p : Nat) (r : List Int) (x : Int), N[p]? = some r → next[p]? = some x → mget (keyOf cls p r) m2 = some x := fun p r x h1 h2 => by
  obtain ⟨y, h3, h4⟩ := h.get p r (List.getElem?_eq_some_iff.1 h1).1 h1
  rw [h2] at h3
  cases h3
  exact h4
 refine ⟨h.len, fun x hx => ?_, fun j hj => ?_, fun p q r s x y h1 h2 h3 h4 => ?_⟩
 ·obtain ⟨p, hp⟩ := List.getElem?_of_mem hx
  have hlt := (List.getElem?_eq_some_iff.1 hp).1
  rw [h.len] at hlt
  exact h.range _ x (hget p _ x (List.getElem?_eq_getElem hlt) hp)
 ·obtain ⟨p, _, h2⟩ := h.onto j hj
  exact List.mem_of_getElem? h2
 ·have k1 := hget p r x h1 h3
  have k2 := hget q s y h2 h4
  constructor
  ·rintro rfl
   exact h.inj _ _ x k1 k2
  ·intro e
   rw [e, k2] at k1
   cases k1
   rfl
theorem succ_rs {d : ApiDet} {L p q a : Nat} (h : rs L (langD d p) = rs L (langD d q)) (ha : a < L) : rs L (langD d (stepD d p a)) = rs L (langD d (stepD d q a)) :=
 rs_congr fun w hw => rs_at (w := a :: w) h fun b hb => (List.mem_cons.1 hb).elim (fun e => e ▸ ha) (hw b)
structure ClsInv (d : ApiDet) (L : Nat) (x4 : Int) (cls : List Int) : Prop where
 len : cls.length = d.fNext.length
 range : ∀ x ∈ cls, 0 ≤ x ∧ x < 65536
 sound : ∀ p q, p < d.fNext.length → q < d.fNext.length → rs L (langD d p) = rs L (langD d q) → cls.getD p 0 = cls.getD q 0
 marks : ∀ p q, p < d.fNext.length → q < d.fNext.length → cls.getD p 0 = cls.getD q 0 → d.fMark.getD p 0 = d.fMark.getD q 0
 count : x4 = 0 ∨ ∃ m : Nat, x4 = m ∧ m ≤ d.fNext.length ∧ (∀ x ∈ cls, 0 ≤ x ∧ x < (m : Int)) ∧ ∀ j : Nat, j < m → (j : Int) ∈ cls
theorem getD_mem {α : Type} {l : List α} {i : Nat} {z : α} (h : i < l.length) : l.getD i z ∈ l := by
 rw [List.getD_eq_getElem?_getD, List.getElem?_eq_getElem h]
 exact List.getElem_mem h
theorem getD_some {α : Type} {l : List α} {i : Nat} {z : α} (h : i < l.length) : l[i]? = some (l.getD i z) := by
 rw [List.getD_eq_getElem?_getD, List.getElem?_eq_getElem h]
 rfl
section
variable {d : ApiDet} (hd : ClsPre d) {L : Nat} (hL : ∀ r ∈ d.fNext, r.length = L)
include hd
theorem ClsPre.step {q a : Nat} (hq : q < d.fNext.length) : stepD d q a < d.fNext.length := by
 unfold stepD
 have hr := getD_mem (z := []) hq
 by_cases h : a < (d.fNext.getD q []).length
 ·have := hd.next _ hr _ (getD_mem (z := 0) h)
  omega
 ·rw [List.getD_eq_getElem?_getD (l := d.fNext.getD q []), List.getElem?_eq_none (by omega)]
  simp only [Option.getD_none]
  omega
theorem keyOf_iff {cls : List Int} (hr : ∀ x ∈ cls, 0 ≤ x ∧ x < 65536) (hlen : cls.length = d.fNext.length) {p q : Nat} (hp : p < d.fNext.length) (hq : q < d.fNext.length) (hrows : (d.fNext.getD p []).length = (d.fNext.getD q []).length) :
  keyOf cls p (d.fNext.getD p []) = keyOf cls q (d.fNext.getD q []) ↔ cls.getD p 0 = cls.getD q 0 ∧ ∀ a, a < (d.fNext.getD p []).length → cls.getD (stepD d p a) 0 = cls.getD (stepD d q a) 0 := by
 have hin : ∀ r ∈ d.fNext, ∀ x ∈ rowCls cls r, 0 ≤ x ∧ x < 65536 := fun r hr2 x hx => by
  obtain ⟨t, ht, rfl⟩ := List.mem_map.1 hx
  have := hd.next r hr2 t ht
  exact hr _ (getD_mem (by omega))
 unfold keyOf
 simp only [DetSplit.mk.injEq]
 refine and_congr Iff.rfl ⟨fun h a ha => ?_, fun h => ?_⟩
 ·have h1 := twos_inj (hin _ (getD_mem hp)) (hin _ (getD_mem hq)) (bytesOf_inj twos_in twos_in h)
  have h2 := congrArg (fun l => l[a]?) h1
  simp only [rowCls, List.getElem?_map, getD_some (z := (0 : Int)) ha, getD_some (z := (0 : Int)) (show a < (d.fNext.getD q []).length by omega), Option.map_some, Option.some.injEq] at h2
  exact h2
 ·have : rowCls cls (d.fNext.getD p []) = rowCls cls (d.fNext.getD q []) := by
   unfold rowCls
   refine List.ext_getElem? fun a => ?_
   rw [List.getElem?_map, List.getElem?_map]
   by_cases ha : a < (d.fNext.getD p []).length
   ·rw [getD_some (z := (0 : Int)) ha, getD_some (z := (0 : Int)) (show a < (d.fNext.getD q []).length by omega), Option.map_some, Option.map_some]
    exact congrArg some (h a ha)
   ·rw [List.getElem?_eq_none (by omega), List.getElem?_eq_none (by omega)]
  rw [this]
include hL
theorem ClsInv.next {cls next : List Int} {x4 : Int} {m : Nat} (h : ClsInv d L x4 cls) (hR : RoundOf d.fNext cls next m) (hm : m ≤ d.fNext.length) : ClsInv d L m next := by
 have hrow : ∀ p, p < d.fNext.length → (d.fNext.getD p []).length = L := fun p hp => hL _ (getD_mem hp)
 have key : ∀ p q, p < d.fNext.length → q < d.fNext.length → (next.getD p 0 = next.getD q 0 ↔ cls.getD p 0 = cls.getD q 0 ∧ ∀ a, a < L → cls.getD (stepD d p a) 0 = cls.getD (stepD d q a) 0) := fun p q hp hq => by
  rw [hR.same p q _ _ _ _ (getD_some (z := []) hp) (getD_some (z := []) hq) (getD_some (z := 0) (by rw [hR.len]; exact hp)) (getD_some (z := 0) (by rw [hR.len]; exact hq)), keyOf_iff hd h.range h.len hp hq (by rw [hrow p hp, hrow q hq]), hrow p hp]
 have h65 := hd.size
 refine ⟨hR.len, fun x hx => by have := hR.range x hx; omega, fun p q hp hq hw => ?_, fun p q hp hq e => h.marks p q hp hq ((key p q hp hq).1 e).1, .inr ⟨m, rfl, hm, hR.range, hR.onto⟩⟩
 exact (key p q hp hq).2 ⟨h.sound p q hp hq hw, fun a ha => h.sound _ _ (hd.step hp) (hd.step hq) (succ_rs hw ha)⟩
theorem ClsInv.factor {cls next : List Int} {x4 : Int} {m : Nat} (h : ClsInv d L x4 cls) (hR : RoundOf d.fNext cls next m) : ∃ f : Nat → Nat, ∀ i, i < d.fNext.length → f (next.getD i 0).toNat = (cls.getD i 0).toNat := by
 have hrow : ∀ p, p < d.fNext.length → (d.fNext.getD p []).length = L := fun p hp => hL _ (getD_mem hp)
 have key : ∀ p q, p < d.fNext.length → q < d.fNext.length → next.getD p 0 = next.getD q 0 → cls.getD p 0 = cls.getD q 0 := fun p q hp hq e =>
  ((keyOf_iff hd h.range h.len hp hq (by rw [hrow p hp, hrow q hq])).1 ((hR.same p q _ _ _ _ (getD_some (z := []) hp) (getD_some (z := []) hq) (getD_some (z := 0) (by rw [hR.len]; exact hp)) (getD_some (z := 0) (by rw [hR.len]; exact hq))).1 e)).1
 have hx : ∀ j : Nat, j < m → ∃ i : Nat, i < d.fNext.length ∧ next.getD i 0 = (j : Int) := fun j hj => by
  obtain ⟨i, hi⟩ := List.getElem?_of_mem (hR.onto j hj)
  have hlt := (List.getElem?_eq_some_iff.1 hi).1
  exact ⟨i, by rw [hR.len] at hlt; exact hlt, by simp [hi]⟩
 refine ⟨fun j => if hj : j < m then (cls.getD (hx j hj).choose 0).toNat else 0, fun i hi => ?_⟩
 have hr := hR.range _ (getD_mem (l := next) (z := 0) (by rw [hR.len]; exact hi))
 have hj : (next.getD i 0).toNat < m := by omega
 show (if hj : _ then _ else _) = _
 rw [dif_pos hj]
 obtain ⟨k1, k2⟩ := (hx _ hj).choose_spec
 rw [key _ i k1 hi (by rw [k2]; omega)]
theorem ClsInv.le {cls next : List Int} {x4 : Int} {m : Nat} (h : ClsInv d L x4 cls) (hR : RoundOf d.fNext cls next m) : x4 ≤ m := by
 rcases h.count with h0 | ⟨m', h1, h2, h3, h4⟩
 ·omega
 ·obtain ⟨f, hf⟩ := h.factor hd hL hR
  have := onto_le (k := m') (m := m) (f := f) fun j hj => by
   obtain ⟨i, hi⟩ := List.getElem?_of_mem (h4 j hj)
   have hlt := (List.getElem?_eq_some_iff.1 hi).1
   rw [h.len] at hlt
   have hr := hR.range _ (getD_mem (l := next) (z := 0) (by rw [hR.len]; exact hlt))
   refine ⟨(next.getD i 0).toNat, by omega, ?_⟩
   rw [hf i hlt]
   simp [hi]
  omega
theorem ClsInv.ends {cls next : List Int} {x4 : Int} {m : Nat} (h : ClsInv d L x4 cls) (hR : RoundOf d.fNext cls next m) (hm : m ≤ d.fNext.length) (he : (m : Int) = x4) : ∀ p q, p < d.fNext.length → q < d.fNext.length → (next.getD p 0 = next.getD q 0 ↔ rs L (langD d p) = rs L (langD d q)) := by
 have hrow : ∀ p, p < d.fNext.length → (d.fNext.getD p []).length = L := fun p hp => hL _ (getD_mem hp)
 have key : ∀ p q, p < d.fNext.length → q < d.fNext.length → (next.getD p 0 = next.getD q 0 ↔ cls.getD p 0 = cls.getD q 0 ∧ ∀ a, a < L → cls.getD (stepD d p a) 0 = cls.getD (stepD d q a) 0) := fun p q hp hq => by
  rw [hR.same p q _ _ _ _ (getD_some (z := []) hp) (getD_some (z := []) hq) (getD_some (z := 0) (by rw [hR.len]; exact hp)) (getD_some (z := 0) (by rw [hR.len]; exact hq)), keyOf_iff hd h.range h.len hp hq (by rw [hrow p hp, hrow q hq]), hrow p hp]
 intro p q hp hq
 -- no class was split
 have stay : ∀ p q, p < d.fNext.length → q < d.fNext.length → cls.getD p 0 = cls.getD q 0 → next.getD p 0 = next.getD q 0 := by
  intro p q hp hq e
  have hnp := hR.range _ (getD_mem (l := next) (z := 0) (by rw [hR.len]; exact hp))
  have hnq := hR.range _ (getD_mem (l := next) (z := 0) (by rw [hR.len]; exact hq))
  rcases h.count with h0 | ⟨m', h1, h2, h3, h4⟩
  ·omega
  ·have hmm : m' = m := by omega
   subst hmm
   obtain ⟨f, hf⟩ := h.factor hd hL hR
   have hon : ∀ j, j < m' → ∃ i, i < m' ∧ f i = j := fun j hj => by
    obtain ⟨i, hi⟩ := List.getElem?_of_mem (h4 j hj)
    have hlt := (List.getElem?_eq_some_iff.1 hi).1
    rw [h.len] at hlt
    have hr := hR.range _ (getD_mem (l := next) (z := 0) (by rw [hR.len]; exact hlt))
    refine ⟨(next.getD i 0).toNat, by omega, ?_⟩
    rw [hf i hlt]
    simp [hi]
   have := onto_inj hon (i := (next.getD p 0).toNat) (j := (next.getD q 0).toNat) (by omega) (by omega) (by rw [hf p hp, hf q hq, e])
   omega
 constructor
 ·intro e
  have go : ∀ (w : List Nat) (p q : Nat), p < d.fNext.length → q < d.fNext.length → next.getD p 0 = next.getD q 0 → (∀ a ∈ w, a < L) → langD d p w = langD d q w := by
   intro w
   induction w with
   | nil => exact fun p q hp hq e _ => h.marks p q hp hq ((key p q hp hq).1 e).1
   | cons a w ih =>
    intro p q hp hq e hw
    exact ih (stepD d p a) (stepD d q a) (hd.step hp) (hd.step hq) (stay _ _ (hd.step hp) (hd.step hq) (((key p q hp hq).1 e).2 a (hw a List.mem_cons_self))) fun b hb => hw b (List.mem_cons_of_mem _ hb)
  exact rs_congr fun w hw => go w p q hp hq e hw
 ·exact fun e => (key p q hp hq).2 ⟨h.sound p q hp hq e, fun a ha => h.sound _ _ (hd.step hp) (hd.step hq) (succ_rs e ha)⟩
end
end Go.Proofs.Ytiejmeedkhkfgaa


namespace Go.Proofs.Ytiejmeedkhkfgaa
open Go.RowKit Go.MapKept
set_option linter.unusedSimpArgs false
set_option linter.unusedVariables false
set_option maxRecDepth 100000
set_option linter.unusedSectionVars false
section
variable {n : Nat} {R : Nat → Nat → Prop}
structure FirstsInv (n : Nat) (R : Nat → Nat → Prop) (q : Nat) (firsts next : List Int) : Prop where
 len : next.length = n
 size : firsts.length ≤ q
 alike : ∀ p, p < q → ∃ k : Nat, k < firsts.length ∧ next.getD p 0 = (k : Int) ∧ R (firsts.getD k 0).toNat p
 apart : ∀ i j, i < firsts.length → j < firsts.length → R (firsts.getD i 0).toNat (firsts.getD j 0).toNat → i = j
 first : ∀ j, j < firsts.length → ∃ r : Nat, r < q ∧ firsts.getD j 0 = (r : Int) ∧ next.getD r 0 = (j : Int)
theorem FirstsInv.start {next : List Int} (h : next.length = n) : FirstsInv n R 0 [] next :=
 ⟨h, Nat.le_refl _, fun p hp => absurd hp (Nat.not_lt_zero _), fun i j hi => absurd hi (Nat.not_lt_zero _), fun j hj => absurd hj (Nat.not_lt_zero _)⟩
theorem getD_set_eq {α : Type} {l : List α} {i : Nat} {x z : α} (h : i < l.length) : (l.set i x).getD i z = x := by
 rw [List.getD_eq_getElem?_getD, List.getElem?_set_self h]
 rfl
theorem getD_set_ne {α : Type} {l : List α} {i j : Nat} {x z : α} (h : i ≠ j) : (l.set i x).getD j z = l.getD j z := by
 rw [List.getD_eq_getElem?_getD, List.getElem?_set_ne h, ← List.getD_eq_getElem?_getD]
theorem getD_app {α : Type} {l : List α} {x z : α} : (l ++ [x]).getD l.length z = x := by simp [List.getD_eq_getElem?_getD]
theorem getD_app_lt {α : Type} {l r : List α} {z : α} {i : Nat} (h : i < l.length) : (l ++ r).getD i z = l.getD i z := by
 rw [List.getD_eq_getElem?_getD, List.getElem?_append_left h, ← List.getD_eq_getElem?_getD]
theorem FirstsInv.known {q k : Nat} {firsts next : List Int} (h : FirstsInv n R q firsts next) (hq : q < n) (hk : k < firsts.length) (hR : R (firsts.getD k 0).toNat q) : FirstsInv n R (q + 1) firsts (next.set q (k : Int)) := by
 have hl := h.len
 refine ⟨by simp [hl], Nat.le_succ_of_le h.size, fun p hp => ?_, h.apart, fun j hj => ?_⟩
 ·by_cases e : p = q
  ·subst e
   exact ⟨k, hk, getD_set_eq (by omega), hR⟩
  ·obtain ⟨k', h1, h2, h3⟩ := h.alike p (by omega)
   exact ⟨k', h1, by rw [getD_set_ne (Ne.symm e)]; exact h2, h3⟩
 ·obtain ⟨r, h1, h2, h3⟩ := h.first j hj
  exact ⟨r, by omega, h2, by rw [getD_set_ne (by omega)]; exact h3⟩
theorem FirstsInv.new {q : Nat} {firsts next : List Int} (h : FirstsInv n R q firsts next) (hq : q < n) (hr : ∀ q, q < n → R q q) (hs : ∀ p q, p < n → q < n → R p q → R q p) (hno : ∀ k, k < firsts.length → ¬ R (firsts.getD k 0).toNat q) : FirstsInv n R (q + 1) (firsts ++ [(q : Int)]) (next.set q (firsts.length : Int)) := by
 have hl := h.len
 have hll : (firsts ++ [(q : Int)]).length = firsts.length + 1 := by simp
 have hlt : ∀ k, k < firsts.length → (firsts.getD k 0).toNat < q := fun k hk => by
  obtain ⟨r, h1, h2, _⟩ := h.first k hk
  omega
 refine ⟨by simp [hl], by rw [hll]; have := h.size; omega, fun p hp => ?_, fun i j hi hj hR => ?_, fun j hj => ?_⟩
 ·by_cases e : p = q
  ·subst e
   exact ⟨firsts.length, by omega, getD_set_eq (by omega), by rw [getD_app]; exact hr _ hq⟩
  ·obtain ⟨k', h1, h2, h3⟩ := h.alike p (by omega)
   exact ⟨k', by omega, by rw [getD_set_ne (Ne.symm e)]; exact h2, by rw [getD_app_lt h1]; exact h3⟩
 ·rw [hll] at hi hj
  by_cases ei : i = firsts.length <;> by_cases ej : j = firsts.length
  ·omega
  ·subst ei
   rw [getD_app, getD_app_lt (by omega)] at hR
   have := hlt j (by omega)
   exact absurd (hs _ _ hq (by omega) hR) (hno j (by omega))
  ·subst ej
   rw [getD_app, getD_app_lt (by omega)] at hR
   exact absurd hR (hno i (by omega))
  ·rw [getD_app_lt (by omega), getD_app_lt (by omega)] at hR
   exact h.apart i j (by omega) (by omega) hR
 ·rw [hll] at hj
  by_cases ej : j = firsts.length
  ·subst ej
   exact ⟨q, by omega, getD_app, getD_set_eq (by omega)⟩
  ·obtain ⟨r, h1, h2, h3⟩ := h.first j (by omega)
   exact ⟨r, by omega, by rw [getD_app_lt (by omega)]; exact h2, by rw [getD_set_ne (by omega)]; exact h3⟩
structure RoundR (n : Nat) (R : Nat → Nat → Prop) (next : List Int) (m : Nat) : Prop where
 len : next.length = n
 size : m ≤ n
 range : ∀ p, p < n → 0 ≤ next.getD p 0 ∧ next.getD p 0 < (m : Int)
 onto : ∀ j : Nat, j < m → ∃ p, p < n ∧ next.getD p 0 = (j : Int)
 same : ∀ p q, p < n → q < n → (next.getD p 0 = next.getD q 0 ↔ R p q)
theorem FirstsInv.done {firsts next : List Int} (h : FirstsInv n R n firsts next) (hs : ∀ p q, p < n → q < n → R p q → R q p) (ht : ∀ p q r, p < n → q < n → r < n → R p q → R q r → R p r) : RoundR n R next firsts.length := by
 have hlt : ∀ k, k < firsts.length → (firsts.getD k 0).toNat < n := fun k hk => by
  obtain ⟨r, h1, h2, _⟩ := h.first k hk
  omega
 refine ⟨h.len, h.size, fun p hp => ?_, fun j hj => ?_, fun p q hp hq => ⟨fun e => ?_, fun hR => ?_⟩⟩
 ·obtain ⟨k, h1, h2, _⟩ := h.alike p hp
  omega
 ·obtain ⟨r, h1, _, h3⟩ := h.first j hj
  exact ⟨r, h1, h3⟩
 ·obtain ⟨k, h1, h2, h3⟩ := h.alike p hp
  obtain ⟨k', h1', h2', h3'⟩ := h.alike q hq
  have : k = k' := by omega
  subst this
  exact ht _ _ _ hp (hlt k h1) hq (hs _ _ (hlt k h1) hp h3) h3'
 ·obtain ⟨k, h1, h2, h3⟩ := h.alike p hp
  obtain ⟨k', h1', h2', h3'⟩ := h.alike q hq
  have : R (firsts.getD k 0).toNat (firsts.getD k' 0).toNat := ht _ _ _ (hlt k h1) hp (hlt k' h1') h3 (ht _ _ _ hp hq (hlt k' h1') hR (hs _ _ (hlt k' h1') hq h3'))
  have := h.apart k k' h1 h1' this
  omega
structure Onto (n m : Nat) (cls : List Int) : Prop where
 len : cls.length = n
 range : ∀ p, p < n → 0 ≤ cls.getD p 0 ∧ cls.getD p 0 < (m : Int)
 onto : ∀ j : Nat, j < m → ∃ p, p < n ∧ cls.getD p 0 = (j : Int)
theorem RoundR.toOnto {next : List Int} {m : Nat} (h : RoundR n R next m) : Onto n m next := ⟨h.len, h.range, h.onto⟩
theorem Onto.factor {m m' : Nat} {cls next : List Int} (h : Onto n m next) (h' : Onto n m' cls) (ref : ∀ p q, p < n → q < n → next.getD p 0 = next.getD q 0 → cls.getD p 0 = cls.getD q 0) : ∃ f : Nat → Nat, (∀ i, i < n → f (next.getD i 0).toNat = (cls.getD i 0).toNat) ∧ ∀ j, j < m' → ∃ i, i < m ∧ f i = j := by
 have hf : ∃ f : Nat → Nat, ∀ i, i < n → f (next.getD i 0).toNat = (cls.getD i 0).toNat := by
  refine ⟨fun j => if hj : j < m then (cls.getD (h.onto j hj).choose 0).toNat else 0, fun i hi => ?_⟩
  have hr := h.range i hi
  have hj : (next.getD i 0).toNat < m := by omega
  show (if hj : _ then _ else _) = _
  rw [dif_pos hj]
  obtain ⟨k1, k2⟩ := (h.onto _ hj).choose_spec
  rw [ref _ i k1 hi (by rw [k2]; omega)]
 obtain ⟨f, hf⟩ := hf
 refine ⟨f, hf, fun j hj => ?_⟩
 obtain ⟨p, h1, h2⟩ := h'.onto j hj
 have hr := h.range p h1
 exact ⟨(next.getD p 0).toNat, by omega, by rw [hf p h1, h2]; omega⟩
theorem Onto.le {m m' : Nat} {cls next : List Int} (h : Onto n m next) (h' : Onto n m' cls) (ref : ∀ p q, p < n → q < n → next.getD p 0 = next.getD q 0 → cls.getD p 0 = cls.getD q 0) : m' ≤ m := by
 obtain ⟨f, _, h2⟩ := h.factor h' ref
 exact onto_le h2
theorem Onto.stay {m : Nat} {cls next : List Int} (h : Onto n m next) (h' : Onto n m cls) (ref : ∀ p q, p < n → q < n → next.getD p 0 = next.getD q 0 → cls.getD p 0 = cls.getD q 0) {p q : Nat} (hp : p < n) (hq : q < n) (e : cls.getD p 0 = cls.getD q 0) : next.getD p 0 = next.getD q 0 := by
 obtain ⟨f, h1, h2⟩ := h.factor h' ref
 have hnp := h.range p hp
 have hnq := h.range q hq
 have := onto_inj h2 (i := (next.getD p 0).toNat) (j := (next.getD q 0).toNat) (by omega) (by omega) (by rw [h1 p hp, h1 q hq, e])
 omega
theorem Onto.pos {m : Nat} {cls : List Int} (h : Onto n m cls) (hn : 0 < n) : 0 < m := by
 have := h.range 0 hn
 omega
end
end Go.Proofs.Ytiejmeedkhkfgaa

