/- Lemmas towards the statement: mirrors of functions, and plain laws. No condition. -/
import Derived.Test.YtapnmjeadbhffaaPackMonoidPowers3


namespace Go.Proofs.Ytapnmjeadbhffaa
open Go.RowKit Go.MapKept
set_option linter.unusedSimpArgs false
set_option linter.unusedVariables false
set_option maxRecDepth 100000
def indexLInt_vc (l : (List (List Int))) (dom : ((List Int) → Prop)) (φ : ((List Int) → Bool)) (Q : Int → Prop) : Prop :=
 l.length ≤ 9223372036854775807 →
 (∃ (Inv : Int → Prop) (mu : Int → Nat), Inv 0 ∧
 ∀ (x8 : Int) , Inv x8 → (IfP (decide (x8 < (l.length : Int))) (∃ e, idx l x8 = some e ∧
 (dom e) ∧
 IfP (φ e) (Q x8) ((Inv (wr (x8 + 1)) ∧ mu (wr (x8 + 1)) < mu x8))) (Q (-1))))
theorem indexLInt_walk (l : (List (List Int))) (dom : ((List Int) → Prop)) (φ : ((List Int) → Bool)) (Q : Int → Prop) (h : indexLInt_vc l dom φ Q) : Ct 170 [.sv (.one (LS (lsT intT) l)), .sv (.one (.rd (fvR (fun x => [.sv (.one (LS intT x))]) (fun b => .sv (.one (B b))) dom φ)))] [] Q (fun (r : Int) => .sv (.one (I r))) := by
 have ht := tab_ok
 refine Ct.body Try.func170 rfl rfl rfl rfl (fun c hn => ?_)
 unfold indexLInt_vc at h
 refine En.lenL 0 (by rfl) (fun hl => ?_)
 replace h := h hl
 clear hl
 refine En.seq ?_
 refine En.region ?_
 refine WL.run ht hn 1 ⟨[sl 0 (LS (lsT intT) l), sl 1 (.rd (fvR (fun x => [.sv (.one (LS intT x))]) (fun b => .sv (.one (B b))) dom φ))], []⟩ (by kernel_rfl) ?_
 refine WL.nil ?_
 refine En.seq ?_
 refine En.seq ?_
 refine En.region ?_
 refine WL.run ht hn 3 ⟨[sl 0 (LS (lsT intT) l), sl 1 (.rd (fvR (fun x => [.sv (.one (LS intT x))]) (fun b => .sv (.one (B b))) dom φ)), sl 7 (I (l.length : Int)), sl 8 (I 0)], []⟩ (by kernel_rfl) ?_
 refine WL.nil ?_
 refine En.block ?_
 obtain ⟨Inv, mu, h0, hI⟩ := h
 refine En.loop (σ := Int) (fun zz => Inv zz) (fun zz => mu zz) (fun zz => ⟨[sl 0 (LS (lsT intT) l), sl 1 (.rd (fvR (fun x => [.sv (.one (LS intT x))]) (fun b => .sv (.one (B b))) dom φ)), sl 7 (I (l.length : Int)), sl 8 (I zz)], []⟩) 0 h0 (sub_ok (by kernel_rfl)) ?_
 intro x8 h
 replace h := hI _ h
 show En c ⟨[sl 0 (LS (lsT intT) l), sl 1 (.rd (fvR (fun x => [.sv (.one (LS intT x))]) (fun b => .sv (.one (B b))) dom φ)), sl 7 (I (l.length : Int)), sl 8 (I x8)], []⟩ _
 refine En.seq ?_
 refine En.region ?_
 refine WL.run ht hn 1 ⟨[sl 0 (LS (lsT intT) l), sl 1 (.rd (fvR (fun x => [.sv (.one (LS intT x))]) (fun b => .sv (.one (B b))) dom φ)), sl 7 (I (l.length : Int)), sl 8 (I x8), sl 9 (B (decide (x8 < (l.length : Int))))], []⟩ (by kernel_rfl) ?_
 refine WL.nil ?_
 refine En.seq ?_
 refine En.cond (b := (decide (x8 < (l.length : Int)))) (by kernel_rfl) (fun hb => ?_) (fun hb => ?_)
 replace h := h.1 hb
 refine En.skip ?_
 refine En.seq ?_
 refine En.block ?_
 refine En.seq ?_
 refine En.region ?_
 refine WL.run ht hn 2 ⟨[sl 0 (LS (lsT intT) l), sl 1 (.rd (fvR (fun x => [.sv (.one (LS intT x))]) (fun b => .sv (.one (B b))) dom φ)), sl 5 (I x8), sl 7 (I (l.length : Int)), sl 8 (I x8)], []⟩ (by kernel_rfl) ?_
 refine WL.nil ?_
 refine En.seq ?_
 refine En.region ?_
 refine WL.run ht hn 3 ⟨[sl 0 (LS (lsT intT) l), sl 1 (.rd (fvR (fun x => [.sv (.one (LS intT x))]) (fun b => .sv (.one (B b))) dom φ)), sl 5 (I x8), sl 7 (I (l.length : Int)), sl 8 (I x8), sl 11 (.rd (fvR (fun x => [.sv (.one (LS intT x))]) (fun b => .sv (.one (B b))) dom φ)), sl 12 (LS (lsT intT) l), sl 13 (I x8)], []⟩ (by kernel_rfl) ?_
 obtain ⟨e, he, h⟩ := h
 refine WL.val hn (by rfl) (val_index (T := (lsT intT)) (l := l) (i := x8) ht rfl (by rfl) (by rfl) (by rfl) (by rfl) (by rfl) (by rfl) he) (by rfl) ?_
 refine WL.val hn (by rfl) (val_load (s := .one (LS intT e)) ht rfl (by rfl) (by rfl) (by rfl) (by rfl) (by rfl)) (by rfl) ?_
 have hp := h.1
 replace h := h.2
 refine WL.mt0 (K := []) (p := none) hn (by rfl) (mt_callv e hp rfl (by rfl) (by rfl) (by rfl) (by rfl)) (by rfl) (by rfl) (by rfl) ?_
 refine WL.nil ?_
 refine En.cond (b := (φ e)) (by kernel_rfl) (fun hb => ?_) (fun hb => ?_)
 replace h := h.1 hb
 refine En.seq ?_
 refine En.region ?_
 refine WL.run ht hn 2 ⟨[sl 4 (I x8)], []⟩ (by kernel_rfl) ?_
 refine WL.nil ?_
 refine En.ret ?_
 exact En.back ht x8 h (by kernel_rfl) rfl
 replace h := h.2 hb
 refine En.skip ?_
 refine En.region ?_
 refine WL.run ht hn 2 ⟨[sl 0 (LS (lsT intT) l), sl 1 (.rd (fvR (fun x => [.sv (.one (LS intT x))]) (fun b => .sv (.one (B b))) dom φ)), sl 7 (I (l.length : Int)), sl 8 (I (wr (x8 + 1)))], []⟩ (by kernel_rfl) ?_
 refine WL.nil ?_
 exact En.at (I := fun zz => Inv zz ∧ mu zz < mu x8) (T := fun zz => ⟨[sl 0 (LS (lsT intT) l), sl 1 (.rd (fvR (fun x => [.sv (.one (LS intT x))]) (fun b => .sv (.one (B b))) dom φ)), sl 7 (I (l.length : Int)), sl 8 (I zz)], []⟩) (wr (x8 + 1)) h (by kernel_rfl)
 replace h := h.2 hb
 refine En.exit rfl ?_
 refine En.seq ?_
 refine En.region ?_
 refine WL.run ht hn 1 ⟨[sl 4 (I (-1))], []⟩ (by kernel_rfl) ?_
 refine WL.nil ?_
 refine En.ret ?_
 exact En.back ht (-1) h (by kernel_rfl) rfl
theorem en170 : ∀ args w, (callFunc 170 args).run Try.prog w = .ok (.enter 170 args) w := enters_of Try.func170 (by kernel_rfl) rfl
theorem indexLInt_ct (l : List (List Int)) (dom : (List Int) → Prop) (φ : (List Int) → Bool) (hd : ∀ x ∈ l, dom x) : Ct 170 [.sv (.one (LS (lsT intT) l)), .sv (.one (.rd (fvR (fun x => [.sv (.one (LS intT x))]) (fun b => .sv (.one (B b))) dom φ)))] [] (fun (_ : Unit) => True) (fun _ => .sv (.one (I (idxTo φ l)))) := by
 refine (indexLInt_walk l dom φ (fun r => r = idxTo φ l) ?_).fun
 unfold indexLInt_vc
 exact index_plain l dom φ hd
def anyLInt_vc (l : (List (List Int))) (dom : ((List Int) → Prop)) (φ : ((List Int) → Bool)) (Q : Bool → Prop) : Prop :=
 l.length ≤ 9223372036854775807 →
 ((∀ x_ ∈ l, dom x_) ∧
 Q (decide ((idxTo φ l) ≥ 0)))
theorem anyLInt_walk (l : (List (List Int))) (dom : ((List Int) → Prop)) (φ : ((List Int) → Bool)) (Q : Bool → Prop) (h : anyLInt_vc l dom φ Q) : Ct 93 [.sv (.one (LS (lsT intT) l)), .sv (.one (.rd (fvR (fun x => [.sv (.one (LS intT x))]) (fun b => .sv (.one (B b))) dom φ)))] [] Q (fun (r : Bool) => .sv (.one (B r))) := by
 have ht := tab_ok
 refine Ct.body Try.func93 rfl rfl rfl rfl (fun c hn => ?_)
 unfold anyLInt_vc at h
 refine En.lenL 0 (by rfl) (fun hl => ?_)
 replace h := h hl
 clear hl
 refine En.seq ?_
 refine En.region ?_
 refine WL.run ht hn 1 ⟨[sl 0 (LS (lsT intT) l), sl 1 (.rd (fvR (fun x => [.sv (.one (LS intT x))]) (fun b => .sv (.one (B b))) dom φ))], []⟩ (by kernel_rfl) ?_
 refine WL.nil ?_
 refine En.seq ?_
 refine En.region ?_
 refine WL.run ht hn 2 ⟨[sl 5 (LS (lsT intT) l), sl 6 (.rd (fvR (fun x => [.sv (.one (LS intT x))]) (fun b => .sv (.one (B b))) dom φ))], []⟩ (by kernel_rfl) ?_
 have hp := h.1
 replace h := h.2
 refine WL.mt0 (K := []) (p := none) hn (by rfl) (mt_call (indexLInt_ct l dom φ hp) en170 (caps := []) [] rfl (by rfl) (by kernel_rfl) (by kernel_rfl) (by rfl) (by rfl) (by rfl)) (by rfl) (by rfl) (by rfl) ?_
 refine WL.run ht hn 2 ⟨[sl 4 (B (decide ((idxTo φ l) ≥ 0)))], []⟩ (by kernel_rfl) ?_
 refine WL.nil ?_
 refine En.ret ?_
 exact En.back ht (decide ((idxTo φ l) ≥ 0)) h (by kernel_rfl) rfl
theorem en93 : ∀ args w, (callFunc 93 args).run Try.prog w = .ok (.enter 93 args) w := enters_of Try.func93 (by kernel_rfl) rfl
theorem anyLInt_ct (l : List (List Int)) (dom : (List Int) → Prop) (φ : (List Int) → Bool) (hd : ∀ x ∈ l, dom x) : Ct 93 [.sv (.one (LS (lsT intT) l)), .sv (.one (.rd (fvR (fun x => [.sv (.one (LS intT x))]) (fun b => .sv (.one (B b))) dom φ)))] [] (fun (_ : Unit) => True) (fun _ => .sv (.one (B (l.any φ)))) := by
 refine (anyLInt_walk l dom φ (fun r => r = l.any φ) ?_).fun
 unfold anyLInt_vc
 exact fun _ => ⟨hd, by rw [← idxTo_nonneg φ l]⟩
def indexInt_vc (l : (List Int)) (dom : (Int → Prop)) (φ : (Int → Bool)) (Q : Int → Prop) : Prop :=
 l.length ≤ 9223372036854775807 →
 (∃ (Inv : Int → Prop) (mu : Int → Nat), Inv 0 ∧
 ∀ (x8 : Int) , Inv x8 → (IfP (decide (x8 < (l.length : Int))) (∃ e, idx l x8 = some e ∧
 (dom e) ∧
 IfP (φ e) (Q x8) ((Inv (wr (x8 + 1)) ∧ mu (wr (x8 + 1)) < mu x8))) (Q (-1))))
theorem indexInt_walk (l : (List Int)) (dom : (Int → Prop)) (φ : (Int → Bool)) (Q : Int → Prop) (h : indexInt_vc l dom φ Q) : Ct 123 [.sv (.one (LS intT l)), .sv (.one (.rd (fvR (fun x => [.sv (.one (I x))]) (fun b => .sv (.one (B b))) dom φ)))] [] Q (fun (r : Int) => .sv (.one (I r))) := by
 have ht := tab_ok
 refine Ct.body Try.func123 rfl rfl rfl rfl (fun c hn => ?_)
 unfold indexInt_vc at h
 refine En.lenL 0 (by rfl) (fun hl => ?_)
 replace h := h hl
 clear hl
 refine En.seq ?_
 refine En.region ?_
 refine WL.run ht hn 1 ⟨[sl 0 (LS intT l), sl 1 (.rd (fvR (fun x => [.sv (.one (I x))]) (fun b => .sv (.one (B b))) dom φ))], []⟩ (by kernel_rfl) ?_
 refine WL.nil ?_
 refine En.seq ?_
 refine En.seq ?_
 refine En.region ?_
 refine WL.run ht hn 3 ⟨[sl 0 (LS intT l), sl 1 (.rd (fvR (fun x => [.sv (.one (I x))]) (fun b => .sv (.one (B b))) dom φ)), sl 7 (I (l.length : Int)), sl 8 (I 0)], []⟩ (by kernel_rfl) ?_
 refine WL.nil ?_
 refine En.block ?_
 obtain ⟨Inv, mu, h0, hI⟩ := h
 refine En.loop (σ := Int) (fun zz => Inv zz) (fun zz => mu zz) (fun zz => ⟨[sl 0 (LS intT l), sl 1 (.rd (fvR (fun x => [.sv (.one (I x))]) (fun b => .sv (.one (B b))) dom φ)), sl 7 (I (l.length : Int)), sl 8 (I zz)], []⟩) 0 h0 (sub_ok (by kernel_rfl)) ?_
 intro x8 h
 replace h := hI _ h
 show En c ⟨[sl 0 (LS intT l), sl 1 (.rd (fvR (fun x => [.sv (.one (I x))]) (fun b => .sv (.one (B b))) dom φ)), sl 7 (I (l.length : Int)), sl 8 (I x8)], []⟩ _
 refine En.seq ?_
 refine En.region ?_
 refine WL.run ht hn 1 ⟨[sl 0 (LS intT l), sl 1 (.rd (fvR (fun x => [.sv (.one (I x))]) (fun b => .sv (.one (B b))) dom φ)), sl 7 (I (l.length : Int)), sl 8 (I x8), sl 9 (B (decide (x8 < (l.length : Int))))], []⟩ (by kernel_rfl) ?_
 refine WL.nil ?_
 refine En.seq ?_
 refine En.cond (b := (decide (x8 < (l.length : Int)))) (by kernel_rfl) (fun hb => ?_) (fun hb => ?_)
 replace h := h.1 hb
 refine En.skip ?_
 refine En.seq ?_
 refine En.block ?_
 refine En.seq ?_
 refine En.region ?_
 refine WL.run ht hn 2 ⟨[sl 0 (LS intT l), sl 1 (.rd (fvR (fun x => [.sv (.one (I x))]) (fun b => .sv (.one (B b))) dom φ)), sl 5 (I x8), sl 7 (I (l.length : Int)), sl 8 (I x8)], []⟩ (by kernel_rfl) ?_
 refine WL.nil ?_
 refine En.seq ?_
 refine En.region ?_
 refine WL.run ht hn 3 ⟨[sl 0 (LS intT l), sl 1 (.rd (fvR (fun x => [.sv (.one (I x))]) (fun b => .sv (.one (B b))) dom φ)), sl 5 (I x8), sl 7 (I (l.length : Int)), sl 8 (I x8), sl 11 (.rd (fvR (fun x => [.sv (.one (I x))]) (fun b => .sv (.one (B b))) dom φ)), sl 12 (LS intT l), sl 13 (I x8)], []⟩ (by kernel_rfl) ?_
 obtain ⟨e, he, h⟩ := h
 refine WL.val hn (by rfl) (val_index (T := intT) (l := l) (i := x8) ht rfl (by rfl) (by rfl) (by rfl) (by rfl) (by rfl) (by rfl) he) (by rfl) ?_
 refine WL.val hn (by rfl) (val_load (s := .one (I e)) ht rfl (by rfl) (by rfl) (by rfl) (by rfl) (by rfl)) (by rfl) ?_
 have hp := h.1
 replace h := h.2
 refine WL.mt0 (K := []) (p := none) hn (by rfl) (mt_callv e hp rfl (by rfl) (by rfl) (by rfl) (by rfl)) (by rfl) (by rfl) (by rfl) ?_
 refine WL.nil ?_
 refine En.cond (b := (φ e)) (by kernel_rfl) (fun hb => ?_) (fun hb => ?_)
 replace h := h.1 hb
 refine En.seq ?_
 refine En.region ?_
 refine WL.run ht hn 2 ⟨[sl 4 (I x8)], []⟩ (by kernel_rfl) ?_
 refine WL.nil ?_
 refine En.ret ?_
 exact En.back ht x8 h (by kernel_rfl) rfl
 replace h := h.2 hb
 refine En.skip ?_
 refine En.region ?_
 refine WL.run ht hn 2 ⟨[sl 0 (LS intT l), sl 1 (.rd (fvR (fun x => [.sv (.one (I x))]) (fun b => .sv (.one (B b))) dom φ)), sl 7 (I (l.length : Int)), sl 8 (I (wr (x8 + 1)))], []⟩ (by kernel_rfl) ?_
 refine WL.nil ?_
 exact En.at (I := fun zz => Inv zz ∧ mu zz < mu x8) (T := fun zz => ⟨[sl 0 (LS intT l), sl 1 (.rd (fvR (fun x => [.sv (.one (I x))]) (fun b => .sv (.one (B b))) dom φ)), sl 7 (I (l.length : Int)), sl 8 (I zz)], []⟩) (wr (x8 + 1)) h (by kernel_rfl)
 replace h := h.2 hb
 refine En.exit rfl ?_
 refine En.seq ?_
 refine En.region ?_
 refine WL.run ht hn 1 ⟨[sl 4 (I (-1))], []⟩ (by kernel_rfl) ?_
 refine WL.nil ?_
 refine En.ret ?_
 exact En.back ht (-1) h (by kernel_rfl) rfl
theorem en123 : ∀ args w, (callFunc 123 args).run Try.prog w = .ok (.enter 123 args) w := enters_of Try.func123 (by kernel_rfl) rfl
theorem indexInt_ct (l : List Int) (dom : Int → Prop) (φ : Int → Bool) (hd : ∀ x ∈ l, dom x) : Ct 123 [.sv (.one (LS intT l)), .sv (.one (.rd (fvR (fun x => [.sv (.one (I x))]) (fun b => .sv (.one (B b))) dom φ)))] [] (fun (_ : Unit) => True) (fun _ => .sv (.one (I (idxTo φ l)))) := by
 refine (indexInt_walk l dom φ (fun r => r = idxTo φ l) ?_).fun
 unfold indexInt_vc
 exact index_plain l dom φ hd
def anyInt_vc (l : (List Int)) (dom : (Int → Prop)) (φ : (Int → Bool)) (Q : Bool → Prop) : Prop :=
 l.length ≤ 9223372036854775807 →
 ((∀ x_ ∈ l, dom x_) ∧
 Q (decide ((idxTo φ l) ≥ 0)))
theorem anyInt_walk (l : (List Int)) (dom : (Int → Prop)) (φ : (Int → Bool)) (Q : Bool → Prop) (h : anyInt_vc l dom φ Q) : Ct 99 [.sv (.one (LS intT l)), .sv (.one (.rd (fvR (fun x => [.sv (.one (I x))]) (fun b => .sv (.one (B b))) dom φ)))] [] Q (fun (r : Bool) => .sv (.one (B r))) := by
 have ht := tab_ok
 refine Ct.body Try.func99 rfl rfl rfl rfl (fun c hn => ?_)
 unfold anyInt_vc at h
 refine En.lenL 0 (by rfl) (fun hl => ?_)
 replace h := h hl
 clear hl
 refine En.seq ?_
 refine En.region ?_
 refine WL.run ht hn 1 ⟨[sl 0 (LS intT l), sl 1 (.rd (fvR (fun x => [.sv (.one (I x))]) (fun b => .sv (.one (B b))) dom φ))], []⟩ (by kernel_rfl) ?_
 refine WL.nil ?_
 refine En.seq ?_
 refine En.region ?_
 refine WL.run ht hn 2 ⟨[sl 5 (LS intT l), sl 6 (.rd (fvR (fun x => [.sv (.one (I x))]) (fun b => .sv (.one (B b))) dom φ))], []⟩ (by kernel_rfl) ?_
 have hp := h.1
 replace h := h.2
 refine WL.mt0 (K := []) (p := none) hn (by rfl) (mt_call (indexInt_ct l dom φ hp) en123 (caps := []) [] rfl (by rfl) (by kernel_rfl) (by kernel_rfl) (by rfl) (by rfl) (by rfl)) (by rfl) (by rfl) (by rfl) ?_
 refine WL.run ht hn 2 ⟨[sl 4 (B (decide ((idxTo φ l) ≥ 0)))], []⟩ (by kernel_rfl) ?_
 refine WL.nil ?_
 refine En.ret ?_
 exact En.back ht (decide ((idxTo φ l) ≥ 0)) h (by kernel_rfl) rfl
theorem en99 : ∀ args w, (callFunc 99 args).run Try.prog w = .ok (.enter 99 args) w := enters_of Try.func99 (by kernel_rfl) rfl
theorem anyInt_ct (l : List Int) (dom : Int → Prop) (φ : Int → Bool) (hd : ∀ x ∈ l, dom x) : Ct 99 [.sv (.one (LS intT l)), .sv (.one (.rd (fvR (fun x => [.sv (.one (I x))]) (fun b => .sv (.one (B b))) dom φ)))] [] (fun (_ : Unit) => True) (fun _ => .sv (.one (B (l.any φ)))) := by
 refine (anyInt_walk l dom φ (fun r => r = l.any φ) ?_).fun
 unfold anyInt_vc
 exact fun _ => ⟨hd, by rw [← idxTo_nonneg φ l]⟩
def altNo (n q : Int) : Bool := (decide (q < 0)) || (decide (q ≥ n))
theorem altNo_iff {n q : Int} : altNo n q = false ↔ 0 ≤ q ∧ q < n := by
 unfold altNo
 simp only [Bool.or_eq_false_iff, decide_eq_false_iff_not]
 omega
def detErr (x : ApiDet) : Int :=
 if (decide (x.fLetters < 1)) || (decide (x.fLetters > 4)) then 2 else
 if (decide ((x.fNext.length : Int) < 1)) || (decide ((x.fNext.length : Int) > 3000)) then 1 else
 if ((x.fMark.length : Int) != (x.fNext.length : Int)) || x.fNext.any (fun r => (r.length : Int) != (x).fLetters) then 3 else
 if altNo (x.fNext.length : Int) x.fStart || x.fNext.any (fun r => r.any (altNo (x.fNext.length : Int))) then 2 else
 if x.fMark.any (fun m => (m != 0) && (m != 1)) then 2 else 0
structure DetOk (x : ApiDet) : Prop where
 letters : 1 ≤ x.fLetters ∧ x.fLetters ≤ 4
 size : 1 ≤ x.fNext.length ∧ x.fNext.length ≤ 3000
 marks : x.fMark.length = x.fNext.length
 rows : ∀ r ∈ x.fNext, (r.length : Int) = x.fLetters
 start : 0 ≤ x.fStart ∧ x.fStart < (x.fNext.length : Int)
 in_ : ∀ r ∈ x.fNext, ∀ p ∈ r, 0 ≤ p ∧ p < (x.fNext.length : Int)
 mark : ∀ m ∈ x.fMark, m = 0 ∨ m = 1
theorem detErr_iff (x : ApiDet) : detErr x = 0 ↔ DetOk x := by
 unfold detErr
 constructor
 ·intro h
  by_cases h1 : ((decide (x.fLetters < 1)) || (decide (x.fLetters > 4))) = true
  ·rw [if_pos h1] at h; cases h
  rw [if_neg h1] at h
  by_cases h2 : ((decide ((x.fNext.length : Int) < 1)) || (decide ((x.fNext.length : Int) > 3000))) = true
  ·rw [if_pos h2] at h; cases h
  rw [if_neg h2] at h
  by_cases h3 : (((x.fMark.length : Int) != (x.fNext.length : Int)) || x.fNext.any (fun r => (r.length : Int) != (x).fLetters)) = true
  ·rw [if_pos h3] at h; cases h
  rw [if_neg h3] at h
  by_cases h4 : (altNo (x.fNext.length : Int) x.fStart || x.fNext.any (fun r => r.any (altNo (x.fNext.length : Int)))) = true
  ·rw [if_pos h4] at h; cases h
  rw [if_neg h4] at h
  by_cases h5 : x.fMark.any (fun m => (m != 0) && (m != 1)) = true
  ·rw [if_pos h5] at h; cases h
  simp only [Bool.not_eq_true, Bool.or_eq_false_iff, decide_eq_false_iff_not, List.any_eq_false, altNo_iff, bne_eq_false_iff_eq, Bool.and_eq_false_iff, Bool.not_eq_false, bne_iff_ne, ne_eq, Decidable.not_not] at h1 h2 h3 h4 h5
  exact ⟨by omega, by omega, by omega, fun r hr => h3.2 r hr, h4.1, fun r hr p hp => h4.2 r hr p hp, fun m hm => h5 m hm⟩
 ·intro h
  have h1 : ((decide (x.fLetters < 1)) || (decide (x.fLetters > 4))) = false := by
   have := h.letters
   simp only [Bool.or_eq_false_iff, decide_eq_false_iff_not]; omega
  have h2 : ((decide ((x.fNext.length : Int) < 1)) || (decide ((x.fNext.length : Int) > 3000))) = false := by
   have := h.size
   simp only [Bool.or_eq_false_iff, decide_eq_false_iff_not]; omega
  have h3 : (((x.fMark.length : Int) != (x.fNext.length : Int)) || x.fNext.any (fun r => (r.length : Int) != (x).fLetters)) = false := by
   simp only [Bool.or_eq_false_iff, bne_eq_false_iff_eq, List.any_eq_false, bne_iff_ne, ne_eq, Decidable.not_not]
   exact ⟨by have := h.marks; omega, h.rows⟩
  have h4 : (altNo (x.fNext.length : Int) x.fStart || x.fNext.any (fun r => r.any (altNo (x.fNext.length : Int)))) = false := by
   simp only [Bool.or_eq_false_iff, altNo_iff]
   refine ⟨h.start, ?_⟩
   rw [List.any_eq_false]
   intro r hr
   rw [Bool.not_eq_true, List.any_eq_false]
   intro p hp
   rw [Bool.not_eq_true, altNo_iff]
   exact h.in_ r hr p hp
  have h5 : x.fMark.any (fun m => (m != 0) && (m != 1)) = false := by
   rw [List.any_eq_false]
   intro m hm
   rcases h.mark m hm with rfl | rfl <;> decide
  rw [h1, h2, h3, h4, h5]
  rfl
theorem DetOk.cls {d : ApiDet} (h : DetOk d) : ClsOk d := by
 have h1 := h.letters
 have h2 := h.size
 refine ⟨⟨by omega, fun r hr => by have := h.rows r hr; omega, h.in_, h.start, h.marks⟩, by omega, by omega, fun m hm => by rcases h.mark m hm with rfl | rfl <;> decide⟩
theorem CanonOk.det {L : Nat} {r : Lang} {n : Nat} (h : CanonOk L r n) (hL : 1 ≤ L ∧ L ≤ 4) (hn : n ≤ 3000) (hr : ∀ w, r w = 0 ∨ r w = 1) : DetOk (canon L r) := by
 have h1 := h.wf.start
 have h2 := h.count
 refine ⟨by rw [h.letters]; omega, by omega, h.wf.mark, fun s hs => ?_, h1, h.wf.next, fun m hm => ?_⟩
 ·have := h.wf.rows s hs
  rw [h.letters] at this ⊢
  omega
 ·obtain ⟨u, rfl⟩ := h.marks m hm
  exact hr u
noncomputable def leastR (d : ApiDet) : ApiDet × Int := if detErr d = 0 then (canon d.fLetters.toNat (langD d d.fStart.toNat), 0) else (⟨0, 0, [], []⟩, detErr d)
def detC1_vc (r : (List Int)) (x : ApiDet) (Q : Bool → Prop) : Prop :=
 r.length ≤ 9223372036854775807 →
 (Q ((r.length : Int) != x.fLetters))
theorem detC1_walk (r : (List Int)) (x : ApiDet) (Q : Bool → Prop) (h : detC1_vc r x Q) : Ct 162 [.sv (.one (LS intT r)), .sv (.one (.ptr 0 0))] [.box [I x.fLetters, I x.fStart, LS (lsT intT) x.fNext, LS intT x.fMark] 73 true] Q (fun (r : Bool) => .sv (.one (B r))) := by
 have ht := tab_ok
 refine Ct.body Try.func162 rfl rfl rfl rfl (fun c hn => ?_)
 unfold detC1_vc at h
 refine En.lenL 0 (by rfl) (fun hl => ?_)
 replace h := h hl
 clear hl
 refine En.seq ?_
 refine En.region ?_
 refine WL.run ht hn 1 ⟨[sl 0 (LS intT r), sl 1 (.ptr 0 0)], [.box (ApiDet.cl x) 73 true]⟩ (by kernel_rfl) ?_
 refine WL.nil ?_
 refine En.seq ?_
 refine En.region ?_
 refine WL.run ht hn 6 ⟨[sl 3 (B ((r.length : Int) != x.fLetters))], [.gone]⟩ (by kernel_rfl) ?_
 refine WL.nil ?_
 refine En.ret ?_
 exact En.back ht ((r.length : Int) != x.fLetters) h (by kernel_rfl) rfl
theorem en162 : ∀ args w, (callFunc 162 args).run Try.prog w = .ok (.enter 162 args) w := enters_of Try.func162 (by kernel_rfl) rfl
def detC2_vc (q : Int) (n : Int) (Q : Bool → Prop) : Prop :=
 Q ((decide (q < 0)) || (decide (q ≥ n)))
theorem detC2_walk (q : Int) (n : Int) (Q : Bool → Prop) (h : detC2_vc q n Q) : Ct 163 [.sv (.one (I q)), .sv (.one (.ptr 0 0))] [.box [I n] 3 true] Q (fun (r : Bool) => .sv (.one (B r))) := by
 have ht := tab_ok
 refine Ct.body Try.func163 rfl rfl rfl rfl (fun c hn => ?_)
 unfold detC2_vc at h
 refine En.seq ?_
 refine En.region ?_
 refine WL.run ht hn 1 ⟨[sl 0 (I q), sl 1 (.ptr 0 0)], [.box [I n] 3 true]⟩ (by kernel_rfl) ?_
 refine WL.nil ?_
 refine En.seq ?_
 refine En.region ?_
 refine WL.run ht hn 3 ⟨[sl 0 (I q), sl 1 (.ptr 0 0), sl 6 (B (decide (q < 0)))], [.box [I n] 3 true]⟩ (by kernel_rfl) ?_
 refine WL.thru ⟨[sl 3 (B ((decide (q < 0)) || (decide (q ≥ n))))], [.gone]⟩ ?_ ?_
 refine splitB (decide (q < 0)) (fun hb0 => ?_) (fun hb0 => ?_)
 refine WL.setB 6 hb0 (by kernel_rfl) ?_
 refine WL.run ht hn 5 ⟨[sl 3 (B true)], [.gone]⟩ (by kernel_rfl) ?_
 exact WL.nil (sub_ok (by simp only [hb0]; kernel_rfl))
 refine WL.setB 6 hb0 (by kernel_rfl) ?_
 refine WL.run ht hn 5 ⟨[sl 3 (B (decide (q ≥ n)))], [.gone]⟩ (by kernel_rfl) ?_
 exact WL.nil (sub_ok (by simp only [hb0]; kernel_rfl))
 refine En.ret ?_
 exact En.back ht ((decide (q < 0)) || (decide (q ≥ n))) h (by kernel_rfl) rfl
theorem en163 : ∀ args w, (callFunc 163 args).run Try.prog w = .ok (.enter 163 args) w := enters_of Try.func163 (by kernel_rfl) rfl
def detC3_vc (l : (List Int)) (domno : (Int → Prop)) (no : (Int → Bool)) (Q : Bool → Prop) : Prop :=
 l.length ≤ 9223372036854775807 →
 ((∀ x_ ∈ l, domno x_) ∧
 Q (l.any no))
theorem detC3_walk (l : (List Int)) (domno : (Int → Prop)) (no : (Int → Bool)) (Q : Bool → Prop) (h : detC3_vc l domno no Q) : Ct 164 [.sv (.one (LS intT l)), .sv (.one (.ptr 0 0))] [.box [.rd (fvR (fun (x : Int) => [.sv (.one (I x))]) (fun (r : Bool) => .sv (.one (B r))) domno no)] 195 true] Q (fun (r : Bool) => .sv (.one (B r))) := by
 have ht := tab_ok
 refine Ct.body Try.func164 rfl rfl rfl rfl (fun c hn => ?_)
 unfold detC3_vc at h
 refine En.lenL 0 (by rfl) (fun hl => ?_)
 replace h := h hl
 clear hl
 refine En.seq ?_
 refine En.region ?_
 refine WL.run ht hn 1 ⟨[sl 0 (LS intT l), sl 1 (.ptr 0 0)], [.box [.rd (fvR (fun (x : Int) => [.sv (.one (I x))]) (fun (r : Bool) => .sv (.one (B r))) domno no)] 195 true]⟩ (by kernel_rfl) ?_
 refine WL.nil ?_
 refine En.seq ?_
 refine En.region ?_
 refine WL.run ht hn 2 ⟨[sl 4 (LS intT l), sl 5 (.rd (fvR (fun (x : Int) => [.sv (.one (I x))]) (fun (r : Bool) => .sv (.one (B r))) domno no))], [.gone]⟩ (by kernel_rfl) ?_
 have hp := h.1
 replace h := h.2
 refine WL.mt0 (K := []) (p := none) hn (by rfl) (mt_call (anyInt_ct l domno no hp) en99 (caps := []) [] rfl (by rfl) (by kernel_rfl) (by kernel_rfl) (by rfl) (by rfl) (by rfl)) (by rfl) (by rfl) (by rfl) ?_
 refine WL.run ht hn 1 ⟨[sl 3 (B (l.any no))], [.gone]⟩ (by kernel_rfl) ?_
 refine WL.nil ?_
 refine En.ret ?_
 exact En.back ht (l.any no) h (by kernel_rfl) rfl
theorem en164 : ∀ args w, (callFunc 164 args).run Try.prog w = .ok (.enter 164 args) w := enters_of Try.func164 (by kernel_rfl) rfl
def detC4_vc (m : Int) (Q : Bool → Prop) : Prop :=
 Q ((m != 0) && (m != 1))
theorem detC4_walk (m : Int) (Q : Bool → Prop) (h : detC4_vc m Q) : Ct 165 [.sv (.one (I m))] [] Q (fun (r : Bool) => .sv (.one (B r))) := by
 have ht := tab_ok
 refine Ct.body Try.func165 rfl rfl rfl rfl (fun c hn => ?_)
 unfold detC4_vc at h
 refine En.seq ?_
 refine En.region ?_
 refine WL.run ht hn 1 ⟨[sl 0 (I m)], []⟩ (by kernel_rfl) ?_
 refine WL.nil ?_
 refine En.seq ?_
 refine En.region ?_
 refine WL.run ht hn 3 ⟨[sl 0 (I m), sl 5 (B (m != 0))], []⟩ (by kernel_rfl) ?_
 refine WL.thru ⟨[sl 2 (B ((m != 0) && (m != 1)))], []⟩ ?_ ?_
 refine splitB (m != 0) (fun hb0 => ?_) (fun hb0 => ?_)
 refine WL.setB 5 hb0 (by kernel_rfl) ?_
 refine WL.run ht hn 4 ⟨[sl 2 (B (m != 1))], []⟩ (by kernel_rfl) ?_
 exact WL.nil (sub_ok (by simp only [hb0]; kernel_rfl))
 refine WL.setB 5 hb0 (by kernel_rfl) ?_
 refine WL.run ht hn 4 ⟨[sl 2 (B false)], []⟩ (by kernel_rfl) ?_
 exact WL.nil (sub_ok (by simp only [hb0]; kernel_rfl))
 refine En.ret ?_
 exact En.back ht ((m != 0) && (m != 1)) h (by kernel_rfl) rfl
theorem en165 : ∀ args w, (callFunc 165 args).run Try.prog w = .ok (.enter 165 args) w := enters_of Try.func165 (by kernel_rfl) rfl
theorem detC1_ct (r : (List Int)) (x : ApiDet)  : Ct 162 [.sv (.one (LS intT r)), .sv (.one (.ptr 0 0))] [.box [I x.fLetters, I x.fStart, LS (lsT intT) x.fNext, LS intT x.fMark] 73 true] (fun (_ : Unit) => True) (fun _ => .sv (.one (B ((r.length : Int) != x.fLetters)))) := by
 refine (detC1_walk r x (fun res_ => res_ = ((r.length : Int) != x.fLetters)) ?_).fun
 exact fun _ => rfl
theorem detC2_ct (q : Int) (n : Int)  : Ct 163 [.sv (.one (I q)), .sv (.one (.ptr 0 0))] [.box [I n] 3 true] (fun (_ : Unit) => True) (fun _ => .sv (.one (B (altNo n q)))) := by
 refine (detC2_walk q n (fun res_ => res_ = (altNo n q)) ?_).fun
 rfl
theorem detC3_ct (l : (List Int)) (domno : (Int → Prop)) (no : (Int → Bool)) (hd : ∀ x ∈ l, domno x) : Ct 164 [.sv (.one (LS intT l)), .sv (.one (.ptr 0 0))] [.box [.rd (fvR (fun (x : Int) => [.sv (.one (I x))]) (fun (r : Bool) => .sv (.one (B r))) domno no)] 195 true] (fun (_ : Unit) => True) (fun _ => .sv (.one (B (l.any no)))) := by
 refine (detC3_walk l domno no (fun res_ => res_ = (l.any no)) ?_).fun
 exact fun _ => ⟨hd, rfl⟩
theorem detC4_ct (m : Int)  : Ct 165 [.sv (.one (I m))] [] (fun (_ : Unit) => True) (fun _ => .sv (.one (B ((m != 0) && (m != 1))))) := by
 refine (detC4_walk m (fun res_ => res_ = ((m != 0) && (m != 1))) ?_).fun
 rfl
def detCheck_vc (x : ApiDet) (Q : Int → Prop) : Prop :=
 x.fNext.length ≤ 9223372036854775807 →
 x.fMark.length ≤ 9223372036854775807 →
 (IfP ((decide (x.fLetters < 1)) || (decide (x.fLetters > 4))) (Q 2) (IfP ((decide ((x.fNext.length : Int) < 1)) || (decide ((x.fNext.length : Int) > 3000))) (Q 1) (∃ J : Bool → Prop, (IfP ((x.fMark.length : Int) != (x.fNext.length : Int)) (J true) ((∀ x_ ∈ x.fNext, (fun _ => True) x_) ∧
 J (x.fNext.any (fun r => (r.length : Int) != (x).fLetters)))) ∧
 (∀ (x32 : Bool), J x32 → IfP x32 (Q 3) (∃ J_2 : Bool → Prop, (((fun _ => True) x.fStart) ∧
 IfP ((altNo (x.fNext.length : Int)) x.fStart) (J_2 true) ((∀ x_ ∈ x.fNext, (fun l => ∀ x ∈ l, (fun _ => True) x) x_) ∧
 J_2 (x.fNext.any (fun l => l.any (altNo (x.fNext.length : Int)))))) ∧
 (∀ (x43 : Bool), J_2 x43 → IfP x43 (Q 2) ((∀ x_ ∈ x.fMark, (fun _ => True) x_) ∧
 IfP (x.fMark.any (fun m => (m != 0) && (m != 1))) (Q 2) (Q 0))))))))
theorem detCheck_walk (x : ApiDet) (Q : Int → Prop) (h : detCheck_vc x Q) : Ct 82 [.sv (.agg [I x.fLetters, I x.fStart, LS (lsT intT) x.fNext, LS intT x.fMark])] [] Q (fun (r : Int) => .sv (.one (I r))) := by
 have ht := tab_ok
 refine Ct.body Try.func82 rfl rfl rfl rfl (fun c hn => ?_)
 unfold detCheck_vc at h
 refine En.lenA 0 2 (by rfl) (by rfl) (fun hl => ?_)
 replace h := h hl
 clear hl
 refine En.lenA 0 3 (by rfl) (by rfl) (fun hl => ?_)
 replace h := h hl
 clear hl
 refine En.seq ?_
 refine En.region ?_
 refine WL.run ht hn 2 ⟨[sl 1 (.ptr 0 0)], [.box (ApiDet.cl x) 73 false]⟩ (by kernel_rfl) ?_
 refine WL.nil ?_
 refine En.seq ?_
 refine En.seq ?_
 refine En.region ?_
 refine WL.run ht hn 4 ⟨[sl 1 (.ptr 0 0), sl 8 (B (decide (x.fLetters < 1)))], [.box (ApiDet.cl x) 73 false]⟩ (by kernel_rfl) ?_
 refine WL.thru ⟨[sl 1 (.ptr 0 0), sl 12 (B ((decide (x.fLetters < 1)) || (decide (x.fLetters > 4))))], [.box (ApiDet.cl x) 73 false]⟩ ?_ ?_
 refine splitB (decide (x.fLetters < 1)) (fun hb0 => ?_) (fun hb0 => ?_)
 refine WL.setB 8 hb0 (by kernel_rfl) ?_
 refine WL.run ht hn 4 ⟨[sl 1 (.ptr 0 0), sl 12 (B true)], [.box (ApiDet.cl x) 73 false]⟩ (by kernel_rfl) ?_
 exact WL.nil (sub_ok (by simp only [hb0]; kernel_rfl))
 refine WL.setB 8 hb0 (by kernel_rfl) ?_
 refine WL.run ht hn 4 ⟨[sl 1 (.ptr 0 0), sl 12 (B (decide (x.fLetters > 4)))], [.box (ApiDet.cl x) 73 false]⟩ (by kernel_rfl) ?_
 exact WL.nil (sub_ok (by simp only [hb0]; kernel_rfl))
 refine En.cond (b := ((decide (x.fLetters < 1)) || (decide (x.fLetters > 4)))) (by kernel_rfl) (fun hb => ?_) (fun hb => ?_)
 replace h := h.1 hb
 refine En.seq ?_
 refine En.region ?_
 refine WL.run ht hn 1 ⟨[sl 2 (I 2)], [.gone]⟩ (by kernel_rfl) ?_
 refine WL.nil ?_
 refine En.ret ?_
 exact En.back ht 2 h (by kernel_rfl) rfl
 replace h := h.2 hb
 refine En.skip ?_
 refine En.seq ?_
 refine En.region ?_
 refine WL.run ht hn 5 ⟨[sl 1 (.ptr 0 0), sl 3 (.ptr 1 0)], [.box (ApiDet.cl x) 73 false, .box [I (x.fNext.length : Int)] 3 false]⟩ (by kernel_rfl) ?_
 refine WL.nil ?_
 refine En.seq ?_
 refine En.seq ?_
 refine En.region ?_
 refine WL.run ht hn 3 ⟨[sl 1 (.ptr 0 0), sl 3 (.ptr 1 0), sl 18 (B (decide ((x.fNext.length : Int) < 1)))], [.box (ApiDet.cl x) 73 false, .box [I (x.fNext.length : Int)] 3 false]⟩ (by kernel_rfl) ?_
 refine WL.thru ⟨[sl 1 (.ptr 0 0), sl 3 (.ptr 1 0), sl 21 (B ((decide ((x.fNext.length : Int) < 1)) || (decide ((x.fNext.length : Int) > 3000))))], [.box (ApiDet.cl x) 73 false, .box [I (x.fNext.length : Int)] 3 false]⟩ ?_ ?_
 refine splitB (decide ((x.fNext.length : Int) < 1)) (fun hb0 => ?_) (fun hb0 => ?_)
 refine WL.setB 18 hb0 (by kernel_rfl) ?_
 refine WL.run ht hn 3 ⟨[sl 1 (.ptr 0 0), sl 3 (.ptr 1 0), sl 21 (B true)], [.box (ApiDet.cl x) 73 false, .box [I (x.fNext.length : Int)] 3 false]⟩ (by kernel_rfl) ?_
 exact WL.nil (sub_ok (by simp only [hb0]; kernel_rfl))
 refine WL.setB 18 hb0 (by kernel_rfl) ?_
 refine WL.run ht hn 3 ⟨[sl 1 (.ptr 0 0), sl 3 (.ptr 1 0), sl 21 (B (decide ((x.fNext.length : Int) > 3000)))], [.box (ApiDet.cl x) 73 false, .box [I (x.fNext.length : Int)] 3 false]⟩ (by kernel_rfl) ?_
 exact WL.nil (sub_ok (by simp only [hb0]; kernel_rfl))
 refine En.cond (b := ((decide ((x.fNext.length : Int) < 1)) || (decide ((x.fNext.length : Int) > 3000)))) (by kernel_rfl) (fun hb => ?_) (fun hb => ?_)
 replace h := h.1 hb
 refine En.seq ?_
 refine En.region ?_
 refine WL.run ht hn 1 ⟨[sl 2 (I 1)], [.gone, .gone]⟩ (by kernel_rfl) ?_
 refine WL.nil ?_
 refine En.ret ?_
 exact En.back ht 1 h (by kernel_rfl) rfl
 replace h := h.2 hb
 refine En.skip ?_
 refine En.seq ?_
 obtain ⟨J, h, hJ⟩ := h
 refine En.seqJ (σ := Bool) (fun zz => J zz) (fun zz => ⟨[sl 1 (.ptr 0 0), sl 3 (.ptr 1 0), sl 32 (B zz)], [.box (ApiDet.cl x) 73 false, .box [I (x.fNext.length : Int)] 3 false]⟩) ?_ ?_
 refine En.region ?_
 refine WL.run ht hn 6 ⟨[sl 1 (.ptr 0 0), sl 3 (.ptr 1 0), sl 27 (B ((x.fMark.length : Int) != (x.fNext.length : Int)))], [.box (ApiDet.cl x) 73 false, .box [I (x.fNext.length : Int)] 3 false]⟩ (by kernel_rfl) ?_
 refine splitB ((x.fMark.length : Int) != (x.fNext.length : Int)) (fun hb => ?_) (fun hb => ?_)
 replace h := h.1 hb
 refine WL.setB 27 hb (by kernel_rfl) ?_
 refine WL.run ht hn 5 ⟨[sl 1 (.ptr 0 0), sl 3 (.ptr 1 0), sl 32 (B true)], [.box (ApiDet.cl x) 73 false, .box [I (x.fNext.length : Int)] 3 false]⟩ (by kernel_rfl) ?_
 refine WL.nil ?_
 exact En.at (I := fun zz => J zz) (T := fun zz => ⟨[sl 1 (.ptr 0 0), sl 3 (.ptr 1 0), sl 32 (B zz)], [.box (ApiDet.cl x) 73 false, .box [I (x.fNext.length : Int)] 3 false]⟩) true h (by kernel_rfl)
 replace h := h.2 hb
 refine WL.setB 27 hb (by kernel_rfl) ?_
 refine WL.run ht hn 3 ⟨[sl 1 (.ptr 0 0), sl 3 (.ptr 1 0), sl 27 (B false), sl 29 (LS (lsT intT) x.fNext), sl 30 (.fn 162 [0])], [.box (ApiDet.cl x) 73 false, .box [I (x.fNext.length : Int)] 3 false]⟩ (by kernel_rfl) ?_
 have hp := h.1
 replace h := h.2
 refine WL.mt0 (K := []) (p := none) hn (by rfl) (mt_lendF [0] (by rfl) (by rfl) (mt_ghost 30 (o1 (.rd (fvR (fun (x_ : (List Int)) => [.sv (.one (LS intT x_))]) (fun (r : Bool) => .sv (.one (B r))) (fun _ => True) (fun r => (r.length : Int) != (x).fLetters)))) (by rfl) (fv_of (M := [.box (ApiDet.cl x) 73 true]) (caps := [0]) (fun x_ _ => detC1_ct x_ x) en162 rfl (by kernel_rfl) (by rfl) (fun _ => rfl)) (mt_call (anyLInt_ct x.fNext (fun _ => True) (fun r => (r.length : Int) != (x).fLetters) hp) en93 (caps := []) [] rfl (by rfl) (by kernel_rfl) (by kernel_rfl) (by rfl) (by rfl) (by rfl)))) (by rfl) (by rfl) (by rfl) ?_
 refine WL.run ht hn 1 ⟨[sl 1 (.ptr 0 0), sl 3 (.ptr 1 0), sl 32 (B (x.fNext.any (fun r => (r.length : Int) != (x).fLetters)))], [.box (ApiDet.cl x) 73 false, .box [I (x.fNext.length : Int)] 3 false]⟩ (by kernel_rfl) ?_
 refine WL.nil ?_
 exact En.at (I := fun zz => J zz) (T := fun zz => ⟨[sl 1 (.ptr 0 0), sl 3 (.ptr 1 0), sl 32 (B zz)], [.box (ApiDet.cl x) 73 false, .box [I (x.fNext.length : Int)] 3 false]⟩) (x.fNext.any (fun r => (r.length : Int) != (x).fLetters)) h (by kernel_rfl)
 intro x32 h
 replace h := hJ _ h
 show En c ⟨[sl 1 (.ptr 0 0), sl 3 (.ptr 1 0), sl 32 (B x32)], [.box (ApiDet.cl x) 73 false, .box [I (x.fNext.length : Int)] 3 false]⟩ _
 refine En.cond (b := x32) (by kernel_rfl) (fun hb => ?_) (fun hb => ?_)
 replace h := h.1 hb
 refine En.seq ?_
 refine En.region ?_
 refine WL.run ht hn 1 ⟨[sl 2 (I 3)], [.gone, .gone]⟩ (by kernel_rfl) ?_
 refine WL.nil ?_
 refine En.ret ?_
 exact En.back ht 3 h (by kernel_rfl) rfl
 replace h := h.2 hb
 refine En.skip ?_
 refine En.seq ?_
 refine En.region ?_
 refine WL.run ht hn 3 ⟨[sl 1 (.ptr 0 0), sl 4 (.ptr 2 0)], [.box (ApiDet.cl x) 73 false, .box [I (x.fNext.length : Int)] 3 false, .box [.fn 163 [1]] 195 false]⟩ (by kernel_rfl) ?_
 refine WL.nil ?_
 refine En.seq ?_
 obtain ⟨J_2, h, hJ_2⟩ := h
 refine En.seqJ (σ := Bool) (fun zz => J_2 zz) (fun zz => ⟨[sl 1 (.ptr 0 0), sl 43 (B zz)], [.box (ApiDet.cl x) 73 false, .gone, .gone]⟩) ?_ ?_
 refine En.region ?_
 refine WL.run ht hn 3 ⟨[sl 1 (.ptr 0 0), sl 4 (.ptr 2 0), sl 34 (.fn 163 [1]), sl 36 (I x.fStart)], [.box (ApiDet.cl x) 73 false, .box [I (x.fNext.length : Int)] 3 false, .box [.fn 163 [1]] 195 false]⟩ (by kernel_rfl) ?_
 refine WL.freeze [1] (by rfl) ?_
 refine WL.ghost 34 (o1 (.rd (fvR (fun (x_ : Int) => [.sv (.one (I x_))]) (fun (r : Bool) => .sv (.one (B r))) (fun _ => True) (altNo (x.fNext.length : Int))))) (by rfl) (fv_of (M := [.box [I (x.fNext.length : Int)] 3 true]) (caps := [1]) (fun x_ _ => detC2_ct x_ (x.fNext.length : Int)) en163 rfl (by kernel_rfl) (by rfl) (fun _ => rfl)) ?_
 have hp := h.1
 replace h := h.2
 refine WL.mt0 (K := []) (p := none) hn (by rfl) (mt_callv x.fStart hp rfl (by rfl) (by rfl) (by rfl) (by rfl)) (by rfl) (by rfl) (by rfl) ?_
 refine WL.run ht hn 1 ⟨[sl 1 (.ptr 0 0), sl 4 (.ptr 2 0), sl 38 (B ((altNo (x.fNext.length : Int)) x.fStart))], [.box (ApiDet.cl x) 73 false, .box [I (x.fNext.length : Int)] 3 true, .box [.fn 163 [1]] 195 false]⟩ (by kernel_rfl) ?_
 refine splitB ((altNo (x.fNext.length : Int)) x.fStart) (fun hb => ?_) (fun hb => ?_)
 replace h := h.1 hb
 refine WL.setB 38 hb (by kernel_rfl) ?_
 refine WL.run ht hn 5 ⟨[sl 1 (.ptr 0 0), sl 43 (B true)], [.box (ApiDet.cl x) 73 false, .gone, .gone]⟩ (by kernel_rfl) ?_
 refine WL.nil ?_
 exact En.at (I := fun zz => J_2 zz) (T := fun zz => ⟨[sl 1 (.ptr 0 0), sl 43 (B zz)], [.box (ApiDet.cl x) 73 false, .gone, .gone]⟩) true h (by kernel_rfl)
 replace h := h.2 hb
 refine WL.setB 38 hb (by kernel_rfl) ?_
 refine WL.run ht hn 3 ⟨[sl 1 (.ptr 0 0), sl 38 (B false), sl 40 (LS (lsT intT) x.fNext), sl 41 (.fn 164 [2])], [.box (ApiDet.cl x) 73 false, .box [I (x.fNext.length : Int)] 3 true, .box [.fn 163 [1]] 195 false]⟩ (by kernel_rfl) ?_
 have hp := h.1
 replace h := h.2
 refine WL.mt0 (K := []) (p := none) hn (by rfl) (mt_lendB (.rd (fvR (fun (x_ : Int) => [.sv (.one (I x_))]) (fun (r : Bool) => .sv (.one (B r))) (fun _ => True) (altNo (x.fNext.length : Int)))) 2 0 (by rfl) (by rfl) (fv_at (fv_of (M := [.box [I (x.fNext.length : Int)] 3 true]) (caps := [1]) (fun x_ _ => detC2_ct x_ (x.fNext.length : Int)) en163 rfl (by kernel_rfl) (by rfl) (fun _ => rfl))) (mt_lendF [2] (by rfl) (by rfl) (mt_ghost 41 (o1 (.rd (fvR (fun (x_ : (List Int)) => [.sv (.one (LS intT x_))]) (fun (r : Bool) => .sv (.one (B r))) (fun l => ∀ x ∈ l, (fun _ => True) x) (fun l => l.any (altNo (x.fNext.length : Int)))))) (by rfl) (fv_of (M := [.box [.rd (fvR (fun (x_ : Int) => [.sv (.one (I x_))]) (fun (r : Bool) => .sv (.one (B r))) (fun _ => True) (altNo (x.fNext.length : Int)))] 195 true]) (caps := [2]) (fun x_ hx => detC3_ct x_ (fun _ => True) (altNo (x.fNext.length : Int)) hx) en164 rfl (by kernel_rfl) (by rfl) (fun _ => rfl)) (mt_call (anyLInt_ct x.fNext (fun l => ∀ x ∈ l, (fun _ => True) x) (fun l => l.any (altNo (x.fNext.length : Int))) hp) en93 (caps := []) [] rfl (by rfl) (by kernel_rfl) (by kernel_rfl) (by rfl) (by rfl) (by rfl))))) (by rfl) (by rfl) (by rfl) ?_
 refine WL.run ht hn 1 ⟨[sl 1 (.ptr 0 0), sl 43 (B (x.fNext.any (fun l => l.any (altNo (x.fNext.length : Int)))))], [.box (ApiDet.cl x) 73 false, .gone, .gone]⟩ (by kernel_rfl) ?_
 refine WL.nil ?_
 exact En.at (I := fun zz => J_2 zz) (T := fun zz => ⟨[sl 1 (.ptr 0 0), sl 43 (B zz)], [.box (ApiDet.cl x) 73 false, .gone, .gone]⟩) (x.fNext.any (fun l => l.any (altNo (x.fNext.length : Int)))) h (by kernel_rfl)
 intro x43 h
 replace h := hJ_2 _ h
 show En c ⟨[sl 1 (.ptr 0 0), sl 43 (B x43)], [.box (ApiDet.cl x) 73 false, .gone, .gone]⟩ _
 refine En.cond (b := x43) (by kernel_rfl) (fun hb => ?_) (fun hb => ?_)
 replace h := h.1 hb
 refine En.seq ?_
 refine En.region ?_
 refine WL.run ht hn 1 ⟨[sl 2 (I 2)], [.gone, .gone, .gone]⟩ (by kernel_rfl) ?_
 refine WL.nil ?_
 refine En.ret ?_
 exact En.back ht 2 h (by kernel_rfl) rfl
 replace h := h.2 hb
 refine En.skip ?_
 refine En.seq ?_
 refine En.seq ?_
 refine En.region ?_
 refine WL.run ht hn 2 ⟨[sl 45 (LS intT x.fMark)], [.gone, .gone, .gone]⟩ (by kernel_rfl) ?_
 have hp := h.1
 replace h := h.2
 refine WL.mt0 (K := []) (p := none) hn (by rfl) (mt_call (Ct.args (anyInt_ct x.fMark (fun _ => True) (fun m => (m != 0) && (m != 1)) hp) (argLe_same (argLe_to (fv_const (ins := (fun (x_ : Int) => [.sv (.one (I x_))])) (out := (fun (r : Bool) => .sv (.one (B r)))) (dom := (fun _ => True)) (φ := (fun m => (m != 0) && (m != 1))) (fun x_ _ => detC4_ct x_) en165) argLe_nil))) en99 (caps := []) [] rfl (by rfl) (by kernel_rfl) (by kernel_rfl) (by rfl) (by rfl) (by rfl)) (by rfl) (by rfl) (by rfl) ?_
 refine WL.nil ?_
 refine En.cond (b := (x.fMark.any (fun m => (m != 0) && (m != 1)))) (by kernel_rfl) (fun hb => ?_) (fun hb => ?_)
 replace h := h.1 hb
 refine En.seq ?_
 refine En.region ?_
 refine WL.run ht hn 1 ⟨[sl 2 (I 2)], [.gone, .gone, .gone]⟩ (by kernel_rfl) ?_
 refine WL.nil ?_
 refine En.ret ?_
 exact En.back ht 2 h (by kernel_rfl) rfl
 replace h := h.2 hb
 refine En.skip ?_
 refine En.seq ?_
 refine En.region ?_
 refine WL.run ht hn 1 ⟨[sl 2 (I 0)], [.gone, .gone, .gone]⟩ (by kernel_rfl) ?_
 refine WL.nil ?_
 refine En.ret ?_
 exact En.back ht 0 h (by kernel_rfl) rfl
theorem en82 : ∀ args w, (callFunc 82 args).run Try.prog w = .ok (.enter 82 args) w := enters_of Try.func82 (by kernel_rfl) rfl
theorem detCheck_ct (x : ApiDet)  : Ct 82 [.sv (.agg [I x.fLetters, I x.fStart, LS (lsT intT) x.fNext, LS intT x.fMark])] [] (fun (_ : Unit) => True) (fun _ => .sv (.one (I (detErr x)))) := by
 refine (detCheck_walk x (fun res_ => res_ = (detErr x)) ?_).fun
 intro _ _
 refine ⟨fun h1 => ?_, fun h1 => ⟨fun h2 => ?_, fun h2 => ?_⟩⟩
 ·show _ = detErr x
  unfold detErr; rw [if_pos h1]
 ·show _ = detErr x
  unfold detErr; rw [if_neg (by rw [h1]; decide), if_pos h2]
 refine ⟨fun b => b = (((x.fMark.length : Int) != (x.fNext.length : Int)) || x.fNext.any (fun r => (r.length : Int) != (x).fLetters)), ⟨fun h => by rw [h]; rfl, fun h => ⟨fun _ _ => trivial, by rw [h]; rfl⟩⟩, ?_⟩
 rintro b rfl
 refine ⟨fun h3 => ?_, fun h3 => ?_⟩
 ·show _ = detErr x
  unfold detErr; rw [if_neg (by rw [h1]; decide), if_neg (by rw [h2]; decide), if_pos h3]
 refine ⟨fun b => b = (altNo (x.fNext.length : Int) x.fStart || x.fNext.any (fun l => l.any (altNo (x.fNext.length : Int)))), ⟨trivial, fun h => by rw [h]; rfl, fun h => ⟨fun _ _ _ _ => trivial, by rw [h]; rfl⟩⟩, ?_⟩
 rintro b rfl
 refine ⟨fun h4 => ?_, fun h4 => ⟨fun _ _ => trivial, fun h5 => ?_, fun h5 => ?_⟩⟩
 ·show _ = detErr x
  unfold detErr; rw [if_neg (by rw [h1]; decide), if_neg (by rw [h2]; decide), if_neg (by rw [h3]; decide), if_pos h4]
 ·show _ = detErr x
  unfold detErr; rw [if_neg (by rw [h1]; decide), if_neg (by rw [h2]; decide), if_neg (by rw [h3]; decide), if_neg (by rw [h4]; decide), if_pos h5]
 ·show _ = detErr x
  unfold detErr; rw [if_neg (by rw [h1]; decide), if_neg (by rw [h2]; decide), if_neg (by rw [h3]; decide), if_neg (by rw [h4]; decide), if_neg (by rw [h5]; decide)]
def detLeast_vc (x : ApiDet) (Q : (ApiDet × Int) → Prop) : Prop :=
 x.fNext.length ≤ 9223372036854775807 →
 x.fMark.length ≤ 9223372036854775807 →
 (IfP ((detErr x) != 0) (Q ((ApiDet.mk 0 0 [] []), (detErr x))) ((ClsOk x) ∧
 Q ((canon (x).fLetters.toNat (langD x (x).fStart.toNat)), 0)))
theorem detLeast_walk (x : ApiDet) (Q : (ApiDet × Int) → Prop) (h : detLeast_vc x Q) : Ct 31 [.sv (.agg [I x.fLetters, I x.fStart, LS (lsT intT) x.fNext, LS intT x.fMark])] [] Q (fun (r : (ApiDet × Int)) => .tup [.agg [I r.1.fLetters, I r.1.fStart, LS (lsT intT) r.1.fNext, LS intT r.1.fMark], .one (I r.2)]) := by
 have ht := tab_ok
 refine Ct.body Try.func31 rfl rfl rfl rfl (fun c hn => ?_)
 unfold detLeast_vc at h
 refine En.lenA 0 2 (by rfl) (by rfl) (fun hl => ?_)
 replace h := h hl
 clear hl
 refine En.lenA 0 3 (by rfl) (by rfl) (fun hl => ?_)
 replace h := h hl
 clear hl
 refine En.seq ?_
 refine En.region ?_
 refine WL.run ht hn 3 ⟨[sl 1 (.ptr 0 0), sl 2 (.ptr 1 0)], [.box (ApiDet.cl x) 73 false, .box [I 0, I 0, .v (.slice none 0 0), .v (.slice none 0 0)] 73 false]⟩ (by kernel_rfl) ?_
 refine WL.nil ?_
 refine En.seq ?_
 refine En.seq ?_
 refine En.region ?_
 refine WL.run ht hn 1 ⟨[sl 1 (.ptr 0 0), sl 2 (.ptr 1 0), (5, .sv (.agg (ApiDet.cl x)))], [.box (ApiDet.cl x) 73 false, .box [I 0, I 0, .v (.slice none 0 0), .v (.slice none 0 0)] 73 false]⟩ (by kernel_rfl) ?_
 refine WL.mt0 (K := []) (p := none) hn (by rfl) (mt_call (detCheck_ct x) en82 (caps := []) [] rfl (by rfl) (by kernel_rfl) (by kernel_rfl) (by rfl) (by rfl) (by rfl)) (by rfl) (by rfl) (by rfl) ?_
 refine WL.run ht hn 1 ⟨[sl 1 (.ptr 0 0), sl 2 (.ptr 1 0), sl 4 (I (detErr x))], [.box (ApiDet.cl x) 73 false, .box [I 0, I 0, .v (.slice none 0 0), .v (.slice none 0 0)] 73 false]⟩ (by kernel_rfl) ?_
 refine WL.nil ?_
 refine En.seq ?_
 refine En.region ?_
 refine WL.run ht hn 2 ⟨[sl 1 (.ptr 0 0), sl 2 (.ptr 1 0), sl 4 (I (detErr x)), sl 8 (B ((detErr x) != 0))], [.box (ApiDet.cl x) 73 false, .box [I 0, I 0, .v (.slice none 0 0), .v (.slice none 0 0)] 73 false]⟩ (by kernel_rfl) ?_
 refine WL.nil ?_
 refine En.cond (b := ((detErr x) != 0)) (by kernel_rfl) (fun hb => ?_) (fun hb => ?_)
 replace h := h.1 hb
 refine En.seq ?_
 refine En.region ?_
 refine WL.run ht hn 4 ⟨[sl 2 (.ptr 1 0), sl 3 (I (detErr x))], [.gone, .box [I 0, I 0, .v (.slice none 0 0), .v (.slice none 0 0)] 73 false]⟩ (by kernel_rfl) ?_
 refine WL.nil ?_
 refine En.ret ?_
 refine En.nilBox (T := (lsT intT)) 1 2 (by rfl) (by rfl) ?_
 refine En.nilBox (T := intT) 1 3 (by rfl) (by rfl) ?_
 exact En.back ht ((ApiDet.mk 0 0 [] []), (detErr x)) h (by kernel_rfl) rfl
 replace h := h.2 hb
 refine En.skip ?_
 refine En.seq ?_
 refine En.region ?_
 refine WL.run ht hn 1 ⟨[sl 2 (.ptr 1 0), (11, .sv (.agg (ApiDet.cl x)))], [.gone, .box [I 0, I 0, .v (.slice none 0 0), .v (.slice none 0 0)] 73 false]⟩ (by kernel_rfl) ?_
 have hp := h.1
 replace h := h.2
 refine WL.mt0 (K := []) (p := none) hn (by rfl) (mt_call (smallest_ct x hp) en77 (caps := []) [] rfl (by rfl) (by kernel_rfl) (by kernel_rfl) (by rfl) (by rfl) (by rfl)) (by rfl) (by rfl) (by rfl) ?_
 refine WL.run ht hn 2 ⟨[sl 2 (.ptr 1 0), sl 3 (I 0)], [.gone, .box (ApiDet.cl (canon (x).fLetters.toNat (langD x (x).fStart.toNat))) 73 false]⟩ (by kernel_rfl) ?_
 refine WL.nil ?_
 refine En.ret ?_
 exact En.back ht ((canon (x).fLetters.toNat (langD x (x).fStart.toNat)), 0) h (by kernel_rfl) rfl
theorem en31 : ∀ args w, (callFunc 31 args).run Try.prog w = .ok (.enter 31 args) w := enters_of Try.func31 (by kernel_rfl) rfl
theorem detLeast_ct (x : ApiDet)  : Ct 31 [.sv (.agg [I x.fLetters, I x.fStart, LS (lsT intT) x.fNext, LS intT x.fMark])] [] (fun (_ : Unit) => True) (fun _ => .tup [.agg [I (leastR x).1.fLetters, I (leastR x).1.fStart, LS (lsT intT) (leastR x).1.fNext, LS intT (leastR x).1.fMark], .one (I (leastR x).2)]) := by
 refine (detLeast_walk x (fun res_ => res_ = (leastR x)) ?_).fun
 intro _ _
 refine ⟨fun h => ?_, fun h => ?_⟩
 ·show _ = leastR x
  unfold leastR
  rw [if_neg (by simpa using h)]
 ·have h0 : detErr x = 0 := by simpa using h
  refine ⟨((detErr_iff x).1 h0).cls, ?_⟩
  show _ = leastR x
  unfold leastR
  rw [if_pos h0]
end Go.Proofs.Ytapnmjeadbhffaa


namespace Go.Proofs.Ytapnmjeadbhffaa
open Go.RowKit Go.MapKept
set_option linter.unusedSimpArgs false
set_option linter.unusedVariables false
set_option maxRecDepth 100000
section
variable {c : Cfg} {S S1 : St} {a : Act} {w : World} {g : Gh} {hs : Nat → Value} {tab : Tab} {n : Nat} {o : Oper} {ops : Array Oper} {rest L : List Oper} {N : Po}
end
end Go.Proofs.Ytapnmjeadbhffaa


namespace Go.Proofs.Ytapnmjeadbhffaa
open Go.RowKit Go.MapKept
set_option linter.unusedSimpArgs false
set_option linter.unusedVariables false
set_option maxRecDepth 100000
def tailE (l : List Oper) (m : Nat) : Bool := (List.range l.length).all fun k => Nat.blt k m || (List.range k).all fun j => (onI l k).contains j || (closE l k (onI l k)).contains j
theorem closE_listed {l : List Oper} {L : Nat → Bool} (hc : Closed' l L) : ∀ (n : Nat) {s : List Nat}, (∀ j ∈ s, L j = true) → ∀ j ∈ closE l n s, L j = true
 | 0, s, h, j, hj => h j hj
 | n + 1, s, h, j, hj => by
  unfold closE at hj
  split at hj
  ·rename_i hm
   refine closE_listed hc n (fun k hk => ?_) j hj
   rcases List.mem_append.1 hk with hk | hk
   ·exact h k hk
   ·exact (hc n (h n (List.contains_iff_mem.1 hm))).2 k hk
  ·exact closE_listed hc n h j hj
theorem tail_all {l : List Oper} {m : Nat} (ht : tailE l m = true) {L : Nat → Bool} (hc : Closed' l L) {i : Nat} {o : Oper} (hi : l[i]? = some o) (hm : m ≤ i) (hon : ∀ j ∈ onE o, L j = true) : ∀ j, j < i → L j = true := fun j hj => by
 have hlt := (List.getElem?_eq_some_iff.1 hi).1
 have h1 := List.all_eq_true.1 ht i (List.mem_range.2 hlt)
 rw [Bool.or_eq_true] at h1
 rcases h1 with h1 | h1
 ·have := Nat.le_of_ble_eq_true h1
  omega
 ·have h2 := List.all_eq_true.1 h1 j (List.mem_range.2 hj)
  rw [onI_eq hi, Bool.or_eq_true] at h2
  rcases h2 with h2 | h2
  ·exact hon j (List.contains_iff_mem.1 h2)
  ·exact closE_listed hc i hon j (List.contains_iff_mem.1 h2)
theorem blt_iff {a b : Nat} : Nat.blt a b = true ↔ a < b := ⟨fun h => Nat.le_of_ble_eq_true h, fun h => Nat.ble_eq_true_of_le h⟩
section
variable {c : Cfg} {C : Cert} {l : List Oper} {n m : Nat} {N : Po}
theorem tail_ok (hb : ∀ (i : Nat) (o : Oper), l[i]? = some o → ∀ j ∈ onE o, j < i) (ht : tailE l m = true) : ∀ (fuel k : Nat) (listed : Array Bool) (a : Act) (w : World), k + fuel = l.length → m ≤ k → listed.size = l.length → LB listed = (fun i => Nat.blt i k) → wpList Try.prog l.toArray (OnlyP c N) (l.drop k) a w → wpAny Try.prog .any l.toArray (OnlyP c N) fuel listed a w := by
 have hcl : ∀ k, k ≤ l.length → Closed' l (fun i => Nat.blt i k) := fun k hk i hi => by
  have hi := blt_iff.1 hi
  refine ⟨by omega, fun j hj => blt_iff.2 ?_⟩
  have ho : l[i]? = some (l[i]'(by omega)) := List.getElem?_eq_getElem (by omega)
  rw [onI_eq ho] at hj
  have := hb i _ ho j hj
  omega
 intro fuel
 induction fuel with
 | zero =>
  intro k listed a w hk hm hsz hL hw
  have hk : k = l.length := by omega
  subst hk
  rw [List.drop_length] at hw
  refine ⟨?_, hw⟩
  cases hr : Region.ready .any l.toArray listed with
  | nil => rfl
  | cons i r =>
   obtain ⟨o, ho, hF, _⟩ := ready_mem hsz (i := i) (by rw [hr]; simp)
   have hF2 : Nat.blt i l.length = false := by rw [hL] at hF; exact hF
   have : Nat.blt i l.length = true := blt_iff.2 (List.getElem?_eq_some_iff.1 ho).1
   rw [this] at hF2
   cases hF2
 | succ fuel ih =>
  intro k listed a w hk hm hsz hL hw
  have hkl : k < l.length := by omega
  refine ⟨fun hr => ?_, fun i hi => ?_⟩
  ·have := ready_nil hsz hb hr k hkl
   rw [hL] at this
   have := blt_iff.1 this
   omega
  ·obtain ⟨o, ho, hF, hon⟩ := ready_mem hsz hi
   have hik : k ≤ i := by
    refine Decidable.byContradiction fun hc => ?_
    have : LB listed i = true := by rw [hL]; exact blt_iff.2 (by omega)
    rw [this] at hF
    cases hF
   have hik : i = k := by
    refine Decidable.byContradiction fun hc => ?_
    have hcl' := hcl k (by omega)
    rw [hL] at hon
    have := blt_iff.1 (tail_all ht hcl' ho (by omega) hon k (by omega))
    omega
   subst hik
   have hset := LB_set (listed := listed) (i := i) (by omega)
   have hnext : ∀ a' w', wpList Try.prog l.toArray (OnlyP c N) (l.drop (i + 1)) a' w' → wpAny Try.prog .any l.toArray (OnlyP c N) fuel (listed.setIfInBounds i true) a' w' := fun a' w' h' => by
    refine ih (i + 1) _ a' w' (by omega) (by omega) (by simpa using hsz) ?_ h'
    rw [hset, hL]
    funext j
    unfold addL
    by_cases e : j = i
    ·rw [if_pos e]
     exact (blt_iff.2 (by omega)).symm
    ·rw [if_neg e]
     show Nat.blt j i = Nat.blt j (i + 1)
     cases h1 : Nat.blt j i with
     | true => exact (blt_iff.2 (by have := blt_iff.1 h1; omega)).symm
     | false =>
      cases h2 : Nat.blt j (i + 1) with
      | false => rfl
      | true =>
       have := blt_iff.1 h2
       have : Nat.blt j i = true := blt_iff.2 (by omega)
       rw [h1] at this
       cases this
   have hd : l.drop i = o :: l.drop (i + 1) := by
    rw [List.drop_eq_getElem_cons hkl]
    congr 1
    rw [List.getElem?_eq_getElem hkl] at ho
    exact Option.some.inj ho
   rw [hd] at hw
   unfold wpList at hw
   unfold wpOp
   have ho' : l.toArray[i]? = some o := by simpa using ho
   rw [ho']
   simp only
   split
   ·rename_i hwant
    rw [if_pos hwant] at hw
    rcases hw with hw | hw
    ·exact .inl (Oper.wp_mono hnext hw)
    ·exact .inr hw
   ·rename_i hwant
    rw [if_neg hwant] at hw
    exact hnext _ _ hw
theorem anyT_ok (hk : Chk C l) (hn : c.n = n) (hd : (l.all fun o => match o.dst with | some d => Nat.blt d n | none => true) = true) (hml : m ≤ l.length) (ht : tailE l m = true) (hs : StepsOk c C l 0 (l.take m))
  (hN : ∀ a w, Ok c ⟨C.FL l (fun i => Nat.blt i m), C.ML (fun i => Nat.blt i m)⟩ a w → wpList Try.prog l.toArray (OnlyP c N) (l.drop m) a w) :
  ∀ (fuel : Nat) (listed : Array Bool) (a : Act) (w : World), listed.size = l.length → Closed' l (LB listed) → (∀ i, LB listed i = true → i < m) → (listed.toList.filter id).length + fuel = l.length → Ok c ⟨C.FL l (LB listed), C.ML (LB listed)⟩ a w → wpAny Try.prog .any l.toArray (OnlyP c N) fuel listed a w := by
 have full : ∀ listed : Array Bool, (∀ i, LB listed i = true → i < m) → (∀ i, i < m → LB listed i = true) → LB listed = fun i => Nat.blt i m := fun listed h1 h2 => by
  funext i
  cases hL : LB listed i with
  | true => exact (blt_iff.2 (h1 i hL)).symm
  | false =>
   cases hb : Nat.blt i m with
   | false => rfl
   | true => rw [h2 i (blt_iff.1 hb)] at hL; cases hL
 have cnt : ∀ (q : List Bool) (r : Nat), r ≤ q.length → (∀ i, i < q.length → q.getD i false = Nat.blt i r) → (q.filter id).length = r := by
  intro q
  induction q with
  | nil => intro r h _; simp at h; simp [h]
  | cons x q ih =>
   intro r h hq
   have h0 := hq 0 (by simp)
   rw [List.getD_cons_zero] at h0
   cases r with
   | zero =>
    have hx : x = false := h0
    have := ih 0 (Nat.zero_le _) fun i hi => by
     have h2 := hq (i + 1) (by simp; omega)
     rw [List.getD_cons_succ] at h2
     rw [h2]
     rfl
    subst hx
    simpa using this
   | succ r =>
    have hx : x = true := h0
    have := ih r (by simpa using h) fun i hi => by
     have h2 := hq (i + 1) (by simp; omega)
     rw [List.getD_cons_succ] at h2
     rw [h2]
     rfl
    subst hx
    simpa using this
 intro fuel
 induction fuel with
 | zero =>
  intro listed a w hsz hcl hlt hcnt hok
  have hall : ∀ i, i < l.length → LB listed i = true := fun i hi => by
   have hlen : listed.toList.length = l.length := by simpa using hsz
   have := count_all listed.toList (by omega) (listed[i]'(by omega)) (by simp)
   unfold LB
   rw [Array.getD_eq_getD_getElem?]
   simp [hsz, hi, this]
  have hme : m = l.length := by
   refine Decidable.byContradiction fun hc => ?_
   have := hlt m (hall m (by omega))
   omega
  have hf := full listed hlt fun i hi => hall i (by omega)
  exact tail_ok hk.below ht 0 m listed a w (by omega) (Nat.le_refl _) hsz hf (hN a w (hf ▸ hok))
 | succ fuel ih =>
  intro listed a w hsz hcl hlt hcnt hok
  by_cases hA : ∀ i, i < m → LB listed i = true
  ·have hf := full listed hlt hA
   have hc : (listed.toList.filter id).length = m := cnt listed.toList m (by simpa [hsz] using hml) fun i hi => by
    have := congrFun hf i
    unfold LB at this
    rw [← this, Array.getD_eq_getD_getElem?, List.getD_eq_getElem?_getD]
    simp
   exact tail_ok hk.below ht (fuel + 1) m listed a w (by omega) (Nat.le_refl _) hsz hf (hN a w (hf ▸ hok))
  ·obtain ⟨i0, h0⟩ := Classical.not_forall.1 hA
   obtain ⟨h0m, h0L⟩ := Classical.not_imp.1 h0
   refine ⟨fun hr => absurd (ready_nil hsz hk.below hr i0 (by omega)) h0L, fun i hi => ?_⟩
   obtain ⟨o, ho, hL, hon⟩ := ready_mem hsz hi
   have hltl := (List.getElem?_eq_some_iff.1 ho).1
   have him : i < m := by
    refine Decidable.byContradiction fun hc => h0L ?_
    exact tail_all ht hcl ho (by omega) hon i0 (by omega)
   have hst := stepsOk_get hs i o (by rw [List.getElem?_take_of_lt him]; exact ho)
   rw [Nat.zero_add] at hst
   have hset := LB_set (listed := listed) (i := i) (by omega)
   have hnext : ∀ a' w', Ok c ⟨C.FL l (addL (LB listed) i), C.ML (addL (LB listed) i)⟩ a' w' → wpAny Try.prog .any l.toArray (OnlyP c N) fuel (listed.setIfInBounds i true) a' w' := fun a' w' h' => by
    refine ih _ a' w' (by simpa using hsz) ?_ ?_ ?_ (by rw [hset]; exact h')
    ·rw [hset]
     intro j hj
     unfold addL at hj ⊢
     by_cases e : j = i
     ·subst e
      refine ⟨hltl, fun k hk' => ?_⟩
      rw [onI_eq ho] at hk'
      split
      ·rfl
      ·exact hon k hk'
     ·rw [if_neg e] at hj
      obtain ⟨h1, h2⟩ := hcl j hj
      refine ⟨h1, fun k hk' => ?_⟩
      split
      ·rfl
      ·exact h2 k hk'
    ·rw [hset]
     intro j hj
     unfold addL at hj
     by_cases e : j = i
     ·omega
     ·rw [if_neg e] at hj
      exact hlt j hj
    ·rw [Array.toList_setIfInBounds, count_set]
     ·omega
     ·unfold LB at hL
      rw [Array.getD_eq_getD_getElem?] at hL
      have : listed[i]? = some listed[i] := by simp [hsz, hltl]
      rw [this] at hL
      simp at hL
      rw [Array.getElem?_toList, this, hL]
   have := step_ok (Z := N) hk hcl hn hd ho hL hon hst hok hnext
   unfold wpOp
   have ho' : l.toArray[i]? = some o := by simpa using ho
   rw [ho']
   simp only
   split
   ·rename_i hw
    rw [if_pos hw] at this
    exact .inl this
   ·rename_i hw
    rw [if_neg hw] at this
    exact this
theorem En.regionT {S : St} {id : Nat} {E : List (Nat × Po)} {R : Po} (C : Cert) (m : Nat) (fin : St) (hm : Try.prog.follows .mixedOrders = true) (hn : c.n = n) (hml : Nat.ble m l.length = true) (ht : tailE l m = true) (hk : chkE C l = true) (hd : (l.all fun o => match o.dst with | some d => Nat.blt d n | none => true) = true)
  (h0 : subE ⟨C.FL l (fun _ => false), C.ML (fun _ => false)⟩ S = subX ⟨C.FL l (fun _ => false), C.ML (fun _ => false)⟩) (hs : StepsOk c C l 0 (l.take m))
  (h1 : subE fin ⟨C.FL l (fun i => Nat.blt i m), C.ML (fun i => Nat.blt i m)⟩ = subX fin) (h2 : WL c l.toArray (l.drop m) fin N) : En c S (cwp (.region id l.toArray true) (PQ c N E R)) := fun a w ⟨g, hs', hok⟩ => by
 have hok1 : Ok' c S a w.drew g hs' := hok.grown (grown_drew w)
 have hL : LB (Array.replicate l.length false) = fun _ => false := by
  funext i
  unfold LB
  rw [Array.getD_eq_getD_getElem?, Array.getElem?_replicate]
  split <;> rfl
 refine Code.wp_mono (fun e a w q => ?_) (wp_region_any (Q := OnlyP c N) hm (anyT_ok (chk_of hk) hn hd (Nat.le_of_ble_eq_true hml) ht hs (fun a w h => h2 a w (sub_ok h1 a w h)) l.toArray.size _ a w.drew (by simp) ?_ ?_ ?_ ?_))
 ·cases e <;> first | exact q | exact (q : False).elim
 ·intro i hi
  simp only [List.size_toArray] at hi
  rw [hL] at hi
  cases hi
 ·intro i hi
  simp only [List.size_toArray] at hi
  rw [hL] at hi
  cases hi
 ·simp only [List.size_toArray, Array.toList_replicate]
  rw [List.filter_replicate_of_neg (by simp)]
  simp
 ·simp only [List.size_toArray]
  rw [hL]
  exact sub_ok h0 a w.drew ⟨g, hs', hok1⟩
end
end Go.Proofs.Ytapnmjeadbhffaa


namespace Go.Proofs.Ytapnmjeadbhffaa
open Go.RowKit Go.MapKept Go.ChangeMaps
set_option linter.unusedSimpArgs false
set_option linter.unusedVariables false
set_option maxRecDepth 100000
section
variable {κ α : Type} [DecidableEq κ]
end
section
variable {κ α : Type} [DecidableEq κ] {enc : κ → Value} {T : Ty α} {D : List (κ × α)} {es : Array MapEntry} {ck : Nat}
variable {c : Cfg} {S S1 : St} {n : Nat} {o : Oper} {ops : Array Oper} {rest L : List Oper} {N : Po}
omit [DecidableEq κ] in
theorem mt_nilBox {β : Type} {T : Ty β} {x : SC} {K : List Nat} {p ty : Nat} {cells : List At} (j : Nat) (h : MT c S o x K (some (p, .box cells ty false))) (hj : cells[j]? = some (.v (.slice none 0 0))) : MT c S o x K (some (p, .box (cells.set j (LS T ([] : List β))) ty false)) := fun a w g hs hk N Z hN =>
 h a w g hs hk N Z fun v w' g' h' h1 h2 h3 => hN v w' g' h' h1 h2 ⟨by
  obtain ⟨⟨b, cs, k1, k2, k3⟩, _⟩ := h3
  exact ⟨b, cs, k1, oks_nil j hj k2, k3⟩, h3.2⟩
end
end Go.Proofs.Ytapnmjeadbhffaa


namespace Go.Proofs.Ytapnmjeadbhffaa
open Go.RowKit Go.MapKept
set_option linter.unusedSimpArgs false
set_option linter.unusedVariables false
set_option maxRecDepth 100000
section
variable {c : Cfg} {S : St} {tab : Tab} {n : Nat} {o : Oper} {N : Po}
theorem val_fieldO {i k s t f fo fs : Nat} {ag : Bool} {ti : TI} {x : Operand} (ht : tab.ok) (ho : o.op = .fieldAddr t x f) (h1 : tab t = some ti) (h2 : ti.st = true) (h3 : ti.offs[f]? = some (fo, fs + 1, ag))
  (hx : evX S.F x = some (.sv (.one (.oe i k s)))) : Val c S o (.sv (.one (.oe i (k * s + fo) 1))) := fun a w g hs h => by
 obtain ⟨⟨b, off, n, cap, e1, e2⟩, _⟩ := evX_ok h hx
 obtain ⟨fss, fx, k1, k2, k3, k4, k5⟩ := (ht t ti h1).field h2 h3
 have : (execOp a.eval o) = (do pure (.value (← Instr.fieldAt t (a.eval x) f)) : Sem Next) := by unfold execOp; rw [ho]
 rw [this]
 refine ⟨.pointer (some ⟨b, off + (k * s + fo) * 1, none⟩), run_val ?_, ⟨b, off, n, cap, e1, rfl⟩, trivial⟩
 simp only [Instr.fieldAt, Sem.run_bind, run_underlying k1, Result.andThen_ok, k2, e2, Instr.sureAddr, Sem.run_pure, fieldPlace, run_sizeOf_of k4]
 simp [k3, Addr.add_lit, Nat.add_assoc]
theorem val_loadOF {α : Type} {T : Ty α} {l : List α} {i k fo t el : Nat} {y : α} {cells : List At} {z : At} {ti : TI} {x : Operand} (ht : tab.ok) (ho : o.op = .load t x) (h1 : tab t = some ti) (h2 : ti.agg = false) (h3 : T.sv y = .agg cells) (h4 : cells[fo]? = some z) (h5 : z.refs = [])
  (hx : evX S.F x = some (.sv (.one (.oe i (k * T.s + fo) 1)))) (hm : S.M[i]? = some (rowI el T l)) (hy : l[k]? = some y) : Val c S o (.sv (.one z)) := fun a w g hs h => by
 obtain ⟨⟨b, of, nn, cap, e1, e2⟩, _⟩ := evX_ok h hx
 obtain ⟨cs, ⟨hl0, r1⟩, r2⟩ := h.items i _ hm
 have htk := ht t ti h1
 obtain ⟨u, u1, u2, u3⟩ := row_elem r2 hy
 have : (execOp a.eval o) = (do pure (.value (← Instr.loadAt t (a.eval x))) : Sem Next) := by unfold execOp; rw [ho]
 rw [this]
 rw [h3] at u1
 obtain ⟨us, rfl, hos⟩ := u1
 obtain ⟨v, hv, hz, hcv⟩ := oks_get hos h4
 have hz' : z.ok g hs v := At.ok_hs (fun i hi => by rw [h5] at hi; cases hi) hz
 refine ⟨v, run_val ?_, hz'⟩
 have hcell : w.cell? (⟨b, of + (k * T.s + fo) * 1, none⟩ : Addr) = some v := by
  have hj' := u3 fo v (by simpa [Value.cells] using hv)
  rcases r1 with ⟨e3, _⟩ | ⟨gb, of', cap', cur, e3, e4, _, _, _, e5⟩
  ·rw [e1] at e3; cases e3
  ·rw [e1] at e3
   simp at e3
   obtain ⟨⟨rfl, rfl⟩, rfl, rfl⟩ := e3
   unfold World.cell?
   rw [e4]
   rw [← e5, List.getElem?_take] at hj'
   split at hj'
   ·rw [List.getElem?_drop] at hj'
    simpa [Nat.add_assoc] using hj'
   ·cases hj'
 simp only [Instr.loadAt, e2, Instr.sureAddr, loadVar, Sem.run_bind, Sem.run_pure, Result.andThen_ok, htk.run_isAgg]
 rw [h2]
 rw [Nat.mul_one] at hcell
 simp [load, Sem.run, hcell]
end
end Go.Proofs.Ytapnmjeadbhffaa


namespace Go.Proofs.Ytapnmjeadbhffaa
open Go.RowKit Go.MapKept
set_option linter.unusedSimpArgs false
set_option linter.unusedVariables false
set_option maxRecDepth 100000
def detKey_vc (l : (List Int)) (Q : ByteArray → Prop) : Prop :=
 l.length ≤ 9223372036854775807 →
 (∃ (Inv : Int → (List Int) → Prop) (mu : Int → (List Int) → Nat), Inv 0 ([] : (List Int)) ∧
 ∀ (x8 : Int) (l1 : (List Int)) , Inv x8 l1 → (IfP (decide (x8 < (l.length : Int))) (∃ e, idx l x8 = some e ∧
 capOk l1.length (([(IntKind.wrap .u8 e), (IntKind.wrap .u8 (Int.fdiv e (2 ^ (min 8 64))))] : (List Int)) : (List Int)).length 1 ∧
 (Inv (wr (x8 + 1)) (l1 ++ ([(IntKind.wrap .u8 e), (IntKind.wrap .u8 (Int.fdiv e (2 ^ (min 8 64))))] : (List Int))) ∧ mu (wr (x8 + 1)) (l1 ++ ([(IntKind.wrap .u8 e), (IntKind.wrap .u8 (Int.fdiv e (2 ^ (min 8 64))))] : (List Int))) < mu x8 l1)) (Q (bytesOf l1))))
theorem detKey_walk (l : (List Int)) (Q : ByteArray → Prop) (h : detKey_vc l Q) : Ct 115 [.sv (.one (LS intT l))] [] Q (fun (r : ByteArray) => .sv (.one (.v (.string r)))) := by
 have ht := tab_ok
 refine Ct.body Try.func115 rfl rfl rfl rfl (fun c hn => ?_)
 unfold detKey_vc at h
 refine En.lenL 0 (by rfl) (fun hl => ?_)
 replace h := h hl
 clear hl
 refine En.seq ?_
 refine En.region ?_
 refine WL.run ht hn 1 ⟨[sl 0 (LS intT l)], []⟩ (by kernel_rfl) ?_
 refine WL.nil ?_
 refine En.seq ?_
 refine En.region ?_
 refine WL.run ht hn 1 ⟨[sl 0 (LS intT l), sl 3 (.v (.slice none 0 0))], []⟩ (by kernel_rfl) ?_
 refine WL.nil ?_
 refine En.seq ?_
 refine En.seq ?_
 refine En.region ?_
 refine WL.run ht hn 3 ⟨[sl 3 (.v (.slice none 0 0)), sl 6 (LS intT l), sl 7 (I (l.length : Int)), sl 8 (I 0)], []⟩ (by kernel_rfl) ?_
 refine WL.nil ?_
 refine En.block ?_
 refine En.rowNil 3 1 5 (intKT .u8) (by rfl) (by rfl) ?_
 obtain ⟨Inv, mu, h0, hI⟩ := h
 refine En.loop (σ := Int × (List Int)) (fun zz => Inv zz.1 zz.2) (fun zz => mu zz.1 zz.2) (fun zz => ⟨[sl 3 (.own 1), sl 6 (LS intT l), sl 7 (I (l.length : Int)), sl 8 (I zz.1)], [.gone, rowI 5 (intKT .u8) zz.2]⟩) (0, ([] : (List Int))) h0 (sub_ok (by kernel_rfl)) ?_
 rintro ⟨x8, l1⟩ h
 replace h := hI _ _ h
 show En c ⟨[sl 3 (.own 1), sl 6 (LS intT l), sl 7 (I (l.length : Int)), sl 8 (I x8)], [.gone, rowI 5 (intKT .u8) l1]⟩ _
 refine En.seq ?_
 refine En.region ?_
 refine WL.run ht hn 1 ⟨[sl 3 (.own 1), sl 6 (LS intT l), sl 7 (I (l.length : Int)), sl 8 (I x8), sl 9 (B (decide (x8 < (l.length : Int))))], [.gone, rowI 5 (intKT .u8) l1]⟩ (by kernel_rfl) ?_
 refine WL.nil ?_
 refine En.seq ?_
 refine En.cond (b := (decide (x8 < (l.length : Int)))) (by kernel_rfl) (fun hb => ?_) (fun hb => ?_)
 replace h := h.1 hb
 refine En.skip ?_
 refine En.seq ?_
 refine En.block ?_
 refine En.seq ?_
 refine En.region ?_
 obtain ⟨e, he, h⟩ := h
 refine WL.val hn (by rfl) (val_index (T := intT) (l := l) (i := x8) ht rfl (by rfl) (by rfl) (by rfl) (by rfl) (by rfl) (by rfl) he) (by rfl) ?_
 refine WL.val hn (by rfl) (val_load (s := .one (I e)) ht rfl (by rfl) (by rfl) (by rfl) (by rfl) (by rfl)) (by rfl) ?_
 refine WL.run ht hn 1 ⟨[sl 3 (.own 1), sl 5 (I e), sl 6 (LS intT l), sl 7 (I (l.length : Int)), sl 8 (I x8)], [.gone, rowI 5 (intKT .u8) l1]⟩ (by kernel_rfl) ?_
 refine WL.nil ?_
 refine En.region ?_
 refine WL.run ht hn 6 ⟨[sl 6 (LS intT l), sl 7 (I (l.length : Int)), sl 8 (I x8), sl 12 (.own 1), sl 14 (.v (.int .u8 (IntKind.wrap .u8 e))), sl 17 (.v (.int .u8 (IntKind.wrap .u8 (Int.fdiv e (2 ^ (min 8 64))))))], [.gone, rowI 5 (intKT .u8) l1]⟩ (by kernel_rfl) ?_
 refine WL.mt0 (K := []) (p := some (2, rowI 5 (intKT .u8) ([(IntKind.wrap .u8 e), (IntKind.wrap .u8 (Int.fdiv e (2 ^ (min 8 64))))] : (List Int)))) hn (by rfl) (mt_lit (T := (intKT .u8)) ([(IntKind.wrap .u8 e), (IntKind.wrap .u8 (Int.fdiv e (2 ^ (min 8 64))))] : (List Int)) (mt_bsl 2 (r := cellsOf (intKT .u8) ([(IntKind.wrap .u8 e), (IntKind.wrap .u8 (Int.fdiv e (2 ^ (min 8 64))))] : (List Int))) ht rfl (by rfl) (by rfl) (by rfl) (by kernel_rfl) (by rfl)) (fun _ h => by cases h) (fun _ => rfl) (fun _ => rfl) (by rfl) (Nat.le_of_ble_eq_true rfl)) (by rfl) (by rfl) (by rfl) ?_
 refine WL.seal (T := (intKT .u8)) (l := ([(IntKind.wrap .u8 e), (IntKind.wrap .u8 (Int.fdiv e (2 ^ (min 8 64))))] : (List Int))) (e := 5) 2 rfl ?_
 refine WL.run ht hn 0 ⟨[sl 6 (LS intT l), sl 7 (I (l.length : Int)), sl 8 (I x8), sl 12 (.own 1), sl 14 (.v (.int .u8 (IntKind.wrap .u8 e))), sl 17 (.v (.int .u8 (IntKind.wrap .u8 (Int.fdiv e (2 ^ (min 8 64)))))), sl 18 (LS (intKT .u8) ([(IntKind.wrap .u8 e), (IntKind.wrap .u8 (Int.fdiv e (2 ^ (min 8 64))))] : (List Int)))], [.gone, rowI 5 (intKT .u8) l1, .gone]⟩ (by kernel_rfl) ?_
 have hp := h.1
 replace h := h.2
 refine WL.mt (S2 := ⟨[sl 6 (LS intT l), sl 7 (I (l.length : Int)), sl 8 (I x8), sl 14 (.v (.int .u8 (IntKind.wrap .u8 e))), sl 17 (.v (.int .u8 (IntKind.wrap .u8 (Int.fdiv e (2 ^ (min 8 64)))))), sl 18 (LS (intKT .u8) ([(IntKind.wrap .u8 e), (IntKind.wrap .u8 (Int.fdiv e (2 ^ (min 8 64))))] : (List Int)))], [.gone, rowI 5 (intKT .u8) l1, .gone]⟩) (K := [1]) (p := some (1, rowI 5 (intKT .u8) (l1 ++ ([(IntKind.wrap .u8 e), (IntKind.wrap .u8 (Int.fdiv e (2 ^ (min 8 64))))] : (List Int))))) hn (by rfl) (mt_append (T := (intKT .u8)) (l := l1) (es := ([(IntKind.wrap .u8 e), (IntKind.wrap .u8 (Int.fdiv e (2 ^ (min 8 64))))] : (List Int))) ht rfl (by rfl) (by rfl) (by rfl) (by rfl) (by decide) (by rfl) (by rfl) (srcLS (T := (intKT .u8)) (es := ([(IntKind.wrap .u8 e), (IntKind.wrap .u8 (Int.fdiv e (2 ^ (min 8 64))))] : (List Int))) (fun _ h => by cases h) (by decide) (by rfl)) (by exact hp) (by exact hp.le (by decide))) (by kernel_rfl) (by rfl) (by rfl) (by rfl) ?_
 refine WL.run ht hn 1 ⟨[sl 3 (.own 1), sl 6 (LS intT l), sl 7 (I (l.length : Int)), sl 8 (I x8)], [.gone, rowI 5 (intKT .u8) (l1 ++ ([(IntKind.wrap .u8 e), (IntKind.wrap .u8 (Int.fdiv e (2 ^ (min 8 64))))] : (List Int))), .gone]⟩ (by kernel_rfl) ?_
 refine WL.nil ?_
 refine En.region ?_
 refine WL.run ht hn 2 ⟨[sl 3 (.own 1), sl 6 (LS intT l), sl 7 (I (l.length : Int)), sl 8 (I (wr (x8 + 1)))], [.gone, rowI 5 (intKT .u8) (l1 ++ ([(IntKind.wrap .u8 e), (IntKind.wrap .u8 (Int.fdiv e (2 ^ (min 8 64))))] : (List Int))), .gone]⟩ (by kernel_rfl) ?_
 refine WL.nil ?_
 exact En.at (I := fun zz => Inv zz.1 zz.2 ∧ mu zz.1 zz.2 < mu x8 l1) (T := fun zz => ⟨[sl 3 (.own 1), sl 6 (LS intT l), sl 7 (I (l.length : Int)), sl 8 (I zz.1)], [.gone, rowI 5 (intKT .u8) zz.2]⟩) ((wr (x8 + 1)), (l1 ++ ([(IntKind.wrap .u8 e), (IntKind.wrap .u8 (Int.fdiv e (2 ^ (min 8 64))))] : (List Int)))) h (by kernel_rfl)
 replace h := h.2 hb
 refine En.exit rfl ?_
 refine En.seq ?_
 refine En.region ?_
 refine WL.run ht hn 1 ⟨[sl 21 (.own 1)], [.gone, rowI 5 (intKT .u8) l1]⟩ (by kernel_rfl) ?_
 refine WL.val hn (by rfl) (val_str rfl Try.underlying299 Try.underlying5 Try.underlying9 (srcOwn (T := intKT .u8) (es := l1) (fun _ h => by cases h) (by rfl) (by rfl))) (by rfl) ?_
 refine WL.run ht hn 1 ⟨[sl 2 (.v (.string (bytesOf l1)))], [.gone, .gone]⟩ (by kernel_rfl) ?_
 refine WL.nil ?_
 refine En.ret ?_
 exact En.back ht (bytesOf l1) h (by kernel_rfl) rfl
theorem en115 : ∀ args w, (callFunc 115 args).run Try.prog w = .ok (.enter 115 args) w := enters_of Try.func115 (by kernel_rfl) rfl
def keyB (e : Int) : List Int := [IntKind.wrap .u8 e, IntKind.wrap .u8 (Int.fdiv e (2 ^ (min 8 64)))]
def keyR (l : List Int) : ByteArray := bytesOf (l.flatMap keyB)
theorem key_len : ∀ l : List Int, (l.flatMap keyB).length = 2 * l.length
 | [] => rfl
 | e :: l => by
  rw [List.flatMap_cons, List.length_append, key_len l, List.length_cons]
  show 2 + _ = _
  omega
theorem detKey_ct (l : (List Int)) (hp : l.length ≤ 1000)  : Ct 115 [.sv (.one (LS intT l))] [] (fun (_ : Unit) => True) (fun _ => .sv (.one (.v (.string (keyR l))))) := by
 refine (detKey_walk l (fun res_ => res_ = (keyR l)) ?_).fun
 intro _
 refine ⟨fun i r => ∃ k : Nat, i = k ∧ k ≤ l.length ∧ r = (l.take k).flatMap keyB, fun i _ => l.length - i.toNat, ⟨0, rfl, Nat.zero_le _, by simp⟩, ?_⟩
 rintro i r ⟨k, rfl, hk, rfl⟩
 refine ⟨fun hb => ?_, fun hb => ?_⟩
 ·have hlt := dlt hb
  refine ⟨_, idx_at hlt, capOk_of ?_, ⟨k + 1, wsucc (by omega), hlt, ?_⟩, mu_up hlt (by omega)⟩
  ·rw [key_len, List.length_take]
   simp only [List.length_cons, List.length_nil]
   omega
  ·rw [List.take_add_one, List.flatMap_append, List.getElem?_eq_getElem hlt]
   simp [keyB]
 ·rw [List.take_of_length_le (dge hb)]
  rfl
def mayW_vc (n : Int) (w : (List Int)) (Q : Int → Prop) : Prop :=
 w.length ≤ 9223372036854775807 →
 (IfP ((decide (n < 1)) || (decide (n > 4))) (Q 2) (IfP (decide ((w.length : Int) > 60)) (Q 1) (∃ (Inv : Int → Prop) (mu : Int → Nat), Inv 0 ∧
 ∀ (x18 : Int) , Inv x18 → (IfP (decide (x18 < (w.length : Int))) (∃ e, idx w x18 = some e ∧
 IfP ((decide (e < 0)) || (decide (e ≥ n))) (Q 2) ((Inv (wr (x18 + 1)) ∧ mu (wr (x18 + 1)) < mu x18))) (Q 0)))))
theorem mayW_walk (n : Int) (w : (List Int)) (Q : Int → Prop) (h : mayW_vc n w Q) : Ct 88 [.sv (.one (I n)), .sv (.one (LS intT w))] [] Q (fun (r : Int) => .sv (.one (I r))) := by
 have ht := tab_ok
 refine Ct.body Try.func88 rfl rfl rfl rfl (fun c hn => ?_)
 unfold mayW_vc at h
 refine En.lenL 1 (by rfl) (fun hl => ?_)
 replace h := h hl
 clear hl
 refine En.seq ?_
 refine En.region ?_
 refine WL.run ht hn 1 ⟨[sl 0 (I n), sl 1 (LS intT w)], []⟩ (by kernel_rfl) ?_
 refine WL.nil ?_
 refine En.seq ?_
 refine En.seq ?_
 refine En.region ?_
 refine WL.run ht hn 3 ⟨[sl 0 (I n), sl 1 (LS intT w), sl 9 (B (decide (n < 1)))], []⟩ (by kernel_rfl) ?_
 refine WL.thru ⟨[sl 0 (I n), sl 1 (LS intT w), sl 12 (B ((decide (n < 1)) || (decide (n > 4))))], []⟩ ?_ ?_
 refine splitB (decide (n < 1)) (fun hb0 => ?_) (fun hb0 => ?_)
 refine WL.setB 9 hb0 (by kernel_rfl) ?_
 refine WL.run ht hn 3 ⟨[sl 0 (I n), sl 1 (LS intT w), sl 12 (B true)], []⟩ (by kernel_rfl) ?_
 exact WL.nil (sub_ok (by simp only [hb0]; kernel_rfl))
 refine WL.setB 9 hb0 (by kernel_rfl) ?_
 refine WL.run ht hn 3 ⟨[sl 0 (I n), sl 1 (LS intT w), sl 12 (B (decide (n > 4)))], []⟩ (by kernel_rfl) ?_
 exact WL.nil (sub_ok (by simp only [hb0]; kernel_rfl))
 refine En.cond (b := ((decide (n < 1)) || (decide (n > 4)))) (by kernel_rfl) (fun hb => ?_) (fun hb => ?_)
 replace h := h.1 hb
 refine En.seq ?_
 refine En.region ?_
 refine WL.run ht hn 1 ⟨[sl 4 (I 2)], []⟩ (by kernel_rfl) ?_
 refine WL.nil ?_
 refine En.ret ?_
 exact En.back ht 2 h (by kernel_rfl) rfl
 replace h := h.2 hb
 refine En.skip ?_
 refine En.seq ?_
 refine En.seq ?_
 refine En.region ?_
 refine WL.run ht hn 3 ⟨[sl 0 (I n), sl 1 (LS intT w), sl 15 (B (decide ((w.length : Int) > 60)))], []⟩ (by kernel_rfl) ?_
 refine WL.nil ?_
 refine En.cond (b := (decide ((w.length : Int) > 60))) (by kernel_rfl) (fun hb => ?_) (fun hb => ?_)
 replace h := h.1 hb
 refine En.seq ?_
 refine En.region ?_
 refine WL.run ht hn 1 ⟨[sl 4 (I 1)], []⟩ (by kernel_rfl) ?_
 refine WL.nil ?_
 refine En.ret ?_
 exact En.back ht 1 h (by kernel_rfl) rfl
 replace h := h.2 hb
 refine En.skip ?_
 refine En.seq ?_
 refine En.seq ?_
 refine En.region ?_
 refine WL.run ht hn 3 ⟨[sl 0 (I n), sl 16 (LS intT w), sl 17 (I (w.length : Int)), sl 18 (I 0)], []⟩ (by kernel_rfl) ?_
 refine WL.nil ?_
 refine En.block ?_
 obtain ⟨Inv, mu, h0, hI⟩ := h
 refine En.loop (σ := Int) (fun zz => Inv zz) (fun zz => mu zz) (fun zz => ⟨[sl 0 (I n), sl 16 (LS intT w), sl 17 (I (w.length : Int)), sl 18 (I zz)], []⟩) 0 h0 (sub_ok (by kernel_rfl)) ?_
 intro x18 h
 replace h := hI _ h
 show En c ⟨[sl 0 (I n), sl 16 (LS intT w), sl 17 (I (w.length : Int)), sl 18 (I x18)], []⟩ _
 refine En.seq ?_
 refine En.region ?_
 refine WL.run ht hn 1 ⟨[sl 0 (I n), sl 16 (LS intT w), sl 17 (I (w.length : Int)), sl 18 (I x18), sl 19 (B (decide (x18 < (w.length : Int))))], []⟩ (by kernel_rfl) ?_
 refine WL.nil ?_
 refine En.seq ?_
 refine En.cond (b := (decide (x18 < (w.length : Int)))) (by kernel_rfl) (fun hb => ?_) (fun hb => ?_)
 replace h := h.1 hb
 refine En.skip ?_
 refine En.seq ?_
 refine En.block ?_
 refine En.seq ?_
 refine En.region ?_
 obtain ⟨e, he, h⟩ := h
 refine WL.val hn (by rfl) (val_index (T := intT) (l := w) (i := x18) ht rfl (by rfl) (by rfl) (by rfl) (by rfl) (by rfl) (by rfl) he) (by rfl) ?_
 refine WL.val hn (by rfl) (val_load (s := .one (I e)) ht rfl (by rfl) (by rfl) (by rfl) (by rfl) (by rfl)) (by rfl) ?_
 refine WL.run ht hn 1 ⟨[sl 0 (I n), sl 6 (I e), sl 16 (LS intT w), sl 17 (I (w.length : Int)), sl 18 (I x18)], []⟩ (by kernel_rfl) ?_
 refine WL.nil ?_
 refine En.seq ?_
 refine En.region ?_
 refine WL.run ht hn 3 ⟨[sl 0 (I n), sl 6 (I e), sl 16 (LS intT w), sl 17 (I (w.length : Int)), sl 18 (I x18), sl 24 (B (decide (e < 0)))], []⟩ (by kernel_rfl) ?_
 refine WL.thru ⟨[sl 0 (I n), sl 16 (LS intT w), sl 17 (I (w.length : Int)), sl 18 (I x18), sl 28 (B ((decide (e < 0)) || (decide (e ≥ n))))], []⟩ ?_ ?_
 refine splitB (decide (e < 0)) (fun hb0 => ?_) (fun hb0 => ?_)
 refine WL.setB 24 hb0 (by kernel_rfl) ?_
 refine WL.run ht hn 4 ⟨[sl 0 (I n), sl 16 (LS intT w), sl 17 (I (w.length : Int)), sl 18 (I x18), sl 28 (B true)], []⟩ (by kernel_rfl) ?_
 exact WL.nil (sub_ok (by simp only [hb0]; kernel_rfl))
 refine WL.setB 24 hb0 (by kernel_rfl) ?_
 refine WL.run ht hn 4 ⟨[sl 0 (I n), sl 16 (LS intT w), sl 17 (I (w.length : Int)), sl 18 (I x18), sl 28 (B (decide (e ≥ n)))], []⟩ (by kernel_rfl) ?_
 exact WL.nil (sub_ok (by simp only [hb0]; kernel_rfl))
 refine En.cond (b := ((decide (e < 0)) || (decide (e ≥ n)))) (by kernel_rfl) (fun hb => ?_) (fun hb => ?_)
 replace h := h.1 hb
 refine En.seq ?_
 refine En.region ?_
 refine WL.run ht hn 1 ⟨[sl 4 (I 2)], []⟩ (by kernel_rfl) ?_
 refine WL.nil ?_
 refine En.ret ?_
 exact En.back ht 2 h (by kernel_rfl) rfl
 replace h := h.2 hb
 refine En.skip ?_
 refine En.region ?_
 refine WL.run ht hn 2 ⟨[sl 0 (I n), sl 16 (LS intT w), sl 17 (I (w.length : Int)), sl 18 (I (wr (x18 + 1)))], []⟩ (by kernel_rfl) ?_
 refine WL.nil ?_
 exact En.at (I := fun zz => Inv zz ∧ mu zz < mu x18) (T := fun zz => ⟨[sl 0 (I n), sl 16 (LS intT w), sl 17 (I (w.length : Int)), sl 18 (I zz)], []⟩) (wr (x18 + 1)) h (by kernel_rfl)
 replace h := h.2 hb
 refine En.exit rfl ?_
 refine En.seq ?_
 refine En.region ?_
 refine WL.run ht hn 1 ⟨[sl 4 (I 0)], []⟩ (by kernel_rfl) ?_
 refine WL.nil ?_
 refine En.ret ?_
 exact En.back ht 0 h (by kernel_rfl) rfl
theorem en88 : ∀ args w, (callFunc 88 args).run Try.prog w = .ok (.enter 88 args) w := enters_of Try.func88 (by kernel_rfl) rfl
def mayE (n : Int) (w : List Int) : Int := if (decide (n < 1)) || (decide (n > 4)) then 2 else if w.length > 60 then 1 else if w.any (fun a => (decide (a < 0)) || (decide (a ≥ n))) then 2 else 0
theorem mayE_ok {n : Int} {w : List Int} (h : mayE n w = 0) : w.length ≤ 60 ∧ ∀ a ∈ w, 0 ≤ a ∧ a < n := by
 unfold mayE at h
 split at h
 ·cases h
 split at h
 ·cases h
 split at h
 ·cases h
 rename_i _ h2 h3
 refine ⟨by omega, fun a ha => ?_⟩
 have := (Bool.not_eq_true _).mp h3
 rw [List.any_eq_false] at this
 have := this a ha
 simp at this
 omega
theorem mayW_ct (n : Int) (w : (List Int))  : Ct 88 [.sv (.one (I n)), .sv (.one (LS intT w))] [] (fun (_ : Unit) => True) (fun _ => .sv (.one (I (mayE n w)))) := by
 refine (mayW_walk n w (fun res_ => res_ = (mayE n w)) ?_).fun
 intro hl
 refine ⟨fun h => ?_, fun h => ⟨fun h2 => ?_, fun h2 => ?_⟩⟩
 ·show _ = mayE n w
  unfold mayE
  rw [if_pos h]
 ·show _ = mayE n w
  have := of_decide_eq_true h2
  unfold mayE
  rw [if_neg (by rw [h]; decide), if_pos (by omega)]
 have h2 := of_decide_eq_false h2
 refine ⟨fun i => ∃ k : Nat, i = k ∧ k ≤ w.length ∧ (w.take k).any (fun a => (decide (a < 0)) || (decide (a ≥ n))) = false, fun i => w.length - i.toNat, ⟨0, rfl, Nat.zero_le _, rfl⟩, ?_⟩
 rintro i ⟨k, rfl, hk, ht⟩
 refine ⟨fun hb => ?_, fun hb => ?_⟩
 ·have hlt := dlt hb
  refine ⟨_, idx_at hlt, fun hne => ?_, fun he => ⟨⟨k + 1, wsucc (by omega), hlt, ?_⟩, mu_up hlt (by omega)⟩⟩
  ·show _ = mayE n w
   unfold mayE
   rw [if_neg (by rw [h]; decide), if_neg (by omega), if_pos (List.any_eq_true.2 ⟨_, List.getElem_mem hlt, hne⟩)]
  ·rw [List.take_add_one, List.any_append, ht, List.getElem?_eq_getElem hlt]
   simpa using he
 ·have hge := dge hb
  rw [List.take_of_length_le hge] at ht
  show _ = mayE n w
  unfold mayE
  rw [if_neg (by rw [h]; decide), if_neg (by omega), if_neg (by rw [ht]; decide)]
def elems_vc (d : ApiDet) (Q : (List MonoidElement) → Prop) : Prop :=
 d.fNext.length ≤ 9223372036854775807 →
 d.fMark.length ≤ 9223372036854775807 →
 (∃ (Inv : Int → (List Int) → Prop) (mu : Int → (List Int) → Nat), Inv 0 ([] : (List Int)) ∧
 ∀ (x17 : Int) (l3 : (List Int)) , Inv x17 l3 → (IfP (decide (x17 < (d.fNext.length : Int))) (capOk l3.length (([x17] : (List Int)) : (List Int)).length 8 ∧
 (Inv (wr (x17 + 1)) (l3 ++ ([x17] : (List Int))) ∧ mu (wr (x17 + 1)) (l3 ++ ([x17] : (List Int))) < mu x17 l3)) ((l3.length ≤ 1000) ∧
 ∃ (Inv_2 : Int → (List (ByteArray × Int)) → (List MonoidElement) → Prop) (mu_2 : Int → (List (ByteArray × Int)) → (List MonoidElement) → Nat), Inv_2 0 (mput (keyR l3) 1 ([] : List (ByteArray × Int))) ([(MonoidElement.mk l3 [])] : (List MonoidElement)) ∧
 ∀ (x7 : Int) (m4 : (List (ByteArray × Int))) (l5 : (List MonoidElement)) , Inv_2 x7 m4 l5 → (IfP (decide (x7 < (l5.length : Int))) (∃ (Inv_3 : Int → (List (ByteArray × Int)) → (List MonoidElement) → Prop) (mu_3 : Int → (List (ByteArray × Int)) → (List MonoidElement) → Nat), Inv_3 0 m4 l5 ∧
 ∀ (x42 : Int) (m4_2 : (List (ByteArray × Int))) (l5_2 : (List MonoidElement)) , Inv_3 x42 m4_2 l5_2 → (IfP (decide (x42 < d.fLetters)) (∃ J : (List (ByteArray × Int)) → (List MonoidElement) → Prop, (∃ e, idx l5_2 x7 = some e ∧
 (e.fWord.length * 8 ≤ 140737488355328) ∧
 capOk (e.fWord).length (([x42] : (List Int)) : (List Int)).length 8 ∧
 ∃ e_2, idx l5_2 x7 = some e_2 ∧
 ∃ (Inv_4 : Int → (List Int) → Prop) (mu_4 : Int → (List Int) → Nat), Inv_4 0 ([] : (List Int)) ∧
 ∀ (x61 : Int) (l9 : (List Int)) , Inv_4 x61 l9 → (IfP (decide (x61 < (e_2.fDoes.length : Int))) (∃ e_3, idx e_2.fDoes x61 = some e_3 ∧
 ∃ e_4, idx d.fNext e_3 = some e_4 ∧
 ∃ e_5, idx e_4 x42 = some e_5 ∧
 capOk l9.length (([e_5] : (List Int)) : (List Int)).length 8 ∧
 (Inv_4 (wr (x61 + 1)) (l9 ++ ([e_5] : (List Int))) ∧ mu_4 (wr (x61 + 1)) (l9 ++ ([e_5] : (List Int))) < mu_4 x61 l9)) ((l9.length ≤ 1000) ∧
 IfP (((mget (keyR l9) m4_2).getD (0 : Int)) == 0) (capOk l5_2.length (([(MonoidElement.mk l9 ((e.fWord) ++ ([x42] : (List Int))))] : (List MonoidElement)) : (List MonoidElement)).length 48 ∧
 J (mput (keyR l9) ((l5_2 ++ ([(MonoidElement.mk l9 ((e.fWord) ++ ([x42] : (List Int))))] : (List MonoidElement))).length : Int) m4_2) (l5_2 ++ ([(MonoidElement.mk l9 ((e.fWord) ++ ([x42] : (List Int))))] : (List MonoidElement)))) (J m4_2 l5_2)))) ∧
 (∀ (m4_3 : (List (ByteArray × Int))) (l5_3 : (List MonoidElement)), J m4_3 l5_3 → (Inv_3 (wr (x42 + 1)) m4_3 l5_3 ∧ mu_3 (wr (x42 + 1)) m4_3 l5_3 < mu_3 x42 m4_2 l5_2))) ((Inv_2 (wr (x7 + 1)) m4_2 l5_2 ∧ mu_2 (wr (x7 + 1)) m4_2 l5_2 < mu_2 x7 m4 l5)))) (Q l5)))))
noncomputable abbrev qelems0 := (List MonoidElement)
noncomputable abbrev qelems1 (d : ApiDet) := (I (d.fNext.length : Int))
set_option maxHeartbeats 2000000 in
theorem elems_walk (d : ApiDet) (Q : (List MonoidElement) → Prop) (h : elems_vc d Q) : Ct 87 [.sv (.agg [I d.fLetters, I d.fStart, LS (lsT intT) d.fNext, LS intT d.fMark])] [] Q (fun (r : (List MonoidElement)) => .sv (.one (LS MonoidElement.ty r))) := by
 have ht := tab_ok
 refine Ct.body Try.func87 rfl rfl rfl rfl (fun c hn => ?_)
 unfold elems_vc at h
 refine En.lenA 0 2 (by rfl) (by rfl) (fun hl => ?_)
 replace h := h hl
 clear hl
 refine En.lenA 0 3 (by rfl) (by rfl) (fun hl => ?_)
 replace h := h hl
 clear hl
 refine En.seq ?_
 refine En.region ?_
 refine WL.run ht hn 2 ⟨[sl 1 (.ptr 0 0)], [.box (ApiDet.cl d) 73 false]⟩ (by kernel_rfl) ?_
 refine WL.nil ?_
 refine En.seq ?_
 refine En.region ?_
 refine WL.run ht hn 3 ⟨[sl 1 (.ptr 0 0), sl 3 (.ptr 1 0)], [.box (ApiDet.cl d) 73 false, .box [.v (.slice none 0 0), .v (.slice none 0 0)] 179 false]⟩ (by kernel_rfl) ?_
 refine WL.nil ?_
 refine En.seq ?_
 refine En.seq ?_
 refine En.region ?_
 refine WL.run ht hn 4 ⟨[sl 1 (.ptr 0 0), sl 3 (.ptr 1 0), sl 16 (qelems1 d), sl 17 (I 0)], [.box (ApiDet.cl d) 73 false, .box [.v (.slice none 0 0), .v (.slice none 0 0)] 179 false]⟩ (by kernel_rfl) ?_
 refine WL.nil ?_
 refine En.block ?_
 refine En.nilBoxO (T := intT) 1 0 3 3 (by rfl) (by rfl) (by rfl) (by rfl) ?_
 obtain ⟨Inv, mu, h0_4, hI_4⟩ := h
 refine En.loop (σ := Int × (List Int)) (fun zz => Inv zz.1 zz.2) (fun zz => mu zz.1 zz.2) (fun zz => ⟨[sl 1 (.ptr 0 0), sl 3 (.ptr 1 0), sl 16 (qelems1 d), sl 17 (I zz.1)], [.box (ApiDet.cl d) 73 false, .box [.own 3, .v (.slice none 0 0)] 179 false, .gone, rowI 3 intT zz.2]⟩) (0, ([] : (List Int))) h0_4 (sub_ok (by kernel_rfl)) ?_
 rintro ⟨x17, l3⟩ h
 replace h := hI_4 _ _ h
 show En c ⟨[sl 1 (.ptr 0 0), sl 3 (.ptr 1 0), sl 16 (qelems1 d), sl 17 (I x17)], [.box (ApiDet.cl d) 73 false, .box [.own 3, .v (.slice none 0 0)] 179 false, .gone, rowI 3 intT l3]⟩ _
 refine En.seq ?_
 refine En.region ?_
 refine WL.run ht hn 1 ⟨[sl 1 (.ptr 0 0), sl 3 (.ptr 1 0), sl 16 (qelems1 d), sl 17 (I x17), sl 18 (B (decide (x17 < (d.fNext.length : Int))))], [.box (ApiDet.cl d) 73 false, .box [.own 3, .v (.slice none 0 0)] 179 false, .gone, rowI 3 intT l3]⟩ (by kernel_rfl) ?_
 refine WL.nil ?_
 refine En.seq ?_
 refine En.cond (b := (decide (x17 < (d.fNext.length : Int)))) (by kernel_rfl) (fun hb => ?_) (fun hb => ?_)
 replace h := h.1 hb
 refine En.skip ?_
 refine En.seq ?_
 refine En.block ?_
 refine En.seq ?_
 refine En.region ?_
 refine WL.run ht hn 2 ⟨[sl 1 (.ptr 0 0), sl 3 (.ptr 1 0), sl 4 (I x17), sl 16 (qelems1 d), sl 17 (I x17)], [.box (ApiDet.cl d) 73 false, .box [.own 3, .v (.slice none 0 0)] 179 false, .gone, rowI 3 intT l3]⟩ (by kernel_rfl) ?_
 refine WL.nil ?_
 refine En.region ?_
 refine WL.run ht hn 3 ⟨[sl 1 (.ptr 0 0), sl 3 (.ptr 1 0), sl 16 (qelems1 d), sl 17 (I x17), sl 21 (.own 3), sl 22 (I x17)], [.box (ApiDet.cl d) 73 false, .box [.own 3, .v (.slice none 0 0)] 179 false, .gone, rowI 3 intT l3]⟩ (by kernel_rfl) ?_
 refine WL.mt0 (K := []) (p := some (4, rowI 3 intT ([x17] : (List Int)))) hn (by rfl) (mt_lit (T := intT) ([x17] : (List Int)) (mt_bsl 4 (r := cellsOf intT ([x17] : (List Int))) ht rfl (by rfl) (by rfl) (by rfl) (by kernel_rfl) (by rfl)) (fun _ h => by cases h) (fun _ => rfl) (fun _ => rfl) (by rfl) (Nat.le_of_ble_eq_true rfl)) (by rfl) (by rfl) (by rfl) ?_
 refine WL.seal (T := intT) (l := ([x17] : (List Int))) (e := 3) 4 rfl ?_
 refine WL.run ht hn 0 ⟨[sl 1 (.ptr 0 0), sl 3 (.ptr 1 0), sl 16 (qelems1 d), sl 17 (I x17), sl 21 (.own 3), sl 22 (I x17), sl 23 (LS intT ([x17] : (List Int)))], [.box (ApiDet.cl d) 73 false, .box [.own 3, .v (.slice none 0 0)] 179 false, .gone, rowI 3 intT l3, .gone]⟩ (by kernel_rfl) ?_
 refine WL.junk 1 0 (by rfl) ?_
 have hp := h.1
 replace h := h.2
 refine WL.mt (S2 := ⟨[sl 1 (.ptr 0 0), sl 3 (.ptr 1 0), sl 16 (qelems1 d), sl 17 (I x17), sl 22 (I x17), sl 23 (LS intT ([x17] : (List Int)))], [.box (ApiDet.cl d) 73 false, .box [.junk, .v (.slice none 0 0)] 179 false, .gone, rowI 3 intT l3, .gone]⟩) (K := [3]) (p := some (3, rowI 3 intT (l3 ++ ([x17] : (List Int))))) hn (by rfl) (mt_append (T := intT) (l := l3) (es := ([x17] : (List Int))) ht rfl (by rfl) (by rfl) (by rfl) (by rfl) (by decide) (by rfl) (by rfl) (srcLS (T := intT) (es := ([x17] : (List Int))) (fun _ h => by cases h) (by decide) (by rfl)) (by exact hp) (by exact hp.le (by decide))) (by kernel_rfl) (by rfl) (by rfl) (by rfl) ?_
 refine WL.run ht hn 2 ⟨[sl 1 (.ptr 0 0), sl 3 (.ptr 1 0), sl 16 (qelems1 d), sl 17 (I x17)], [.box (ApiDet.cl d) 73 false, .box [.own 3, .v (.slice none 0 0)] 179 false, .gone, rowI 3 intT (l3 ++ ([x17] : (List Int))), .gone]⟩ (by kernel_rfl) ?_
 refine WL.nil ?_
 refine En.region ?_
 refine WL.run ht hn 2 ⟨[sl 1 (.ptr 0 0), sl 3 (.ptr 1 0), sl 16 (qelems1 d), sl 17 (I (wr (x17 + 1)))], [.box (ApiDet.cl d) 73 false, .box [.own 3, .v (.slice none 0 0)] 179 false, .gone, rowI 3 intT (l3 ++ ([x17] : (List Int))), .gone]⟩ (by kernel_rfl) ?_
 refine WL.nil ?_
 exact En.at (I := fun zz => Inv zz.1 zz.2 ∧ mu zz.1 zz.2 < mu x17 l3) (T := fun zz => ⟨[sl 1 (.ptr 0 0), sl 3 (.ptr 1 0), sl 16 (qelems1 d), sl 17 (I zz.1)], [.box (ApiDet.cl d) 73 false, .box [.own 3, .v (.slice none 0 0)] 179 false, .gone, rowI 3 intT zz.2]⟩) ((wr (x17 + 1)), (l3 ++ ([x17] : (List Int)))) h (by kernel_rfl)
 replace h := h.2 hb
 refine En.exit rfl ?_
 refine En.seq ?_
 refine En.region ?_
 refine WL.mt0 (K := []) (p := some (4, mapI encS intT ([] : List (ByteArray × Int)))) hn (by rfl) (mt_makeMap encS intT 4 rfl) (by rfl) (by rfl) (by rfl) ?_
 refine WL.run ht hn 2 ⟨[sl 1 (.ptr 0 0), sl 3 (.ptr 1 0), sl 27 (.own 4), sl 29 (.own 3)], [.box (ApiDet.cl d) 73 false, .box [.own 3, .v (.slice none 0 0)] 179 false, .gone, rowI 3 intT l3, mapI encS intT ([] : List (ByteArray × Int))]⟩ (by kernel_rfl) ?_
 refine WL.seal (T := intT) (l := l3) (e := 3) 3 rfl ?_
 refine WL.run ht hn 0 ⟨[sl 1 (.ptr 0 0), sl 3 (.ptr 1 0), sl 27 (.own 4), sl 29 (LS intT l3)], [.box (ApiDet.cl d) 73 false, .box [LS intT l3, .v (.slice none 0 0)] 179 false, .gone, .gone, mapI encS intT ([] : List (ByteArray × Int))]⟩ (by kernel_rfl) ?_
 have hp := h.1
 replace h := h.2
 refine WL.mt0 (K := []) (p := none) hn (by rfl) (mt_call (detKey_ct l3 hp) en115 (caps := []) [] rfl (by rfl) (by kernel_rfl) (by kernel_rfl) (by rfl) (by rfl) (by rfl)) (by rfl) (by rfl) (by rfl) ?_
 refine WL.mapPut (T := intT) keyS9 (k := (keyR l3)) (y := 1) hn (by rfl) (.inr rfl) Try.underlying119 (by rfl) (by rfl) (by rfl) (by rfl) (by rfl) (by rfl) ?_
 refine WL.run ht hn 2 ⟨[sl 1 (.ptr 0 0), sl 3 (.ptr 1 0), sl 5 (.own 4)], [.box (ApiDet.cl d) 73 false, .box [LS intT l3, .v (.slice none 0 0)] 179 false, .gone, .gone, mapI encS intT (mput (keyR l3) 1 ([] : List (ByteArray × Int)))]⟩ (by kernel_rfl) ?_
 refine WL.nil ?_
 refine En.seq ?_
 refine En.region ?_
 refine WL.run ht hn 1 ⟨[sl 1 (.ptr 0 0), sl 5 (.own 4), (32, .sv (.agg [LS intT l3, .v (.slice none 0 0)]))], [.box (ApiDet.cl d) 73 false, .gone, .gone, .gone, mapI encS intT (mput (keyR l3) 1 ([] : List (ByteArray × Int)))]⟩ (by kernel_rfl) ?_
 refine WL.mt0 (K := []) (p := some (5, rowI 179 MonoidElement.ty ([(MonoidElement.mk l3 [])] : (qelems0)))) hn (by rfl) (mt_lit (T := MonoidElement.ty) ([(MonoidElement.mk l3 [])] : (qelems0)) (mt_nilBox (T := intT) 1 (mt_bsl 5 (r := [LS intT l3, .v (.slice none 0 0)]) ht rfl (by rfl) (by rfl) (by rfl) (by kernel_rfl) (by rfl)) (by rfl)) (fun _ h => by cases h) (fun _ => rfl) (fun _ => rfl) (by rfl) (Nat.le_of_ble_eq_true rfl)) (by rfl) (by rfl) (by rfl) ?_
 refine WL.run ht hn 1 ⟨[sl 1 (.ptr 0 0), sl 5 (.own 4), sl 6 (.own 5)], [.box (ApiDet.cl d) 73 false, .gone, .gone, .gone, mapI encS intT (mput (keyR l3) 1 ([] : List (ByteArray × Int))), rowI 179 MonoidElement.ty ([(MonoidElement.mk l3 [])] : (qelems0))]⟩ (by kernel_rfl) ?_
 refine WL.nil ?_
 refine En.seq ?_
 refine En.seq ?_
 refine En.region ?_
 refine WL.run ht hn 1 ⟨[sl 1 (.ptr 0 0), sl 5 (.own 4), sl 6 (.own 5), sl 7 (I 0)], [.box (ApiDet.cl d) 73 false, .gone, .gone, .gone, mapI encS intT (mput (keyR l3) 1 ([] : List (ByteArray × Int))), rowI 179 MonoidElement.ty ([(MonoidElement.mk l3 [])] : (qelems0))]⟩ (by kernel_rfl) ?_
 refine WL.nil ?_
 refine En.block ?_
 obtain ⟨Inv_2, mu_2, h0_3, hI_3⟩ := h
 refine En.loop (σ := Int × (List (ByteArray × Int)) × (qelems0)) (fun zz => Inv_2 zz.1 zz.2.1 zz.2.2) (fun zz => mu_2 zz.1 zz.2.1 zz.2.2) (fun zz => ⟨[sl 1 (.ptr 0 0), sl 5 (.own 4), sl 6 (.own 5), sl 7 (I zz.1)], [.box (ApiDet.cl d) 73 false, .gone, .gone, .gone, mapI encS intT zz.2.1, rowI 179 MonoidElement.ty zz.2.2]⟩) (0, (mput (keyR l3) 1 ([] : List (ByteArray × Int))), ([(MonoidElement.mk l3 [])] : (qelems0))) h0_3 (sub_ok (by kernel_rfl)) ?_
 rintro ⟨x7, m4, l5⟩ h
 replace h := hI_3 _ _ _ h
 show En c ⟨[sl 1 (.ptr 0 0), sl 5 (.own 4), sl 6 (.own 5), sl 7 (I x7)], [.box (ApiDet.cl d) 73 false, .gone, .gone, .gone, mapI encS intT m4, rowI 179 MonoidElement.ty l5]⟩ _
 refine En.seq ?_
 refine En.seq ?_
 refine En.region ?_
 refine WL.run ht hn 4 ⟨[sl 1 (.ptr 0 0), sl 5 (.own 4), sl 6 (.own 5), sl 7 (I x7), sl 37 (B (decide (x7 < (l5.length : Int))))], [.box (ApiDet.cl d) 73 false, .gone, .gone, .gone, mapI encS intT m4, rowI 179 MonoidElement.ty l5]⟩ (by kernel_rfl) ?_
 refine WL.nil ?_
 refine En.cond (b := (decide (x7 < (l5.length : Int)))) (by kernel_rfl) (fun hb => ?_) (fun hb => ?_)
 replace h := h.1 hb
 refine En.skip ?_
 refine En.seq ?_
 refine En.block ?_
 refine En.seq ?_
 refine En.region ?_
 refine WL.run ht hn 3 ⟨[sl 1 (.ptr 0 0), sl 5 (.own 4), sl 6 (.own 5), sl 7 (I x7), sl 41 (I d.fLetters), sl 42 (I 0)], [.box (ApiDet.cl d) 73 false, .gone, .gone, .gone, mapI encS intT m4, rowI 179 MonoidElement.ty l5]⟩ (by kernel_rfl) ?_
 refine WL.nil ?_
 refine En.block ?_
 obtain ⟨Inv_3, mu_3, h0_2, hI_2⟩ := h
 refine En.loop (σ := Int × (List (ByteArray × Int)) × (qelems0)) (fun zz => Inv_3 zz.1 zz.2.1 zz.2.2) (fun zz => mu_3 zz.1 zz.2.1 zz.2.2) (fun zz => ⟨[sl 1 (.ptr 0 0), sl 5 (.own 4), sl 6 (.own 5), sl 7 (I x7), sl 41 (I d.fLetters), sl 42 (I zz.1)], [.box (ApiDet.cl d) 73 false, .gone, .gone, .gone, mapI encS intT zz.2.1, rowI 179 MonoidElement.ty zz.2.2]⟩) (0, m4, l5) h0_2 (sub_ok (by kernel_rfl)) ?_
 rintro ⟨x42, m4_2, l5_2⟩ h
 replace h := hI_2 _ _ _ h
 show En c ⟨[sl 1 (.ptr 0 0), sl 5 (.own 4), sl 6 (.own 5), sl 7 (I x7), sl 41 (I d.fLetters), sl 42 (I x42)], [.box (ApiDet.cl d) 73 false, .gone, .gone, .gone, mapI encS intT m4_2, rowI 179 MonoidElement.ty l5_2]⟩ _
 refine En.seq ?_
 refine En.region ?_
 refine WL.run ht hn 1 ⟨[sl 1 (.ptr 0 0), sl 5 (.own 4), sl 6 (.own 5), sl 7 (I x7), sl 41 (I d.fLetters), sl 42 (I x42), sl 43 (B (decide (x42 < d.fLetters)))], [.box (ApiDet.cl d) 73 false, .gone, .gone, .gone, mapI encS intT m4_2, rowI 179 MonoidElement.ty l5_2]⟩ (by kernel_rfl) ?_
 refine WL.nil ?_
 refine En.seq ?_
 refine En.cond (b := (decide (x42 < d.fLetters))) (by kernel_rfl) (fun hb => ?_) (fun hb => ?_)
 replace h := h.1 hb
 refine En.skip ?_
 obtain ⟨J, h, hJ⟩ := h
 refine En.seqJ (σ := (List (ByteArray × Int)) × (qelems0)) (fun zz => J zz.1 zz.2) (fun zz => ⟨[sl 1 (.ptr 0 0), sl 5 (.own 4), sl 6 (.own 5), sl 7 (I x7), sl 41 (I d.fLetters), sl 42 (I x42)], [.box (ApiDet.cl d) 73 false, .gone, .gone, .gone, mapI encS intT zz.1, rowI 179 MonoidElement.ty zz.2, .gone, .gone, .gone, .gone]⟩) ?_ ?_
 refine En.block ?_
 refine En.seq ?_
 refine En.region ?_
 refine WL.run ht hn 2 ⟨[sl 1 (.ptr 0 0), sl 5 (.own 4), sl 6 (.own 5), sl 7 (I x7), sl 8 (I x42), sl 41 (I d.fLetters), sl 42 (I x42)], [.box (ApiDet.cl d) 73 false, .gone, .gone, .gone, mapI encS intT m4_2, rowI 179 MonoidElement.ty l5_2]⟩ (by kernel_rfl) ?_
 refine WL.nil ?_
 refine En.seq ?_
 refine En.region ?_
 refine WL.run ht hn 2 ⟨[sl 1 (.ptr 0 0), sl 5 (.own 4), sl 6 (.own 5), sl 7 (I x7), sl 8 (I x42), sl 41 (I d.fLetters), sl 42 (I x42), sl 45 (.own 5), sl 46 (I x7)], [.box (ApiDet.cl d) 73 false, .gone, .gone, .gone, mapI encS intT m4_2, rowI 179 MonoidElement.ty l5_2]⟩ (by kernel_rfl) ?_
 obtain ⟨e, he, h⟩ := h
 refine WL.val hn (by rfl) (val_indexO (T := MonoidElement.ty) (l := l5_2) (k := x7) ht rfl (by rfl) (by rfl) (by rfl) (by rfl) (by decide) (by rfl) (by rfl) (by rfl) he) (by rfl) ?_
 refine WL.val hn (by rfl) (val_fieldO (k := (x7).toNat) ht rfl (by rfl) (by rfl) (by rfl) (by rfl)) (by rfl) ?_
 refine WL.val hn (by rfl) (val_loadOF (T := MonoidElement.ty) (l := l5_2) (k := (x7).toNat) (fo := 1) (y := e) (z := LS intT e.fWord) ht rfl (by rfl) (by rfl) rfl (by rfl) (by rfl) (by rfl) (by rfl) (idx_some he).2.2) (by rfl) ?_
 have hp := h.1
 replace h := h.2
 refine WL.mt0 (K := []) (p := some (6, rowI 3 intT (e.fWord))) hn (by rfl) (mt_callI 6 (cloneInt_ct e.fWord hp) en49 (caps := []) [] rfl rfl (by rfl) (by kernel_rfl) (by kernel_rfl) (by rfl) (by rfl)) (by rfl) (by rfl) (by rfl) ?_
 refine WL.run ht hn 1 ⟨[sl 1 (.ptr 0 0), sl 5 (.own 4), sl 6 (.own 5), sl 7 (I x7), sl 8 (I x42), sl 41 (I d.fLetters), sl 42 (I x42), sl 50 (.own 6), sl 51 (I x42)], [.box (ApiDet.cl d) 73 false, .gone, .gone, .gone, mapI encS intT m4_2, rowI 179 MonoidElement.ty l5_2, rowI 3 intT (e.fWord)]⟩ (by kernel_rfl) ?_
 refine WL.mt0 (K := []) (p := some (7, rowI 3 intT ([x42] : (List Int)))) hn (by rfl) (mt_lit (T := intT) ([x42] : (List Int)) (mt_bsl 7 (r := cellsOf intT ([x42] : (List Int))) ht rfl (by rfl) (by rfl) (by rfl) (by kernel_rfl) (by rfl)) (fun _ h => by cases h) (fun _ => rfl) (fun _ => rfl) (by rfl) (Nat.le_of_ble_eq_true rfl)) (by rfl) (by rfl) (by rfl) ?_
 refine WL.seal (T := intT) (l := ([x42] : (List Int))) (e := 3) 7 rfl ?_
 refine WL.run ht hn 0 ⟨[sl 1 (.ptr 0 0), sl 5 (.own 4), sl 6 (.own 5), sl 7 (I x7), sl 8 (I x42), sl 41 (I d.fLetters), sl 42 (I x42), sl 50 (.own 6), sl 51 (I x42), sl 52 (LS intT ([x42] : (List Int)))], [.box (ApiDet.cl d) 73 false, .gone, .gone, .gone, mapI encS intT m4_2, rowI 179 MonoidElement.ty l5_2, rowI 3 intT (e.fWord), .gone]⟩ (by kernel_rfl) ?_
 have hp := h.1
 replace h := h.2
 refine WL.mt (S2 := ⟨[sl 1 (.ptr 0 0), sl 5 (.own 4), sl 6 (.own 5), sl 7 (I x7), sl 8 (I x42), sl 41 (I d.fLetters), sl 42 (I x42), sl 51 (I x42), sl 52 (LS intT ([x42] : (List Int)))], [.box (ApiDet.cl d) 73 false, .gone, .gone, .gone, mapI encS intT m4_2, rowI 179 MonoidElement.ty l5_2, rowI 3 intT (e.fWord), .gone]⟩) (K := [6]) (p := some (6, rowI 3 intT ((e.fWord) ++ ([x42] : (List Int))))) hn (by rfl) (mt_append (T := intT) (l := (e.fWord)) (es := ([x42] : (List Int))) ht rfl (by rfl) (by rfl) (by rfl) (by rfl) (by decide) (by rfl) (by rfl) (srcLS (T := intT) (es := ([x42] : (List Int))) (fun _ h => by cases h) (by decide) (by rfl)) (by exact hp) (by exact hp.le (by decide))) (by kernel_rfl) (by rfl) (by rfl) (by rfl) ?_
 refine WL.run ht hn 3 ⟨[sl 1 (.ptr 0 0), sl 5 (.own 4), sl 6 (.own 5), sl 7 (I x7), sl 8 (I x42), sl 9 (.ptr 8 0), sl 41 (I d.fLetters), sl 42 (I x42)], [.box (ApiDet.cl d) 73 false, .gone, .gone, .gone, mapI encS intT m4_2, rowI 179 MonoidElement.ty l5_2, rowI 3 intT ((e.fWord) ++ ([x42] : (List Int))), .gone, .box [.v (.slice none 0 0), .own 6] 179 false]⟩ (by kernel_rfl) ?_
 refine WL.nil ?_
 refine En.seq ?_
 refine En.seq ?_
 refine En.region ?_
 refine WL.run ht hn 2 ⟨[sl 1 (.ptr 0 0), sl 5 (.own 4), sl 6 (.own 5), sl 7 (I x7), sl 8 (I x42), sl 9 (.ptr 8 0), sl 41 (I d.fLetters), sl 42 (I x42), sl 55 (.own 5), sl 56 (I x7)], [.box (ApiDet.cl d) 73 false, .gone, .gone, .gone, mapI encS intT m4_2, rowI 179 MonoidElement.ty l5_2, rowI 3 intT ((e.fWord) ++ ([x42] : (List Int))), .gone, .box [.v (.slice none 0 0), .own 6] 179 false]⟩ (by kernel_rfl) ?_
 obtain ⟨e_2, he_2, h⟩ := h
 refine WL.val hn (by rfl) (val_indexO (T := MonoidElement.ty) (l := l5_2) (k := x7) ht rfl (by rfl) (by rfl) (by rfl) (by rfl) (by decide) (by rfl) (by rfl) (by rfl) he_2) (by rfl) ?_
 refine WL.val hn (by rfl) (val_fieldO (k := (x7).toNat) ht rfl (by rfl) (by rfl) (by rfl) (by rfl)) (by rfl) ?_
 refine WL.val hn (by rfl) (val_loadOF (T := MonoidElement.ty) (l := l5_2) (k := (x7).toNat) (fo := 0) (y := e_2) (z := LS intT e_2.fDoes) ht rfl (by rfl) (by rfl) rfl (by rfl) (by rfl) (by rfl) (by rfl) (idx_some he_2).2.2) (by rfl) ?_
 refine WL.run ht hn 2 ⟨[sl 1 (.ptr 0 0), sl 5 (.own 4), sl 6 (.own 5), sl 7 (I x7), sl 8 (I x42), sl 9 (.ptr 8 0), sl 41 (I d.fLetters), sl 42 (I x42), sl 59 (LS intT e_2.fDoes), sl 60 (I (e_2.fDoes.length : Int)), sl 61 (I 0)], [.box (ApiDet.cl d) 73 false, .gone, .gone, .gone, mapI encS intT m4_2, rowI 179 MonoidElement.ty l5_2, rowI 3 intT ((e.fWord) ++ ([x42] : (List Int))), .gone, .box [.v (.slice none 0 0), .own 6] 179 false]⟩ (by kernel_rfl) ?_
 refine WL.nil ?_
 refine En.block ?_
 refine En.nilBoxO (T := intT) 8 0 9 3 (by rfl) (by rfl) (by rfl) (by rfl) ?_
 obtain ⟨Inv_4, mu_4, h0, hI⟩ := h
 refine En.loop (σ := Int × (List Int)) (fun zz => Inv_4 zz.1 zz.2) (fun zz => mu_4 zz.1 zz.2) (fun zz => ⟨[sl 1 (.ptr 0 0), sl 5 (.own 4), sl 6 (.own 5), sl 7 (I x7), sl 8 (I x42), sl 9 (.ptr 8 0), sl 41 (I d.fLetters), sl 42 (I x42), sl 59 (LS intT e_2.fDoes), sl 60 (I (e_2.fDoes.length : Int)), sl 61 (I zz.1)], [.box (ApiDet.cl d) 73 false, .gone, .gone, .gone, mapI encS intT m4_2, rowI 179 MonoidElement.ty l5_2, rowI 3 intT ((e.fWord) ++ ([x42] : (List Int))), .gone, .box [.own 9, .own 6] 179 false, rowI 3 intT zz.2]⟩) (0, ([] : (List Int))) h0 (sub_ok (by kernel_rfl)) ?_
 rintro ⟨x61, l9⟩ h
 replace h := hI _ _ h
 show En c ⟨[sl 1 (.ptr 0 0), sl 5 (.own 4), sl 6 (.own 5), sl 7 (I x7), sl 8 (I x42), sl 9 (.ptr 8 0), sl 41 (I d.fLetters), sl 42 (I x42), sl 59 (LS intT e_2.fDoes), sl 60 (I (e_2.fDoes.length : Int)), sl 61 (I x61)], [.box (ApiDet.cl d) 73 false, .gone, .gone, .gone, mapI encS intT m4_2, rowI 179 MonoidElement.ty l5_2, rowI 3 intT ((e.fWord) ++ ([x42] : (List Int))), .gone, .box [.own 9, .own 6] 179 false, rowI 3 intT l9]⟩ _
 refine En.seq ?_
 refine En.region ?_
 refine WL.run ht hn 1 ⟨[sl 1 (.ptr 0 0), sl 5 (.own 4), sl 6 (.own 5), sl 7 (I x7), sl 8 (I x42), sl 9 (.ptr 8 0), sl 41 (I d.fLetters), sl 42 (I x42), sl 59 (LS intT e_2.fDoes), sl 60 (I (e_2.fDoes.length : Int)), sl 61 (I x61), sl 62 (B (decide (x61 < (e_2.fDoes.length : Int))))], [.box (ApiDet.cl d) 73 false, .gone, .gone, .gone, mapI encS intT m4_2, rowI 179 MonoidElement.ty l5_2, rowI 3 intT ((e.fWord) ++ ([x42] : (List Int))), .gone, .box [.own 9, .own 6] 179 false, rowI 3 intT l9]⟩ (by kernel_rfl) ?_
 refine WL.nil ?_
 refine En.seq ?_
 refine En.cond (b := (decide (x61 < (e_2.fDoes.length : Int)))) (by kernel_rfl) (fun hb => ?_) (fun hb => ?_)
 replace h := h.1 hb
 refine En.skip ?_
 refine En.seq ?_
 refine En.block ?_
 refine En.seq ?_
 refine En.region ?_
 obtain ⟨e_3, he_3, h⟩ := h
 refine WL.val hn (by rfl) (val_index (T := intT) (l := e_2.fDoes) (i := x61) ht rfl (by rfl) (by rfl) (by rfl) (by rfl) (by rfl) (by rfl) he_3) (by rfl) ?_
 refine WL.val hn (by rfl) (val_load (s := .one (I e_3)) ht rfl (by rfl) (by rfl) (by rfl) (by rfl) (by rfl)) (by rfl) ?_
 refine WL.run ht hn 1 ⟨[sl 1 (.ptr 0 0), sl 5 (.own 4), sl 6 (.own 5), sl 7 (I x7), sl 8 (I x42), sl 9 (.ptr 8 0), sl 11 (I e_3), sl 41 (I d.fLetters), sl 42 (I x42), sl 59 (LS intT e_2.fDoes), sl 60 (I (e_2.fDoes.length : Int)), sl 61 (I x61)], [.box (ApiDet.cl d) 73 false, .gone, .gone, .gone, mapI encS intT m4_2, rowI 179 MonoidElement.ty l5_2, rowI 3 intT ((e.fWord) ++ ([x42] : (List Int))), .gone, .box [.own 9, .own 6] 179 false, rowI 3 intT l9]⟩ (by kernel_rfl) ?_
 refine WL.nil ?_
 obtain ⟨e_4, he_4, h⟩ := h
 obtain ⟨e_5, he_5, h⟩ := h
 have hp_2 := h.1
 replace h := h.2
 refine En.regionA ⟨[sl 1 (.ptr 0 0), sl 5 (.own 4), sl 6 (.own 5), sl 7 (I x7), sl 8 (I x42), sl 9 (.ptr 8 0), sl 11 (I e_3), sl 41 (I d.fLetters), sl 42 (I x42), sl 59 (LS intT e_2.fDoes), sl 60 (I (e_2.fDoes.length : Int)), sl 61 (I x61)], [.sv (.one (.ptr 8 0)), .sv (.one (.own 9)), .sv (.one (.ptr 0 2)), .sv (.one (LS (lsT intT) d.fNext)), .sv (.one (I e_3)), .sv (.one (.pe (svR (.one (LS intT e_4))) 1)), .sv (.one (LS intT e_4)), .sv (.one (I x42)), .sv (.one (.pe (svR (.one (I e_5))) 1)), .sv (.one (I e_5)), .sv (.one (LS intT ([e_5] : (List Int)))), .sv (.one (.own 10)), .sv (.one (.ptr 8 0)), .tup []], [⟨.box (ApiDet.cl d) 73 false, none, none, none⟩, ⟨.gone, none, none, none⟩, ⟨.gone, none, none, none⟩, ⟨.gone, none, none, none⟩, ⟨mapI encS intT m4_2, none, none, none⟩, ⟨rowI 179 MonoidElement.ty l5_2, none, none, none⟩, ⟨rowI 3 intT ((e.fWord) ++ ([x42] : (List Int))), none, none, none⟩, ⟨.gone, none, none, none⟩, ⟨.box [.own 9, .own 6] 179 false, none, none, some (13, .box [.own 10, .own 6] 179 false)⟩, ⟨rowI 3 intT l9, none, some 11, none⟩, ⟨rowI 3 intT (l9 ++ ([e_5] : (List Int))), some 11, none, none⟩]⟩ ⟨[sl 1 (.ptr 0 0), sl 5 (.own 4), sl 6 (.own 5), sl 7 (I x7), sl 8 (I x42), sl 9 (.ptr 8 0), sl 41 (I d.fLetters), sl 42 (I x42), sl 59 (LS intT e_2.fDoes), sl 60 (I (e_2.fDoes.length : Int)), sl 61 (I x61)], [.box (ApiDet.cl d) 73 false, .gone, .gone, .gone, mapI encS intT m4_2, rowI 179 MonoidElement.ty l5_2, rowI 3 intT ((e.fWord) ++ ([x42] : (List Int))), .gone, .box [.own 10, .own 6] 179 false, .gone, rowI 3 intT (l9 ++ ([e_5] : (List Int)))]⟩ (by kernel_rfl) hn (by kernel_rfl) (by rfl) (by kernel_rfl) ?_ (by kernel_rfl) ?_
 exact ⟨.mt ⟨[sl 9 (.ptr 8 0)], []⟩ [] none (by kernel_rfl) (by rfl) (mt_ev ht (by kernel_rfl)) rfl rfl rfl rfl,
 .mt ⟨[sl 65 (.ptr 8 0)], [.gone, .gone, .gone, .gone, .gone, .gone, .gone, .gone, .box [.own 9, .own 6] 179 false]⟩ [] none (by kernel_rfl) (by rfl) (mt_ev ht (by kernel_rfl)) rfl rfl rfl rfl,
 .mt ⟨[sl 1 (.ptr 0 0)], []⟩ [] none (by kernel_rfl) (by rfl) (mt_ev ht (by kernel_rfl)) rfl rfl rfl rfl,
 .mt ⟨[sl 67 (.ptr 0 2)], [.box (ApiDet.cl d) 73 false]⟩ [] none (by kernel_rfl) (by rfl) (mt_ev ht (by kernel_rfl)) rfl rfl rfl rfl,
 .mt ⟨[sl 11 (I e_3)], []⟩ [] none (by kernel_rfl) (by rfl) (mt_ev ht (by kernel_rfl)) rfl rfl rfl rfl,
 .mt ⟨[sl 68 (LS (lsT intT) d.fNext), sl 69 (I e_3)], []⟩ [] none (by kernel_rfl) (by rfl) (mt_val (val_index (T := (lsT intT)) (l := d.fNext) (i := e_3) ht rfl (by rfl) (by rfl) (by rfl) (by rfl) (by rfl) (by rfl) he_4)) rfl rfl rfl rfl,
 .mt ⟨[sl 70 (.pe (svR (.one (LS intT e_4))) 1)], []⟩ [] none (by kernel_rfl) (by rfl) (mt_val (val_load (s := .one (LS intT e_4)) ht rfl (by rfl) (by rfl) (by rfl) (by rfl) (by rfl))) rfl rfl rfl rfl,
 .mt ⟨[sl 8 (I x42)], []⟩ [] none (by kernel_rfl) (by rfl) (mt_ev ht (by kernel_rfl)) rfl rfl rfl rfl,
 .mt ⟨[sl 71 (LS intT e_4), sl 72 (I x42)], []⟩ [] none (by kernel_rfl) (by rfl) (mt_val (val_index (T := intT) (l := e_4) (i := x42) ht rfl (by rfl) (by rfl) (by rfl) (by rfl) (by rfl) (by rfl) he_5)) rfl rfl rfl rfl,
 .mt ⟨[sl 73 (.pe (svR (.one (I e_5))) 1)], []⟩ [] none (by kernel_rfl) (by rfl) (mt_val (val_load (s := .one (I e_5)) ht rfl (by rfl) (by rfl) (by rfl) (by rfl) (by rfl))) rfl rfl rfl rfl,
 .mt ⟨[sl 74 (I e_5)], []⟩ [] none (by kernel_rfl) (by rfl) (mt_seal (q := 10) (e := 3) (mt_lit (T := intT) ([e_5] : (List Int)) (mt_bsl 10 (r := cellsOf intT ([e_5] : (List Int))) ht rfl (by rfl) (by rfl) (by rfl) (by kernel_rfl) (by rfl)) (fun _ h => by cases h) (fun _ => rfl) (fun _ => rfl) (by rfl) (Nat.le_of_ble_eq_true rfl))) rfl rfl rfl rfl,
 .mt ⟨[sl 66 (.own 9), sl 75 (LS intT ([e_5] : (List Int)))], [.gone, .gone, .gone, .gone, .gone, .gone, .gone, .gone, .gone, rowI 3 intT l9]⟩ [9] (some 10) (by kernel_rfl) (by rfl) (mt_append (T := intT) (l := l9) (es := ([e_5] : (List Int))) (p := 10) ht rfl (by rfl) (by rfl) (by rfl) (by rfl) (by decide) (by rfl) (by rfl) (srcLS (T := intT) (es := ([e_5] : (List Int))) (fun _ h => by cases h) (by decide) (by rfl)) (by exact hp_2) (by exact hp_2.le (by decide))) rfl rfl rfl rfl,
 .mt ⟨[sl 9 (.ptr 8 0)], []⟩ [] none (by kernel_rfl) (by rfl) (mt_ev ht (by kernel_rfl)) rfl rfl rfl rfl,
 .mu ⟨[sl 76 (.own 10), sl 77 (.ptr 8 0)], [.gone, .gone, .gone, .gone, .gone, .gone, .gone, .gone, .box [.own 9, .own 6] 179 false]⟩ 8 _ _ rfl rfl (by kernel_rfl) (by rfl) (mu_store2 ht rfl (by rfl) (by rfl) (by rfl) (by rfl) (fun h => by cases h) (by rfl) (by rfl)) rfl rfl rfl rfl rfl rfl rfl,
 trivial⟩
 refine En.region ?_
 refine WL.run ht hn 2 ⟨[sl 1 (.ptr 0 0), sl 5 (.own 4), sl 6 (.own 5), sl 7 (I x7), sl 8 (I x42), sl 9 (.ptr 8 0), sl 41 (I d.fLetters), sl 42 (I x42), sl 59 (LS intT e_2.fDoes), sl 60 (I (e_2.fDoes.length : Int)), sl 61 (I (wr (x61 + 1)))], [.box (ApiDet.cl d) 73 false, .gone, .gone, .gone, mapI encS intT m4_2, rowI 179 MonoidElement.ty l5_2, rowI 3 intT ((e.fWord) ++ ([x42] : (List Int))), .gone, .box [.own 10, .own 6] 179 false, .gone, rowI 3 intT (l9 ++ ([e_5] : (List Int)))]⟩ (by kernel_rfl) ?_
 refine WL.nil ?_
 refine En.move 10 9 (by rfl) (by rfl) ?_
 exact En.at (I := fun zz => Inv_4 zz.1 zz.2 ∧ mu_4 zz.1 zz.2 < mu_4 x61 l9) (T := fun zz => ⟨[sl 1 (.ptr 0 0), sl 5 (.own 4), sl 6 (.own 5), sl 7 (I x7), sl 8 (I x42), sl 9 (.ptr 8 0), sl 41 (I d.fLetters), sl 42 (I x42), sl 59 (LS intT e_2.fDoes), sl 60 (I (e_2.fDoes.length : Int)), sl 61 (I zz.1)], [.box (ApiDet.cl d) 73 false, .gone, .gone, .gone, mapI encS intT m4_2, rowI 179 MonoidElement.ty l5_2, rowI 3 intT ((e.fWord) ++ ([x42] : (List Int))), .gone, .box [.own 9, .own 6] 179 false, rowI 3 intT zz.2]⟩) ((wr (x61 + 1)), (l9 ++ ([e_5] : (List Int)))) h (by kernel_rfl)
 replace h := h.2 hb
 refine En.exit rfl ?_
 refine En.seq ?_
 refine En.region ?_
 refine WL.run ht hn 2 ⟨[sl 1 (.ptr 0 0), sl 5 (.own 4), sl 6 (.own 5), sl 7 (I x7), sl 9 (.ptr 8 0), sl 41 (I d.fLetters), sl 42 (I x42), sl 80 (.own 9)], [.box (ApiDet.cl d) 73 false, .gone, .gone, .gone, mapI encS intT m4_2, rowI 179 MonoidElement.ty l5_2, rowI 3 intT ((e.fWord) ++ ([x42] : (List Int))), .gone, .box [.own 9, .own 6] 179 false, rowI 3 intT l9]⟩ (by kernel_rfl) ?_
 refine WL.seal (T := intT) (l := l9) (e := 3) 9 rfl ?_
 refine WL.run ht hn 0 ⟨[sl 1 (.ptr 0 0), sl 5 (.own 4), sl 6 (.own 5), sl 7 (I x7), sl 9 (.ptr 8 0), sl 41 (I d.fLetters), sl 42 (I x42), sl 80 (LS intT l9)], [.box (ApiDet.cl d) 73 false, .gone, .gone, .gone, mapI encS intT m4_2, rowI 179 MonoidElement.ty l5_2, rowI 3 intT ((e.fWord) ++ ([x42] : (List Int))), .gone, .box [LS intT l9, .own 6] 179 false, .gone]⟩ (by kernel_rfl) ?_
 have hp := h.1
 replace h := h.2
 refine WL.mt0 (K := []) (p := none) hn (by rfl) (mt_call (detKey_ct l9 hp) en115 (caps := []) [] rfl (by rfl) (by kernel_rfl) (by kernel_rfl) (by rfl) (by rfl) (by rfl)) (by rfl) (by rfl) (by rfl) ?_
 refine WL.run ht hn 1 ⟨[sl 1 (.ptr 0 0), sl 5 (.own 4), sl 6 (.own 5), sl 7 (I x7), sl 9 (.ptr 8 0), sl 12 (.v (.string (keyR l9))), sl 41 (I d.fLetters), sl 42 (I x42)], [.box (ApiDet.cl d) 73 false, .gone, .gone, .gone, mapI encS intT m4_2, rowI 179 MonoidElement.ty l5_2, rowI 3 intT ((e.fWord) ++ ([x42] : (List Int))), .gone, .box [LS intT l9, .own 6] 179 false, .gone]⟩ (by kernel_rfl) ?_
 refine WL.nil ?_
 refine En.seq ?_
 refine En.region ?_
 refine WL.run ht hn 2 ⟨[sl 1 (.ptr 0 0), sl 5 (.own 4), sl 6 (.own 5), sl 7 (I x7), sl 9 (.ptr 8 0), sl 12 (.v (.string (keyR l9))), sl 41 (I d.fLetters), sl 42 (I x42), sl 82 (.own 4), sl 83 (.v (.string (keyR l9)))], [.box (ApiDet.cl d) 73 false, .gone, .gone, .gone, mapI encS intT m4_2, rowI 179 MonoidElement.ty l5_2, rowI 3 intT ((e.fWord) ++ ([x42] : (List Int))), .gone, .box [LS intT l9, .own 6] 179 false, .gone]⟩ (by kernel_rfl) ?_
 refine WL.val hn (by rfl) (val_lookup (T := intT) (D := m4_2) keyS9 (k := (keyR l9)) (ok := false) (0 : Int) (zv := (.int .i64 0)) rfl Try.underlying119 (fun _ => by kernel_rfl) (fun _ => ⟨rfl, trivial⟩) (mapAs encS intT m4_2) (by rfl) (by rfl) (by rfl) (fun _ => rfl)) (by rfl) ?_
 refine WL.run ht hn 1 ⟨[sl 1 (.ptr 0 0), sl 5 (.own 4), sl 6 (.own 5), sl 7 (I x7), sl 9 (.ptr 8 0), sl 12 (.v (.string (keyR l9))), sl 41 (I d.fLetters), sl 42 (I x42), sl 85 (B (((mget (keyR l9) m4_2).getD (0 : Int)) == 0))], [.box (ApiDet.cl d) 73 false, .gone, .gone, .gone, mapI encS intT m4_2, rowI 179 MonoidElement.ty l5_2, rowI 3 intT ((e.fWord) ++ ([x42] : (List Int))), .gone, .box [LS intT l9, .own 6] 179 false, .gone]⟩ (by kernel_rfl) ?_
 refine WL.nil ?_
 refine En.cond (b := (((mget (keyR l9) m4_2).getD (0 : Int)) == 0)) (by kernel_rfl) (fun hb => ?_) (fun hb => ?_)
 replace h := h.1 hb
 refine En.seq ?_
 refine En.region ?_
 refine WL.run ht hn 2 ⟨[sl 1 (.ptr 0 0), sl 5 (.own 4), sl 7 (I x7), sl 12 (.v (.string (keyR l9))), sl 41 (I d.fLetters), sl 42 (I x42), sl 86 (.own 5), (87, .sv (.agg [LS intT l9, .own 6]))], [.box (ApiDet.cl d) 73 false, .gone, .gone, .gone, mapI encS intT m4_2, rowI 179 MonoidElement.ty l5_2, rowI 3 intT ((e.fWord) ++ ([x42] : (List Int))), .gone, .gone, .gone]⟩ (by kernel_rfl) ?_
 refine WL.seal (T := intT) (l := ((e.fWord) ++ ([x42] : (List Int)))) (e := 3) 6 rfl ?_
 refine WL.run ht hn 0 ⟨[sl 1 (.ptr 0 0), sl 5 (.own 4), sl 7 (I x7), sl 12 (.v (.string (keyR l9))), sl 41 (I d.fLetters), sl 42 (I x42), sl 86 (.own 5), (87, .sv (.agg [LS intT l9, LS intT ((e.fWord) ++ ([x42] : (List Int)))]))], [.box (ApiDet.cl d) 73 false, .gone, .gone, .gone, mapI encS intT m4_2, rowI 179 MonoidElement.ty l5_2, .gone, .gone, .gone, .gone]⟩ (by kernel_rfl) ?_
 refine WL.mt0 (K := []) (p := some (10, rowI 179 MonoidElement.ty ([(MonoidElement.mk l9 ((e.fWord) ++ ([x42] : (List Int))))] : (qelems0)))) hn (by rfl) (mt_lit (T := MonoidElement.ty) ([(MonoidElement.mk l9 ((e.fWord) ++ ([x42] : (List Int))))] : (qelems0)) (mt_bsl 10 (r := cellsOf MonoidElement.ty ([(MonoidElement.mk l9 ((e.fWord) ++ ([x42] : (List Int))))] : (qelems0))) ht rfl (by rfl) (by rfl) (by rfl) (by kernel_rfl) (by rfl)) (fun _ h => by cases h) (fun _ => rfl) (fun _ => rfl) (by rfl) (Nat.le_of_ble_eq_true rfl)) (by rfl) (by rfl) (by rfl) ?_
 refine WL.seal (T := MonoidElement.ty) (l := ([(MonoidElement.mk l9 ((e.fWord) ++ ([x42] : (List Int))))] : (qelems0))) (e := 179) 10 rfl ?_
 refine WL.run ht hn 0 ⟨[sl 1 (.ptr 0 0), sl 5 (.own 4), sl 7 (I x7), sl 12 (.v (.string (keyR l9))), sl 41 (I d.fLetters), sl 42 (I x42), sl 86 (.own 5), (87, .sv (.agg [LS intT l9, LS intT ((e.fWord) ++ ([x42] : (List Int)))])), sl 88 (LS MonoidElement.ty ([(MonoidElement.mk l9 ((e.fWord) ++ ([x42] : (List Int))))] : (qelems0)))], [.box (ApiDet.cl d) 73 false, .gone, .gone, .gone, mapI encS intT m4_2, rowI 179 MonoidElement.ty l5_2, .gone, .gone, .gone, .gone, .gone]⟩ (by kernel_rfl) ?_
 have hp := h.1
 replace h := h.2
 refine WL.mt (S2 := ⟨[sl 1 (.ptr 0 0), sl 5 (.own 4), sl 7 (I x7), sl 12 (.v (.string (keyR l9))), sl 41 (I d.fLetters), sl 42 (I x42), (87, .sv (.agg [LS intT l9, LS intT ((e.fWord) ++ ([x42] : (List Int)))])), sl 88 (LS MonoidElement.ty ([(MonoidElement.mk l9 ((e.fWord) ++ ([x42] : (List Int))))] : (qelems0)))], [.box (ApiDet.cl d) 73 false, .gone, .gone, .gone, mapI encS intT m4_2, rowI 179 MonoidElement.ty l5_2, .gone, .gone, .gone, .gone, .gone]⟩) (K := [5]) (p := some (5, rowI 179 MonoidElement.ty (l5_2 ++ ([(MonoidElement.mk l9 ((e.fWord) ++ ([x42] : (List Int))))] : (qelems0))))) hn (by rfl) (mt_append (T := MonoidElement.ty) (l := l5_2) (es := ([(MonoidElement.mk l9 ((e.fWord) ++ ([x42] : (List Int))))] : (qelems0))) ht rfl (by rfl) (by rfl) (by rfl) (by rfl) (by decide) (by rfl) (by rfl) (srcLS (T := MonoidElement.ty) (es := ([(MonoidElement.mk l9 ((e.fWord) ++ ([x42] : (List Int))))] : (qelems0))) (fun _ h => by cases h) (by decide) (by rfl)) (by exact hp) (by exact hp.le (by decide))) (by kernel_rfl) (by rfl) (by rfl) (by rfl) ?_
 refine WL.run ht hn 1 ⟨[sl 1 (.ptr 0 0), sl 5 (.own 4), sl 6 (.own 5), sl 7 (I x7), sl 12 (.v (.string (keyR l9))), sl 41 (I d.fLetters), sl 42 (I x42)], [.box (ApiDet.cl d) 73 false, .gone, .gone, .gone, mapI encS intT m4_2, rowI 179 MonoidElement.ty (l5_2 ++ ([(MonoidElement.mk l9 ((e.fWord) ++ ([x42] : (List Int))))] : (qelems0))), .gone, .gone, .gone, .gone, .gone]⟩ (by kernel_rfl) ?_
 refine WL.nil ?_
 refine En.region ?_
 refine WL.run ht hn 4 ⟨[sl 1 (.ptr 0 0), sl 5 (.own 4), sl 6 (.own 5), sl 7 (I x7), sl 41 (I d.fLetters), sl 42 (I x42), sl 90 (.own 4), sl 91 (.v (.string (keyR l9))), sl 93 (I ((l5_2 ++ ([(MonoidElement.mk l9 ((e.fWord) ++ ([x42] : (List Int))))] : (qelems0))).length : Int))], [.box (ApiDet.cl d) 73 false, .gone, .gone, .gone, mapI encS intT m4_2, rowI 179 MonoidElement.ty (l5_2 ++ ([(MonoidElement.mk l9 ((e.fWord) ++ ([x42] : (List Int))))] : (qelems0))), .gone, .gone, .gone, .gone, .gone]⟩ (by kernel_rfl) ?_
 refine WL.mapPut (T := intT) keyS9 (k := (keyR l9)) (y := ((l5_2 ++ ([(MonoidElement.mk l9 ((e.fWord) ++ ([x42] : (List Int))))] : (qelems0))).length : Int)) hn (by rfl) (.inl rfl) Try.underlying119 (by rfl) (by rfl) (by rfl) (by rfl) (by rfl) (by rfl) ?_
 refine WL.nil ?_
 exact En.at (I := fun zz => J zz.1 zz.2) (T := fun zz => ⟨[sl 1 (.ptr 0 0), sl 5 (.own 4), sl 6 (.own 5), sl 7 (I x7), sl 41 (I d.fLetters), sl 42 (I x42)], [.box (ApiDet.cl d) 73 false, .gone, .gone, .gone, mapI encS intT zz.1, rowI 179 MonoidElement.ty zz.2, .gone, .gone, .gone, .gone]⟩) ((mput (keyR l9) ((l5_2 ++ ([(MonoidElement.mk l9 ((e.fWord) ++ ([x42] : (List Int))))] : (qelems0))).length : Int) m4_2), (l5_2 ++ ([(MonoidElement.mk l9 ((e.fWord) ++ ([x42] : (List Int))))] : (qelems0)))) h (by kernel_rfl)
 replace h := h.2 hb
 refine En.skip ?_
 exact En.at (I := fun zz => J zz.1 zz.2) (T := fun zz => ⟨[sl 1 (.ptr 0 0), sl 5 (.own 4), sl 6 (.own 5), sl 7 (I x7), sl 41 (I d.fLetters), sl 42 (I x42)], [.box (ApiDet.cl d) 73 false, .gone, .gone, .gone, mapI encS intT zz.1, rowI 179 MonoidElement.ty zz.2, .gone, .gone, .gone, .gone]⟩) (m4_2, l5_2) h (by kernel_rfl)
 rintro ⟨m4_3, l5_3⟩ h
 replace h := hJ _ _ h
 show En c ⟨[sl 1 (.ptr 0 0), sl 5 (.own 4), sl 6 (.own 5), sl 7 (I x7), sl 41 (I d.fLetters), sl 42 (I x42)], [.box (ApiDet.cl d) 73 false, .gone, .gone, .gone, mapI encS intT m4_3, rowI 179 MonoidElement.ty l5_3, .gone, .gone, .gone, .gone]⟩ _
 refine En.region ?_
 refine WL.run ht hn 2 ⟨[sl 1 (.ptr 0 0), sl 5 (.own 4), sl 6 (.own 5), sl 7 (I x7), sl 41 (I d.fLetters), sl 42 (I (wr (x42 + 1)))], [.box (ApiDet.cl d) 73 false, .gone, .gone, .gone, mapI encS intT m4_3, rowI 179 MonoidElement.ty l5_3, .gone, .gone, .gone, .gone]⟩ (by kernel_rfl) ?_
 refine WL.nil ?_
 exact En.at (I := fun zz => Inv_3 zz.1 zz.2.1 zz.2.2 ∧ mu_3 zz.1 zz.2.1 zz.2.2 < mu_3 x42 m4_2 l5_2) (T := fun zz => ⟨[sl 1 (.ptr 0 0), sl 5 (.own 4), sl 6 (.own 5), sl 7 (I x7), sl 41 (I d.fLetters), sl 42 (I zz.1)], [.box (ApiDet.cl d) 73 false, .gone, .gone, .gone, mapI encS intT zz.2.1, rowI 179 MonoidElement.ty zz.2.2]⟩) ((wr (x42 + 1)), m4_3, l5_3) h (by kernel_rfl)
 replace h := h.2 hb
 refine En.exit rfl ?_
 refine En.region ?_
 refine WL.run ht hn 3 ⟨[sl 1 (.ptr 0 0), sl 5 (.own 4), sl 6 (.own 5), sl 7 (I (wr (x7 + 1)))], [.box (ApiDet.cl d) 73 false, .gone, .gone, .gone, mapI encS intT m4_2, rowI 179 MonoidElement.ty l5_2]⟩ (by kernel_rfl) ?_
 refine WL.nil ?_
 exact En.at (I := fun zz => Inv_2 zz.1 zz.2.1 zz.2.2 ∧ mu_2 zz.1 zz.2.1 zz.2.2 < mu_2 x7 m4 l5) (T := fun zz => ⟨[sl 1 (.ptr 0 0), sl 5 (.own 4), sl 6 (.own 5), sl 7 (I zz.1)], [.box (ApiDet.cl d) 73 false, .gone, .gone, .gone, mapI encS intT zz.2.1, rowI 179 MonoidElement.ty zz.2.2]⟩) ((wr (x7 + 1)), m4_2, l5_2) h (by kernel_rfl)
 replace h := h.2 hb
 refine En.exit rfl ?_
 refine En.seq ?_
 refine En.region ?_
 refine WL.run ht hn 2 ⟨[sl 2 (.own 5)], [.gone, .gone, .gone, .gone, .gone, rowI 179 MonoidElement.ty l5]⟩ (by kernel_rfl) ?_
 refine WL.nil ?_
 refine En.ret ?_
 refine En.seal (T := MonoidElement.ty) (l := l5) (e := 179) 5 rfl ?_
 exact En.back ht l5 h (by kernel_rfl) rfl
theorem en87 : ∀ args w, (callFunc 87 args).run Try.prog w = .ok (.enter 87 args) w := enters_of Try.func87 (by kernel_rfl) rfl
def detSeeks_vc (first : DetCouple) (letters : Int) (domnxt : ((DetCouple × Int) → Prop)) (nxt : ((DetCouple × Int) → DetCouple)) (domok : (DetCouple → Prop)) (ok : (DetCouple → Bool)) (Q : ((List Int) × Bool) → Prop) : Prop :=
 ∃ (Inv : (List (DetCouple × (List Int))) → (List DetCouple) → Prop) (mu : (List (DetCouple × (List Int))) → (List DetCouple) → Nat), Inv (mput first ([] : (List Int)) ([] : List (DetCouple × (List Int)))) ([first] : (List DetCouple)) ∧
 ∀ (m1 : (List (DetCouple × (List Int)))) (l3 : (List DetCouple)) , Inv m1 l3 → (IfP (decide ((l3.length : Int) > 0)) (∃ e, idx l3 0 = some e ∧
 (domok e) ∧
 IfP (ok e) (∃ e_2, idx l3 0 = some e_2 ∧
 Q (((mget e_2 m1).getD []), true)) (∃ (Inv_2 : Int → (List (DetCouple × (List Int))) → (List DetCouple) → Prop) (mu_2 : Int → (List (DetCouple × (List Int))) → (List DetCouple) → Nat), Inv_2 0 m1 l3 ∧
 ∀ (x38 : Int) (m1_2 : (List (DetCouple × (List Int)))) (l3_2 : (List DetCouple)) , Inv_2 x38 m1_2 l3_2 → (IfP (decide (x38 < letters)) (∃ J : (List (DetCouple × (List Int))) → (List DetCouple) → Prop, (∃ e_3, idx l3_2 0 = some e_3 ∧
 (domnxt (e_3, x38)) ∧
 IfP (!(mget (nxt (e_3, x38)) m1_2).isSome) (∃ e_4, idx l3_2 0 = some e_4 ∧
 (((mget e_4 m1_2).getD []).length * 8 ≤ 140737488355328) ∧
 capOk (((mget e_4 m1_2).getD [])).length (([x38] : (List Int)) : (List Int)).length 8 ∧
 capOk l3_2.length (([(nxt (e_3, x38))] : (List DetCouple)) : (List DetCouple)).length 16 ∧
 J (mput (nxt (e_3, x38)) ((((mget e_4 m1_2).getD [])) ++ ([x38] : (List Int))) m1_2) (l3_2 ++ ([(nxt (e_3, x38))] : (List DetCouple)))) (J m1_2 l3_2)) ∧
 (∀ (m1_3 : (List (DetCouple × (List Int)))) (l3_3 : (List DetCouple)), J m1_3 l3_3 → (Inv_2 (wr (x38 + 1)) m1_3 l3_3 ∧ mu_2 (wr (x38 + 1)) m1_3 l3_3 < mu_2 x38 m1_2 l3_2))) ((0 ≤ (1 : Int) ∧ (1 : Int) ≤ (l3_2.length : Int)) ∧
 (Inv m1_2 (l3_2.drop (1 : Int).toNat) ∧ mu m1_2 (l3_2.drop (1 : Int).toNat) < mu m1 l3))))) (Q ([], false)))
theorem detSeeks_walk (first : DetCouple) (letters : Int) (domnxt : ((DetCouple × Int) → Prop)) (nxt : ((DetCouple × Int) → DetCouple)) (domok : (DetCouple → Prop)) (ok : (DetCouple → Bool)) (Q : ((List Int) × Bool) → Prop) (h : detSeeks_vc first letters domnxt nxt domok ok Q) : Ct 83 [.sv (.agg [I first.fE0, I first.fE1]), .sv (.one (I letters)), .sv (.one (.rd (fvR (fun (x : (DetCouple × Int)) => [.sv (.agg [I x.1.fE0, I x.1.fE1]), .sv (.one (I x.2))]) (fun (r : DetCouple) => .sv (.agg [I r.fE0, I r.fE1])) domnxt nxt))), .sv (.one (.rd (fvR (fun (x : DetCouple) => [.sv (.agg [I x.fE0, I x.fE1])]) (fun (r : Bool) => .sv (.one (B r))) domok ok)))] [] Q (fun (r : ((List Int) × Bool)) => .tup [.one (LS intT r.1), .one (B r.2)]) := by
  have ht := tab_ok
  refine Ct.body Try.func83 rfl rfl rfl rfl (fun c hn => ?_)
  unfold detSeeks_vc at h
  refine En.seq ?_
  refine En.region ?_
  refine WL.run ht hn 3 ⟨[sl 1 (I letters), sl 2 (.rd (fvR (fun (x : (DetCouple × Int)) => [.sv (.agg (DetCouple.cl x.1)), .sv (.one (I x.2))]) (fun (r : DetCouple) => .sv (.agg (DetCouple.cl r))) domnxt nxt)), sl 3 (.rd (fvR (fun (x : DetCouple) => [.sv (.agg (DetCouple.cl x))]) (fun (r : Bool) => .sv (.one (B r))) domok ok)), sl 4 (.ptr 0 0)], [.box (DetCouple.cl first) 169 false]⟩ (by kernel_rfl) ?_
  refine WL.nil ?_
  refine En.seq ?_
  refine En.region ?_
  refine WL.mt0 (K := []) (p := some (1, mapI DetCouple.enc (lsT intT) ([] : List (DetCouple × (List Int))))) hn (by rfl) (mt_makeMap DetCouple.enc (lsT intT) 1 rfl) (by rfl) (by rfl) (by rfl) ?_
  refine WL.run ht hn 1 ⟨[sl 1 (I letters), sl 2 (.rd (fvR (fun (x : (DetCouple × Int)) => [.sv (.agg (DetCouple.cl x.1)), .sv (.one (I x.2))]) (fun (r : DetCouple) => .sv (.agg (DetCouple.cl r))) domnxt nxt)), sl 3 (.rd (fvR (fun (x : DetCouple) => [.sv (.agg (DetCouple.cl x))]) (fun (r : Bool) => .sv (.one (B r))) domok ok)), sl 4 (.ptr 0 0), sl 16 (.own 1), (17, .sv (.agg (DetCouple.cl first)))], [.box (DetCouple.cl first) 169 false, mapI DetCouple.enc (lsT intT) ([] : List (DetCouple × (List Int)))]⟩ (by kernel_rfl) ?_
  refine WL.mt0 (K := []) (p := some (2, rowI 3 intT ([] : (List Int)))) hn (by rfl) (mt_empty intT 2 ht rfl (by rfl) (by rfl) (by rfl)) (by rfl) (by rfl) (by rfl) ?_
  refine WL.seal (T := intT) (l := ([] : (List Int))) (e := 3) 2 rfl ?_
  refine WL.run ht hn 0 ⟨[sl 1 (I letters), sl 2 (.rd (fvR (fun (x : (DetCouple × Int)) => [.sv (.agg (DetCouple.cl x.1)), .sv (.one (I x.2))]) (fun (r : DetCouple) => .sv (.agg (DetCouple.cl r))) domnxt nxt)), sl 3 (.rd (fvR (fun (x : DetCouple) => [.sv (.agg (DetCouple.cl x))]) (fun (r : Bool) => .sv (.one (B r))) domok ok)), sl 4 (.ptr 0 0), sl 16 (.own 1), (17, .sv (.agg (DetCouple.cl first))), sl 18 (LS intT ([] : (List Int)))], [.box (DetCouple.cl first) 169 false, mapI DetCouple.enc (lsT intT) ([] : List (DetCouple × (List Int))), .gone]⟩ (by kernel_rfl) ?_
  refine WL.mapPut (T := (lsT intT)) DetCouple.keyLaw (k := first) (y := ([] : (List Int))) hn (by rfl) (.inr rfl) Try.underlying280 (by rfl) (by rfl) (by rfl) (by rfl) (by rfl) (by rfl) ?_
  refine WL.run ht hn 2 ⟨[sl 1 (I letters), sl 2 (.rd (fvR (fun (x : (DetCouple × Int)) => [.sv (.agg (DetCouple.cl x.1)), .sv (.one (I x.2))]) (fun (r : DetCouple) => .sv (.agg (DetCouple.cl r))) domnxt nxt)), sl 3 (.rd (fvR (fun (x : DetCouple) => [.sv (.agg (DetCouple.cl x))]) (fun (r : Bool) => .sv (.one (B r))) domok ok)), sl 4 (.ptr 0 0), sl 10 (.own 1)], [.box (DetCouple.cl first) 169 false, mapI DetCouple.enc (lsT intT) (mput first ([] : (List Int)) ([] : List (DetCouple × (List Int)))), .gone]⟩ (by kernel_rfl) ?_
  refine WL.nil ?_
  refine En.seq ?_
  refine En.seq ?_
  refine En.region ?_
  refine WL.run ht hn 1 ⟨[sl 1 (I letters), sl 2 (.rd (fvR (fun (x : (DetCouple × Int)) => [.sv (.agg (DetCouple.cl x.1)), .sv (.one (I x.2))]) (fun (r : DetCouple) => .sv (.agg (DetCouple.cl r))) domnxt nxt)), sl 3 (.rd (fvR (fun (x : DetCouple) => [.sv (.agg (DetCouple.cl x))]) (fun (r : Bool) => .sv (.one (B r))) domok ok)), sl 10 (.own 1), (20, .sv (.agg (DetCouple.cl first)))], [.gone, mapI DetCouple.enc (lsT intT) (mput first ([] : (List Int)) ([] : List (DetCouple × (List Int)))), .gone]⟩ (by kernel_rfl) ?_
  refine WL.mt0 (K := []) (p := some (3, rowI 169 DetCouple.ty ([first] : (List DetCouple)))) hn (by rfl) (mt_lit (T := DetCouple.ty) ([first] : (List DetCouple)) (mt_bsl 3 (r := cellsOf DetCouple.ty ([first] : (List DetCouple))) ht rfl (by rfl) (by rfl) (by rfl) (by kernel_rfl) (by rfl)) (fun _ h => by cases h) (fun _ => rfl) (fun _ => rfl) (by rfl) (Nat.le_of_ble_eq_true rfl)) (by rfl) (by rfl) (by rfl) ?_
  refine WL.run ht hn 1 ⟨[sl 1 (I letters), sl 2 (.rd (fvR (fun (x : (DetCouple × Int)) => [.sv (.agg (DetCouple.cl x.1)), .sv (.one (I x.2))]) (fun (r : DetCouple) => .sv (.agg (DetCouple.cl r))) domnxt nxt)), sl 3 (.rd (fvR (fun (x : DetCouple) => [.sv (.agg (DetCouple.cl x))]) (fun (r : Bool) => .sv (.one (B r))) domok ok)), sl 10 (.own 1), sl 11 (.own 3)], [.gone, mapI DetCouple.enc (lsT intT) (mput first ([] : (List Int)) ([] : List (DetCouple × (List Int)))), .gone, rowI 169 DetCouple.ty ([first] : (List DetCouple))]⟩ (by kernel_rfl) ?_
  refine WL.nil ?_
  refine En.block ?_
  obtain ⟨Inv, mu, h0_2, hI_2⟩ := h
  refine En.loop (σ := (List (DetCouple × (List Int))) × (List DetCouple)) (fun zz => Inv zz.1 zz.2) (fun zz => mu zz.1 zz.2) (fun zz => ⟨[sl 1 (I letters), sl 2 (.rd (fvR (fun (x : (DetCouple × Int)) => [.sv (.agg (DetCouple.cl x.1)), .sv (.one (I x.2))]) (fun (r : DetCouple) => .sv (.agg (DetCouple.cl r))) domnxt nxt)), sl 3 (.rd (fvR (fun (x : DetCouple) => [.sv (.agg (DetCouple.cl x))]) (fun (r : Bool) => .sv (.one (B r))) domok ok)), sl 10 (.own 1), sl 11 (.own 3)], [.gone, mapI DetCouple.enc (lsT intT) zz.1, .gone, rowI 169 DetCouple.ty zz.2]⟩) ((mput first ([] : (List Int)) ([] : List (DetCouple × (List Int)))), ([first] : (List DetCouple))) h0_2 (sub_ok (by kernel_rfl)) ?_
  rintro ⟨m1, l3⟩ h
  replace h := hI_2 _ _ h
  show En c ⟨[sl 1 (I letters), sl 2 (.rd (fvR (fun (x : (DetCouple × Int)) => [.sv (.agg (DetCouple.cl x.1)), .sv (.one (I x.2))]) (fun (r : DetCouple) => .sv (.agg (DetCouple.cl r))) domnxt nxt)), sl 3 (.rd (fvR (fun (x : DetCouple) => [.sv (.agg (DetCouple.cl x))]) (fun (r : Bool) => .sv (.one (B r))) domok ok)), sl 10 (.own 1), sl 11 (.own 3)], [.gone, mapI DetCouple.enc (lsT intT) m1, .gone, rowI 169 DetCouple.ty l3]⟩ _
  refine En.seq ?_
  refine En.seq ?_
  refine En.region ?_
  refine WL.run ht hn 3 ⟨[sl 1 (I letters), sl 2 (.rd (fvR (fun (x : (DetCouple × Int)) => [.sv (.agg (DetCouple.cl x.1)), .sv (.one (I x.2))]) (fun (r : DetCouple) => .sv (.agg (DetCouple.cl r))) domnxt nxt)), sl 3 (.rd (fvR (fun (x : DetCouple) => [.sv (.agg (DetCouple.cl x))]) (fun (r : Bool) => .sv (.one (B r))) domok ok)), sl 10 (.own 1), sl 11 (.own 3), sl 24 (B (decide ((l3.length : Int) > 0)))], [.gone, mapI DetCouple.enc (lsT intT) m1, .gone, rowI 169 DetCouple.ty l3]⟩ (by kernel_rfl) ?_
  refine WL.nil ?_
  refine En.cond (b := (decide ((l3.length : Int) > 0))) (by kernel_rfl) (fun hb => ?_) (fun hb => ?_)
  · replace h := h.1 hb
    refine En.skip ?_
    refine En.seq ?_
    refine En.block ?_
    refine En.seq ?_
    refine En.seq ?_
    refine En.region ?_
    refine WL.run ht hn 2 ⟨[sl 1 (I letters), sl 2 (.rd (fvR (fun (x : (DetCouple × Int)) => [.sv (.agg (DetCouple.cl x.1)), .sv (.one (I x.2))]) (fun (r : DetCouple) => .sv (.agg (DetCouple.cl r))) domnxt nxt)), sl 3 (.rd (fvR (fun (x : DetCouple) => [.sv (.agg (DetCouple.cl x))]) (fun (r : Bool) => .sv (.one (B r))) domok ok)), sl 10 (.own 1), sl 11 (.own 3), sl 27 (.rd (fvR (fun (x : DetCouple) => [.sv (.agg (DetCouple.cl x))]) (fun (r : Bool) => .sv (.one (B r))) domok ok)), sl 28 (.own 3)], [.gone, mapI DetCouple.enc (lsT intT) m1, .gone, rowI 169 DetCouple.ty l3]⟩ (by kernel_rfl) ?_
    obtain ⟨e, he, h⟩ := h
    refine WL.val hn (by rfl) (val_indexO (T := DetCouple.ty) (l := l3) (k := 0) ht rfl (by rfl) (by rfl) (by rfl) (by rfl) (by decide) (by rfl) (by rfl) (by rfl) he) (by rfl) ?_
    refine WL.val hn (by rfl) (val_loadO (T := DetCouple.ty) (l := l3) (y := e) ht rfl (by rfl) (by rfl) (by rfl) (by rfl) (by rfl) (idx_some he).2.2 (by rfl)) (by rfl) ?_
    have hp := h.1
    replace h := h.2
    refine WL.mt0 (K := []) (p := none) hn (by rfl) (mt_callv e hp rfl (by rfl) (by rfl) (by rfl) (by rfl)) (by rfl) (by rfl) (by rfl) ?_
    refine WL.nil ?_
    refine En.cond (b := (ok e)) (by kernel_rfl) (fun hb => ?_) (fun hb => ?_)
    · replace h := h.1 hb
      refine En.seq ?_
      refine En.region ?_
      refine WL.run ht hn 2 ⟨[sl 32 (.own 1), sl 33 (.own 3)], [.gone, mapI DetCouple.enc (lsT intT) m1, .gone, rowI 169 DetCouple.ty l3]⟩ (by kernel_rfl) ?_
      obtain ⟨e_2, he_2, h⟩ := h
      refine WL.val hn (by rfl) (val_indexO (T := DetCouple.ty) (l := l3) (k := 0) ht rfl (by rfl) (by rfl) (by rfl) (by rfl) (by decide) (by rfl) (by rfl) (by rfl) he_2) (by rfl) ?_
      refine WL.val hn (by rfl) (val_loadO (T := DetCouple.ty) (l := l3) (y := e_2) ht rfl (by rfl) (by rfl) (by rfl) (by rfl) (by rfl) (idx_some he_2).2.2 (by rfl)) (by rfl) ?_
      refine WL.val hn (by rfl) (val_lookup (T := (lsT intT)) (D := m1) DetCouple.keyLaw (k := e_2) (ok := false) [] (zv := (.slice none 0 0)) rfl Try.underlying280 (fun _ => by kernel_rfl) (fun _ => ls_nil) (mapAs DetCouple.enc (lsT intT) m1) (by rfl) (by rfl) (by rfl) (fun _ => rfl)) (by rfl) ?_
      refine WL.run ht hn 2 ⟨[sl 8 (LS intT ((mget e_2 m1).getD [])), sl 9 (B true)], [.gone, .gone, .gone, .gone]⟩ (by kernel_rfl) ?_
      refine WL.nil ?_
      refine En.ret ?_
      exact En.back ht (((mget e_2 m1).getD []), true) h (by kernel_rfl) rfl
    · replace h := h.2 hb
      refine En.skip ?_
      refine En.seq ?_
      refine En.region ?_
      refine WL.run ht hn 2 ⟨[sl 1 (I letters), sl 2 (.rd (fvR (fun (x : (DetCouple × Int)) => [.sv (.agg (DetCouple.cl x.1)), .sv (.one (I x.2))]) (fun (r : DetCouple) => .sv (.agg (DetCouple.cl r))) domnxt nxt)), sl 3 (.rd (fvR (fun (x : DetCouple) => [.sv (.agg (DetCouple.cl x))]) (fun (r : Bool) => .sv (.one (B r))) domok ok)), sl 10 (.own 1), sl 11 (.own 3), sl 37 (I letters), sl 38 (I 0)], [.gone, mapI DetCouple.enc (lsT intT) m1, .gone, rowI 169 DetCouple.ty l3]⟩ (by kernel_rfl) ?_
      refine WL.nil ?_
      refine En.block ?_
      obtain ⟨Inv_2, mu_2, h0, hI⟩ := h
      refine En.loop (σ := Int × (List (DetCouple × (List Int))) × (List DetCouple)) (fun zz => Inv_2 zz.1 zz.2.1 zz.2.2) (fun zz => mu_2 zz.1 zz.2.1 zz.2.2) (fun zz => ⟨[sl 1 (I letters), sl 2 (.rd (fvR (fun (x : (DetCouple × Int)) => [.sv (.agg (DetCouple.cl x.1)), .sv (.one (I x.2))]) (fun (r : DetCouple) => .sv (.agg (DetCouple.cl r))) domnxt nxt)), sl 3 (.rd (fvR (fun (x : DetCouple) => [.sv (.agg (DetCouple.cl x))]) (fun (r : Bool) => .sv (.one (B r))) domok ok)), sl 10 (.own 1), sl 11 (.own 3), sl 37 (I letters), sl 38 (I zz.1)], [.gone, mapI DetCouple.enc (lsT intT) zz.2.1, .gone, rowI 169 DetCouple.ty zz.2.2]⟩) (0, m1, l3) h0 (sub_ok (by kernel_rfl)) ?_
      rintro ⟨x38, m1_2, l3_2⟩ h
      replace h := hI _ _ _ h
      show En c ⟨[sl 1 (I letters), sl 2 (.rd (fvR (fun (x : (DetCouple × Int)) => [.sv (.agg (DetCouple.cl x.1)), .sv (.one (I x.2))]) (fun (r : DetCouple) => .sv (.agg (DetCouple.cl r))) domnxt nxt)), sl 3 (.rd (fvR (fun (x : DetCouple) => [.sv (.agg (DetCouple.cl x))]) (fun (r : Bool) => .sv (.one (B r))) domok ok)), sl 10 (.own 1), sl 11 (.own 3), sl 37 (I letters), sl 38 (I x38)], [.gone, mapI DetCouple.enc (lsT intT) m1_2, .gone, rowI 169 DetCouple.ty l3_2]⟩ _
      refine En.seq ?_
      refine En.region ?_
      refine WL.run ht hn 1 ⟨[sl 1 (I letters), sl 2 (.rd (fvR (fun (x : (DetCouple × Int)) => [.sv (.agg (DetCouple.cl x.1)), .sv (.one (I x.2))]) (fun (r : DetCouple) => .sv (.agg (DetCouple.cl r))) domnxt nxt)), sl 3 (.rd (fvR (fun (x : DetCouple) => [.sv (.agg (DetCouple.cl x))]) (fun (r : Bool) => .sv (.one (B r))) domok ok)), sl 10 (.own 1), sl 11 (.own 3), sl 37 (I letters), sl 38 (I x38), sl 39 (B (decide (x38 < letters)))], [.gone, mapI DetCouple.enc (lsT intT) m1_2, .gone, rowI 169 DetCouple.ty l3_2]⟩ (by kernel_rfl) ?_
      refine WL.nil ?_
      refine En.seq ?_
      refine En.cond (b := (decide (x38 < letters))) (by kernel_rfl) (fun hb => ?_) (fun hb => ?_)
      · replace h := h.1 hb
        refine En.skip ?_
        obtain ⟨J, h, hJ⟩ := h
        refine En.seqJ (σ := (List (DetCouple × (List Int))) × (List DetCouple)) (fun zz => J zz.1 zz.2) (fun zz => ⟨[sl 1 (I letters), sl 2 (.rd (fvR (fun (x : (DetCouple × Int)) => [.sv (.agg (DetCouple.cl x.1)), .sv (.one (I x.2))]) (fun (r : DetCouple) => .sv (.agg (DetCouple.cl r))) domnxt nxt)), sl 3 (.rd (fvR (fun (x : DetCouple) => [.sv (.agg (DetCouple.cl x))]) (fun (r : Bool) => .sv (.one (B r))) domok ok)), sl 10 (.own 1), sl 11 (.own 3), sl 37 (I letters), sl 38 (I x38)], [.gone, mapI DetCouple.enc (lsT intT) zz.1, .gone, rowI 169 DetCouple.ty zz.2, .gone]⟩) ?_ ?_
        · refine En.block ?_
          refine En.seq ?_
          refine En.region ?_
          refine WL.run ht hn 2 ⟨[sl 1 (I letters), sl 2 (.rd (fvR (fun (x : (DetCouple × Int)) => [.sv (.agg (DetCouple.cl x.1)), .sv (.one (I x.2))]) (fun (r : DetCouple) => .sv (.agg (DetCouple.cl r))) domnxt nxt)), sl 3 (.rd (fvR (fun (x : DetCouple) => [.sv (.agg (DetCouple.cl x))]) (fun (r : Bool) => .sv (.one (B r))) domok ok)), sl 10 (.own 1), sl 11 (.own 3), sl 12 (I x38), sl 37 (I letters), sl 38 (I x38)], [.gone, mapI DetCouple.enc (lsT intT) m1_2, .gone, rowI 169 DetCouple.ty l3_2]⟩ (by kernel_rfl) ?_
          refine WL.nil ?_
          refine En.seq ?_
          refine En.region ?_
          refine WL.run ht hn 2 ⟨[sl 1 (I letters), sl 2 (.rd (fvR (fun (x : (DetCouple × Int)) => [.sv (.agg (DetCouple.cl x.1)), .sv (.one (I x.2))]) (fun (r : DetCouple) => .sv (.agg (DetCouple.cl r))) domnxt nxt)), sl 3 (.rd (fvR (fun (x : DetCouple) => [.sv (.agg (DetCouple.cl x))]) (fun (r : Bool) => .sv (.one (B r))) domok ok)), sl 10 (.own 1), sl 11 (.own 3), sl 12 (I x38), sl 37 (I letters), sl 38 (I x38), sl 41 (.rd (fvR (fun (x : (DetCouple × Int)) => [.sv (.agg (DetCouple.cl x.1)), .sv (.one (I x.2))]) (fun (r : DetCouple) => .sv (.agg (DetCouple.cl r))) domnxt nxt)), sl 42 (.own 3)], [.gone, mapI DetCouple.enc (lsT intT) m1_2, .gone, rowI 169 DetCouple.ty l3_2]⟩ (by kernel_rfl) ?_
          obtain ⟨e_3, he_3, h⟩ := h
          refine WL.val hn (by rfl) (val_indexO (T := DetCouple.ty) (l := l3_2) (k := 0) ht rfl (by rfl) (by rfl) (by rfl) (by rfl) (by decide) (by rfl) (by rfl) (by rfl) he_3) (by rfl) ?_
          refine WL.val hn (by rfl) (val_loadO (T := DetCouple.ty) (l := l3_2) (y := e_3) ht rfl (by rfl) (by rfl) (by rfl) (by rfl) (by rfl) (idx_some he_3).2.2 (by rfl)) (by rfl) ?_
          refine WL.run ht hn 1 ⟨[sl 1 (I letters), sl 2 (.rd (fvR (fun (x : (DetCouple × Int)) => [.sv (.agg (DetCouple.cl x.1)), .sv (.one (I x.2))]) (fun (r : DetCouple) => .sv (.agg (DetCouple.cl r))) domnxt nxt)), sl 3 (.rd (fvR (fun (x : DetCouple) => [.sv (.agg (DetCouple.cl x))]) (fun (r : Bool) => .sv (.one (B r))) domok ok)), sl 10 (.own 1), sl 11 (.own 3), sl 12 (I x38), sl 37 (I letters), sl 38 (I x38), sl 41 (.rd (fvR (fun (x : (DetCouple × Int)) => [.sv (.agg (DetCouple.cl x.1)), .sv (.one (I x.2))]) (fun (r : DetCouple) => .sv (.agg (DetCouple.cl r))) domnxt nxt)), (44, .sv (.agg (DetCouple.cl e_3))), sl 45 (I x38)], [.gone, mapI DetCouple.enc (lsT intT) m1_2, .gone, rowI 169 DetCouple.ty l3_2]⟩ (by kernel_rfl) ?_
          have hp := h.1
          replace h := h.2
          refine WL.mt0 (K := []) (p := none) hn (by rfl) (mt_callv (e_3, x38) hp rfl (by rfl) (by rfl) (by rfl) (by rfl)) (by rfl) (by rfl) (by rfl) ?_
          refine WL.run ht hn 2 ⟨[sl 1 (I letters), sl 2 (.rd (fvR (fun (x : (DetCouple × Int)) => [.sv (.agg (DetCouple.cl x.1)), .sv (.one (I x.2))]) (fun (r : DetCouple) => .sv (.agg (DetCouple.cl r))) domnxt nxt)), sl 3 (.rd (fvR (fun (x : DetCouple) => [.sv (.agg (DetCouple.cl x))]) (fun (r : Bool) => .sv (.one (B r))) domok ok)), sl 10 (.own 1), sl 11 (.own 3), sl 12 (I x38), sl 13 (.ptr 4 0), sl 37 (I letters), sl 38 (I x38)], [.gone, mapI DetCouple.enc (lsT intT) m1_2, .gone, rowI 169 DetCouple.ty l3_2, .box (DetCouple.cl (nxt (e_3, x38))) 169 false]⟩ (by kernel_rfl) ?_
          refine WL.nil ?_
          refine En.seq ?_
          refine En.region ?_
          refine WL.run ht hn 2 ⟨[sl 1 (I letters), sl 2 (.rd (fvR (fun (x : (DetCouple × Int)) => [.sv (.agg (DetCouple.cl x.1)), .sv (.one (I x.2))]) (fun (r : DetCouple) => .sv (.agg (DetCouple.cl r))) domnxt nxt)), sl 3 (.rd (fvR (fun (x : DetCouple) => [.sv (.agg (DetCouple.cl x))]) (fun (r : Bool) => .sv (.one (B r))) domok ok)), sl 10 (.own 1), sl 11 (.own 3), sl 12 (I x38), sl 13 (.ptr 4 0), sl 37 (I letters), sl 38 (I x38), sl 48 (.own 1), (49, .sv (.agg (DetCouple.cl (nxt (e_3, x38)))))], [.gone, mapI DetCouple.enc (lsT intT) m1_2, .gone, rowI 169 DetCouple.ty l3_2, .box (DetCouple.cl (nxt (e_3, x38))) 169 false]⟩ (by kernel_rfl) ?_
          refine WL.val hn (by rfl) (val_lookup (T := (lsT intT)) (D := m1_2) DetCouple.keyLaw (k := (nxt (e_3, x38))) (ok := true) [] (zv := (.slice none 0 0)) rfl Try.underlying280 (fun _ => by kernel_rfl) (fun _ => ls_nil) (mapAs DetCouple.enc (lsT intT) m1_2) (by rfl) (by rfl) (by rfl) (fun _ => rfl)) (by rfl) ?_
          refine WL.run ht hn 5 ⟨[sl 1 (I letters), sl 2 (.rd (fvR (fun (x : (DetCouple × Int)) => [.sv (.agg (DetCouple.cl x.1)), .sv (.one (I x.2))]) (fun (r : DetCouple) => .sv (.agg (DetCouple.cl r))) domnxt nxt)), sl 3 (.rd (fvR (fun (x : DetCouple) => [.sv (.agg (DetCouple.cl x))]) (fun (r : Bool) => .sv (.one (B r))) domok ok)), sl 10 (.own 1), sl 11 (.own 3), sl 12 (I x38), sl 13 (.ptr 4 0), sl 15 (B (mget (nxt (e_3, x38)) m1_2).isSome), sl 37 (I letters), sl 38 (I x38)], [.gone, mapI DetCouple.enc (lsT intT) m1_2, .gone, rowI 169 DetCouple.ty l3_2, .box (DetCouple.cl (nxt (e_3, x38))) 169 false]⟩ (by kernel_rfl) ?_
          refine WL.nil ?_
          refine En.seq ?_
          refine En.region ?_
          refine WL.run ht hn 2 ⟨[sl 1 (I letters), sl 2 (.rd (fvR (fun (x : (DetCouple × Int)) => [.sv (.agg (DetCouple.cl x.1)), .sv (.one (I x.2))]) (fun (r : DetCouple) => .sv (.agg (DetCouple.cl r))) domnxt nxt)), sl 3 (.rd (fvR (fun (x : DetCouple) => [.sv (.agg (DetCouple.cl x))]) (fun (r : Bool) => .sv (.one (B r))) domok ok)), sl 10 (.own 1), sl 11 (.own 3), sl 12 (I x38), sl 13 (.ptr 4 0), sl 37 (I letters), sl 38 (I x38), sl 54 (B (!(mget (nxt (e_3, x38)) m1_2).isSome))], [.gone, mapI DetCouple.enc (lsT intT) m1_2, .gone, rowI 169 DetCouple.ty l3_2, .box (DetCouple.cl (nxt (e_3, x38))) 169 false]⟩ (by kernel_rfl) ?_
          refine WL.nil ?_
          refine En.cond (b := (!(mget (nxt (e_3, x38)) m1_2).isSome)) (by kernel_rfl) (fun hb => ?_) (fun hb => ?_)
          · replace h := h.1 hb
            refine En.seq ?_
            obtain ⟨e_4, he_4, h⟩ := h
            have hp_2 := h.1
            replace h := h.2
            have hp_3 := h.1
            replace h := h.2
            refine En.regionA ⟨[sl 1 (I letters), sl 2 (.rd (fvR (fun (x : (DetCouple × Int)) => [.sv (.agg (DetCouple.cl x.1)), .sv (.one (I x.2))]) (fun (r : DetCouple) => .sv (.agg (DetCouple.cl r))) domnxt nxt)), sl 3 (.rd (fvR (fun (x : DetCouple) => [.sv (.agg (DetCouple.cl x))]) (fun (r : Bool) => .sv (.one (B r))) domok ok)), sl 10 (.own 1), sl 11 (.own 3), sl 12 (I x38), sl 13 (.ptr 4 0), sl 37 (I letters), sl 38 (I x38)], [.sv (.one (.own 1)), .sv (.agg (DetCouple.cl (nxt (e_3, x38)))), .sv (.one (.own 1)), .sv (.one (.own 3)), .sv (.one (.oe 3 ((0 : Int).toNat) 2)), .sv (.agg (DetCouple.cl e_4)), .sv (.one (LS intT ((mget e_4 m1_2).getD []))), .sv (.one (.own 5)), .sv (.one (I x38)), .sv (.one (LS intT ([x38] : (List Int)))), .sv (.one (LS intT ((((mget e_4 m1_2).getD [])) ++ ([x38] : (List Int))))), .tup []], [⟨.gone, none, none, none⟩, ⟨mapI DetCouple.enc (lsT intT) m1_2, none, none, some (11, mapI DetCouple.enc (lsT intT) (mput (nxt (e_3, x38)) ((((mget e_4 m1_2).getD [])) ++ ([x38] : (List Int))) m1_2))⟩, ⟨.gone, none, none, none⟩, ⟨rowI 169 DetCouple.ty l3_2, none, none, none⟩, ⟨.box (DetCouple.cl (nxt (e_3, x38))) 169 false, none, none, none⟩, ⟨rowI 3 intT (((mget e_4 m1_2).getD [])), some 7, some 10, none⟩]⟩ ⟨[sl 1 (I letters), sl 2 (.rd (fvR (fun (x : (DetCouple × Int)) => [.sv (.agg (DetCouple.cl x.1)), .sv (.one (I x.2))]) (fun (r : DetCouple) => .sv (.agg (DetCouple.cl r))) domnxt nxt)), sl 3 (.rd (fvR (fun (x : DetCouple) => [.sv (.agg (DetCouple.cl x))]) (fun (r : Bool) => .sv (.one (B r))) domok ok)), sl 10 (.own 1), sl 11 (.own 3), sl 13 (.ptr 4 0), sl 37 (I letters), sl 38 (I x38)], [.gone, mapI DetCouple.enc (lsT intT) (mput (nxt (e_3, x38)) ((((mget e_4 m1_2).getD [])) ++ ([x38] : (List Int))) m1_2), .gone, rowI 169 DetCouple.ty l3_2, .box (DetCouple.cl (nxt (e_3, x38))) 169 false, .gone]⟩ (by kernel_rfl) hn (by kernel_rfl) (by rfl) (by kernel_rfl) ?_ (by kernel_rfl) ?_
            · exact ⟨.mt ⟨[sl 10 (.own 1)], []⟩ [] none (by kernel_rfl) (by rfl) (mt_ev ht (by kernel_rfl)) rfl rfl rfl rfl,
    .mt ⟨[sl 13 (.ptr 4 0)], [.gone, .gone, .gone, .gone, .box (DetCouple.cl (nxt (e_3, x38))) 169 false]⟩ [] none (by kernel_rfl) (by rfl) (mt_ev ht (by kernel_rfl)) rfl rfl rfl rfl,
    .mt ⟨[sl 10 (.own 1)], []⟩ [] none (by kernel_rfl) (by rfl) (mt_ev ht (by kernel_rfl)) rfl rfl rfl rfl,
    .mt ⟨[sl 11 (.own 3)], []⟩ [] none (by kernel_rfl) (by rfl) (mt_ev ht (by kernel_rfl)) rfl rfl rfl rfl,
    .mt ⟨[sl 58 (.own 3)], [.gone, .gone, .gone, rowI 169 DetCouple.ty l3_2]⟩ [] none (by kernel_rfl) (by rfl) (mt_val (val_indexO (T := DetCouple.ty) (l := l3_2) (k := 0) ht rfl (by rfl) (by rfl) (by rfl) (by rfl) (by decide) (by rfl) (by rfl) (by rfl) he_4)) rfl rfl rfl rfl,
    .mt ⟨[sl 59 (.oe 3 ((0 : Int).toNat) 2)], [.gone, .gone, .gone, rowI 169 DetCouple.ty l3_2]⟩ [] none (by kernel_rfl) (by rfl) (mt_val (val_loadO (T := DetCouple.ty) (l := l3_2) (y := e_4) ht rfl (by rfl) (by rfl) (by rfl) (by rfl) (by rfl) (idx_some he_4).2.2 (by rfl))) rfl rfl rfl rfl,
    .mt ⟨[sl 57 (.own 1), (60, .sv (.agg (DetCouple.cl e_4)))], [.gone, mapI DetCouple.enc (lsT intT) m1_2]⟩ [] none (by kernel_rfl) (by rfl) (mt_val (val_lookup (T := (lsT intT)) (D := m1_2) DetCouple.keyLaw (k := e_4) (ok := false) [] (zv := (.slice none 0 0)) rfl Try.underlying280 (fun _ => by kernel_rfl) (fun _ => ls_nil) (mapAs DetCouple.enc (lsT intT) m1_2) (by rfl) (by rfl) (by rfl) (fun _ => rfl))) rfl rfl rfl rfl,
    .mt ⟨[sl 61 (LS intT ((mget e_4 m1_2).getD []))], []⟩ [] (some 5) (by kernel_rfl) (by rfl) (mt_callI 5 (cloneInt_ct ((mget e_4 m1_2).getD []) hp_2) en49 (caps := []) [] rfl rfl (by rfl) (by kernel_rfl) (by kernel_rfl) (by rfl) (by rfl)) rfl rfl rfl rfl,
    .mt ⟨[sl 12 (I x38)], []⟩ [] none (by kernel_rfl) (by rfl) (mt_ev ht (by kernel_rfl)) rfl rfl rfl rfl,
    .mt ⟨[sl 63 (I x38)], []⟩ [] none (by kernel_rfl) (by rfl) (mt_seal (q := 6) (e := 3) (mt_lit (T := intT) ([x38] : (List Int)) (mt_bsl 6 (r := cellsOf intT ([x38] : (List Int))) ht rfl (by rfl) (by rfl) (by rfl) (by kernel_rfl) (by rfl)) (fun _ h => by cases h) (fun _ => rfl) (fun _ => rfl) (by rfl) (Nat.le_of_ble_eq_true rfl))) rfl rfl rfl rfl,
    .mt ⟨[sl 62 (.own 5), sl 64 (LS intT ([x38] : (List Int)))], [.gone, .gone, .gone, .gone, .gone, rowI 3 intT (((mget e_4 m1_2).getD []))]⟩ [5] none (by kernel_rfl) (by rfl) (mt_seal (q := 6) (e := 3) (mt_append (T := intT) (l := (((mget e_4 m1_2).getD []))) (es := ([x38] : (List Int))) (p := 6) ht rfl (by rfl) (by rfl) (by rfl) (by rfl) (by decide) (by rfl) (by rfl) (srcLS (T := intT) (es := ([x38] : (List Int))) (fun _ h => by cases h) (by decide) (by rfl)) (by exact hp_3) (by exact hp_3.le (by decide)))) rfl rfl rfl rfl,
    .mu ⟨[sl 55 (.own 1), (56, .sv (.agg (DetCouple.cl (nxt (e_3, x38))))), sl 65 (LS intT ((((mget e_4 m1_2).getD [])) ++ ([x38] : (List Int))))], [.gone, mapI DetCouple.enc (lsT intT) m1_2]⟩ 1 _ _ rfl rfl (by kernel_rfl) (by rfl) (mu_mapPut (T := (lsT intT)) DetCouple.keyLaw (k := (nxt (e_3, x38))) (y := ((((mget e_4 m1_2).getD [])) ++ ([x38] : (List Int)))) (.inl rfl) Try.underlying280 (by rfl) (by rfl) (by rfl) (by rfl) (by rfl)) rfl rfl rfl rfl rfl rfl rfl,
    trivial⟩
            · refine En.region ?_
              refine WL.run ht hn 2 ⟨[sl 1 (I letters), sl 2 (.rd (fvR (fun (x : (DetCouple × Int)) => [.sv (.agg (DetCouple.cl x.1)), .sv (.one (I x.2))]) (fun (r : DetCouple) => .sv (.agg (DetCouple.cl r))) domnxt nxt)), sl 3 (.rd (fvR (fun (x : DetCouple) => [.sv (.agg (DetCouple.cl x))]) (fun (r : Bool) => .sv (.one (B r))) domok ok)), sl 10 (.own 1), sl 37 (I letters), sl 38 (I x38), sl 66 (.own 3), (67, .sv (.agg (DetCouple.cl (nxt (e_3, x38)))))], [.gone, mapI DetCouple.enc (lsT intT) (mput (nxt (e_3, x38)) ((((mget e_4 m1_2).getD [])) ++ ([x38] : (List Int))) m1_2), .gone, rowI 169 DetCouple.ty l3_2, .gone, .gone]⟩ (by kernel_rfl) ?_
              refine WL.mt0 (K := []) (p := some (6, rowI 169 DetCouple.ty ([(nxt (e_3, x38))] : (List DetCouple)))) hn (by rfl) (mt_lit (T := DetCouple.ty) ([(nxt (e_3, x38))] : (List DetCouple)) (mt_bsl 6 (r := cellsOf DetCouple.ty ([(nxt (e_3, x38))] : (List DetCouple))) ht rfl (by rfl) (by rfl) (by rfl) (by kernel_rfl) (by rfl)) (fun _ h => by cases h) (fun _ => rfl) (fun _ => rfl) (by rfl) (Nat.le_of_ble_eq_true rfl)) (by rfl) (by rfl) (by rfl) ?_
              refine WL.seal (T := DetCouple.ty) (l := ([(nxt (e_3, x38))] : (List DetCouple))) (e := 169) 6 rfl ?_
              refine WL.run ht hn 0 ⟨[sl 1 (I letters), sl 2 (.rd (fvR (fun (x : (DetCouple × Int)) => [.sv (.agg (DetCouple.cl x.1)), .sv (.one (I x.2))]) (fun (r : DetCouple) => .sv (.agg (DetCouple.cl r))) domnxt nxt)), sl 3 (.rd (fvR (fun (x : DetCouple) => [.sv (.agg (DetCouple.cl x))]) (fun (r : Bool) => .sv (.one (B r))) domok ok)), sl 10 (.own 1), sl 37 (I letters), sl 38 (I x38), sl 66 (.own 3), (67, .sv (.agg (DetCouple.cl (nxt (e_3, x38))))), sl 68 (LS DetCouple.ty ([(nxt (e_3, x38))] : (List DetCouple)))], [.gone, mapI DetCouple.enc (lsT intT) (mput (nxt (e_3, x38)) ((((mget e_4 m1_2).getD [])) ++ ([x38] : (List Int))) m1_2), .gone, rowI 169 DetCouple.ty l3_2, .gone, .gone, .gone]⟩ (by kernel_rfl) ?_
              have hp := h.1
              replace h := h.2
              refine WL.mt (S2 := ⟨[sl 1 (I letters), sl 2 (.rd (fvR (fun (x : (DetCouple × Int)) => [.sv (.agg (DetCouple.cl x.1)), .sv (.one (I x.2))]) (fun (r : DetCouple) => .sv (.agg (DetCouple.cl r))) domnxt nxt)), sl 3 (.rd (fvR (fun (x : DetCouple) => [.sv (.agg (DetCouple.cl x))]) (fun (r : Bool) => .sv (.one (B r))) domok ok)), sl 10 (.own 1), sl 37 (I letters), sl 38 (I x38), (67, .sv (.agg (DetCouple.cl (nxt (e_3, x38))))), sl 68 (LS DetCouple.ty ([(nxt (e_3, x38))] : (List DetCouple)))], [.gone, mapI DetCouple.enc (lsT intT) (mput (nxt (e_3, x38)) ((((mget e_4 m1_2).getD [])) ++ ([x38] : (List Int))) m1_2), .gone, rowI 169 DetCouple.ty l3_2, .gone, .gone, .gone]⟩) (K := [3]) (p := some (3, rowI 169 DetCouple.ty (l3_2 ++ ([(nxt (e_3, x38))] : (List DetCouple))))) hn (by rfl) (mt_append (T := DetCouple.ty) (l := l3_2) (es := ([(nxt (e_3, x38))] : (List DetCouple))) ht rfl (by rfl) (by rfl) (by rfl) (by rfl) (by decide) (by rfl) (by rfl) (srcLS (T := DetCouple.ty) (es := ([(nxt (e_3, x38))] : (List DetCouple))) (fun _ h => by cases h) (by decide) (by rfl)) (by exact hp) (by exact hp.le (by decide))) (by kernel_rfl) (by rfl) (by rfl) (by rfl) ?_
              refine WL.run ht hn 1 ⟨[sl 1 (I letters), sl 2 (.rd (fvR (fun (x : (DetCouple × Int)) => [.sv (.agg (DetCouple.cl x.1)), .sv (.one (I x.2))]) (fun (r : DetCouple) => .sv (.agg (DetCouple.cl r))) domnxt nxt)), sl 3 (.rd (fvR (fun (x : DetCouple) => [.sv (.agg (DetCouple.cl x))]) (fun (r : Bool) => .sv (.one (B r))) domok ok)), sl 10 (.own 1), sl 11 (.own 3), sl 37 (I letters), sl 38 (I x38)], [.gone, mapI DetCouple.enc (lsT intT) (mput (nxt (e_3, x38)) ((((mget e_4 m1_2).getD [])) ++ ([x38] : (List Int))) m1_2), .gone, rowI 169 DetCouple.ty (l3_2 ++ ([(nxt (e_3, x38))] : (List DetCouple))), .gone, .gone, .gone]⟩ (by kernel_rfl) ?_
              refine WL.nil ?_
              exact En.at (I := fun zz => J zz.1 zz.2) (T := fun zz => ⟨[sl 1 (I letters), sl 2 (.rd (fvR (fun (x : (DetCouple × Int)) => [.sv (.agg (DetCouple.cl x.1)), .sv (.one (I x.2))]) (fun (r : DetCouple) => .sv (.agg (DetCouple.cl r))) domnxt nxt)), sl 3 (.rd (fvR (fun (x : DetCouple) => [.sv (.agg (DetCouple.cl x))]) (fun (r : Bool) => .sv (.one (B r))) domok ok)), sl 10 (.own 1), sl 11 (.own 3), sl 37 (I letters), sl 38 (I x38)], [.gone, mapI DetCouple.enc (lsT intT) zz.1, .gone, rowI 169 DetCouple.ty zz.2, .gone]⟩) ((mput (nxt (e_3, x38)) ((((mget e_4 m1_2).getD [])) ++ ([x38] : (List Int))) m1_2), (l3_2 ++ ([(nxt (e_3, x38))] : (List DetCouple)))) h (by kernel_rfl)
          · replace h := h.2 hb
            refine En.skip ?_
            exact En.at (I := fun zz => J zz.1 zz.2) (T := fun zz => ⟨[sl 1 (I letters), sl 2 (.rd (fvR (fun (x : (DetCouple × Int)) => [.sv (.agg (DetCouple.cl x.1)), .sv (.one (I x.2))]) (fun (r : DetCouple) => .sv (.agg (DetCouple.cl r))) domnxt nxt)), sl 3 (.rd (fvR (fun (x : DetCouple) => [.sv (.agg (DetCouple.cl x))]) (fun (r : Bool) => .sv (.one (B r))) domok ok)), sl 10 (.own 1), sl 11 (.own 3), sl 37 (I letters), sl 38 (I x38)], [.gone, mapI DetCouple.enc (lsT intT) zz.1, .gone, rowI 169 DetCouple.ty zz.2, .gone]⟩) (m1_2, l3_2) h (by kernel_rfl)
        · rintro ⟨m1_3, l3_3⟩ h
          replace h := hJ _ _ h
          show En c ⟨[sl 1 (I letters), sl 2 (.rd (fvR (fun (x : (DetCouple × Int)) => [.sv (.agg (DetCouple.cl x.1)), .sv (.one (I x.2))]) (fun (r : DetCouple) => .sv (.agg (DetCouple.cl r))) domnxt nxt)), sl 3 (.rd (fvR (fun (x : DetCouple) => [.sv (.agg (DetCouple.cl x))]) (fun (r : Bool) => .sv (.one (B r))) domok ok)), sl 10 (.own 1), sl 11 (.own 3), sl 37 (I letters), sl 38 (I x38)], [.gone, mapI DetCouple.enc (lsT intT) m1_3, .gone, rowI 169 DetCouple.ty l3_3, .gone]⟩ _
          refine En.region ?_
          refine WL.run ht hn 2 ⟨[sl 1 (I letters), sl 2 (.rd (fvR (fun (x : (DetCouple × Int)) => [.sv (.agg (DetCouple.cl x.1)), .sv (.one (I x.2))]) (fun (r : DetCouple) => .sv (.agg (DetCouple.cl r))) domnxt nxt)), sl 3 (.rd (fvR (fun (x : DetCouple) => [.sv (.agg (DetCouple.cl x))]) (fun (r : Bool) => .sv (.one (B r))) domok ok)), sl 10 (.own 1), sl 11 (.own 3), sl 37 (I letters), sl 38 (I (wr (x38 + 1)))], [.gone, mapI DetCouple.enc (lsT intT) m1_3, .gone, rowI 169 DetCouple.ty l3_3, .gone]⟩ (by kernel_rfl) ?_
          refine WL.nil ?_
          exact En.at (I := fun zz => Inv_2 zz.1 zz.2.1 zz.2.2 ∧ mu_2 zz.1 zz.2.1 zz.2.2 < mu_2 x38 m1_2 l3_2) (T := fun zz => ⟨[sl 1 (I letters), sl 2 (.rd (fvR (fun (x : (DetCouple × Int)) => [.sv (.agg (DetCouple.cl x.1)), .sv (.one (I x.2))]) (fun (r : DetCouple) => .sv (.agg (DetCouple.cl r))) domnxt nxt)), sl 3 (.rd (fvR (fun (x : DetCouple) => [.sv (.agg (DetCouple.cl x))]) (fun (r : Bool) => .sv (.one (B r))) domok ok)), sl 10 (.own 1), sl 11 (.own 3), sl 37 (I letters), sl 38 (I zz.1)], [.gone, mapI DetCouple.enc (lsT intT) zz.2.1, .gone, rowI 169 DetCouple.ty zz.2.2]⟩) ((wr (x38 + 1)), m1_3, l3_3) h (by kernel_rfl)
      · replace h := h.2 hb
        refine En.exit rfl ?_
        refine En.region ?_
        refine WL.run ht hn 1 ⟨[sl 1 (I letters), sl 2 (.rd (fvR (fun (x : (DetCouple × Int)) => [.sv (.agg (DetCouple.cl x.1)), .sv (.one (I x.2))]) (fun (r : DetCouple) => .sv (.agg (DetCouple.cl r))) domnxt nxt)), sl 3 (.rd (fvR (fun (x : DetCouple) => [.sv (.agg (DetCouple.cl x))]) (fun (r : Bool) => .sv (.one (B r))) domok ok)), sl 10 (.own 1), sl 25 (.own 3)], [.gone, mapI DetCouple.enc (lsT intT) m1_2, .gone, rowI 169 DetCouple.ty l3_2]⟩ (by kernel_rfl) ?_
        have hp_4 := h.1
        replace h := h.2
        refine WL.mt (S2 := ⟨[sl 1 (I letters), sl 2 (.rd (fvR (fun (x : (DetCouple × Int)) => [.sv (.agg (DetCouple.cl x.1)), .sv (.one (I x.2))]) (fun (r : DetCouple) => .sv (.agg (DetCouple.cl r))) domnxt nxt)), sl 3 (.rd (fvR (fun (x : DetCouple) => [.sv (.agg (DetCouple.cl x))]) (fun (r : Bool) => .sv (.one (B r))) domok ok)), sl 10 (.own 1)], [.gone, mapI DetCouple.enc (lsT intT) m1_2, .gone, rowI 169 DetCouple.ty l3_2]⟩) (K := [3]) (p := some (3, rowI 169 DetCouple.ty (l3_2.drop (1 : Int).toNat))) hn (by rfl) (mt_sliceF (T := DetCouple.ty) (l := l3_2) (p := 3) (lv := 1) ht rfl (by rfl) (by rfl) (by rfl) (by rfl) (by rfl) (by rfl) (by rfl) hp_4) (by kernel_rfl) (by rfl) (by rfl) (by rfl) ?_
        refine WL.run ht hn 1 ⟨[sl 1 (I letters), sl 2 (.rd (fvR (fun (x : (DetCouple × Int)) => [.sv (.agg (DetCouple.cl x.1)), .sv (.one (I x.2))]) (fun (r : DetCouple) => .sv (.agg (DetCouple.cl r))) domnxt nxt)), sl 3 (.rd (fvR (fun (x : DetCouple) => [.sv (.agg (DetCouple.cl x))]) (fun (r : Bool) => .sv (.one (B r))) domok ok)), sl 10 (.own 1), sl 11 (.own 3)], [.gone, mapI DetCouple.enc (lsT intT) m1_2, .gone, rowI 169 DetCouple.ty (l3_2.drop (1 : Int).toNat)]⟩ (by kernel_rfl) ?_
        refine WL.nil ?_
        exact En.at (I := fun zz => Inv zz.1 zz.2 ∧ mu zz.1 zz.2 < mu m1 l3) (T := fun zz => ⟨[sl 1 (I letters), sl 2 (.rd (fvR (fun (x : (DetCouple × Int)) => [.sv (.agg (DetCouple.cl x.1)), .sv (.one (I x.2))]) (fun (r : DetCouple) => .sv (.agg (DetCouple.cl r))) domnxt nxt)), sl 3 (.rd (fvR (fun (x : DetCouple) => [.sv (.agg (DetCouple.cl x))]) (fun (r : Bool) => .sv (.one (B r))) domok ok)), sl 10 (.own 1), sl 11 (.own 3)], [.gone, mapI DetCouple.enc (lsT intT) zz.1, .gone, rowI 169 DetCouple.ty zz.2]⟩) (m1_2, (l3_2.drop (1 : Int).toNat)) h (by kernel_rfl)
  · replace h := h.2 hb
    refine En.exit rfl ?_
    refine En.seq ?_
    refine En.region ?_
    refine WL.run ht hn 2 ⟨[sl 8 (.v (.slice none 0 0)), sl 9 (B false)], [.gone, .gone, .gone, .gone]⟩ (by kernel_rfl) ?_
    refine WL.nil ?_
    refine En.ret ?_
    refine En.nilLS 8 intT (by rfl) ?_
    exact En.back ht ([], false) h (by kernel_rfl) rfl
theorem en83 : ∀ args w, (callFunc 83 args).run Try.prog w = .ok (.enter 83 args) w := enters_of Try.func83 (by kernel_rfl) rfl
def afterD_vc (x : ApiDet) (q : Int) (w : (List Int)) (Q : Int → Prop) : Prop :=
 x.fNext.length ≤ 9223372036854775807 →
 x.fMark.length ≤ 9223372036854775807 →
 w.length ≤ 9223372036854775807 →
 (∃ (Inv : Int → Int → Prop) (mu : Int → Int → Nat), Inv q 0 ∧
 ∀ (x1 : Int) (x11 : Int) , Inv x1 x11 → (IfP (decide (x11 < (w.length : Int))) (∃ e, idx w x11 = some e ∧
 ∃ e_2, idx x.fNext x1 = some e_2 ∧
 ∃ e_3, idx e_2 e = some e_3 ∧
 (Inv e_3 (wr (x11 + 1)) ∧ mu e_3 (wr (x11 + 1)) < mu x1 x11)) (Q x1)))
theorem afterD_walk (x : ApiDet) (q : Int) (w : (List Int)) (Q : Int → Prop) (h : afterD_vc x q w Q) : Ct 89 [.sv (.agg [I x.fLetters, I x.fStart, LS (lsT intT) x.fNext, LS intT x.fMark]), .sv (.one (I q)), .sv (.one (LS intT w))] [] Q (fun (r : Int) => .sv (.one (I r))) := by
 have ht := tab_ok
 refine Ct.body Try.func89 rfl rfl rfl rfl (fun c hn => ?_)
 unfold afterD_vc at h
 refine En.lenA 0 2 (by rfl) (by rfl) (fun hl => ?_)
 replace h := h hl
 clear hl
 refine En.lenA 0 3 (by rfl) (by rfl) (fun hl => ?_)
 replace h := h hl
 clear hl
 refine En.lenL 2 (by rfl) (fun hl => ?_)
 replace h := h hl
 clear hl
 refine En.seq ?_
 refine En.region ?_
 refine WL.run ht hn 2 ⟨[sl 1 (I q), sl 2 (LS intT w), sl 3 (.ptr 0 0)], [.box (ApiDet.cl x) 73 false]⟩ (by kernel_rfl) ?_
 refine WL.nil ?_
 refine En.seq ?_
 refine En.seq ?_
 refine En.region ?_
 refine WL.run ht hn 3 ⟨[sl 1 (I q), sl 3 (.ptr 0 0), sl 9 (LS intT w), sl 10 (I (w.length : Int)), sl 11 (I 0)], [.box (ApiDet.cl x) 73 false]⟩ (by kernel_rfl) ?_
 refine WL.nil ?_
 refine En.block ?_
 obtain ⟨Inv, mu, h0, hI⟩ := h
 refine En.loop (σ := Int × Int) (fun zz => Inv zz.1 zz.2) (fun zz => mu zz.1 zz.2) (fun zz => ⟨[sl 1 (I zz.1), sl 3 (.ptr 0 0), sl 9 (LS intT w), sl 10 (I (w.length : Int)), sl 11 (I zz.2)], [.box (ApiDet.cl x) 73 false]⟩) (q, 0) h0 (sub_ok (by kernel_rfl)) ?_
 rintro ⟨x1, x11⟩ h
 replace h := hI _ _ h
 show En c ⟨[sl 1 (I x1), sl 3 (.ptr 0 0), sl 9 (LS intT w), sl 10 (I (w.length : Int)), sl 11 (I x11)], [.box (ApiDet.cl x) 73 false]⟩ _
 refine En.seq ?_
 refine En.region ?_
 refine WL.run ht hn 1 ⟨[sl 1 (I x1), sl 3 (.ptr 0 0), sl 9 (LS intT w), sl 10 (I (w.length : Int)), sl 11 (I x11), sl 12 (B (decide (x11 < (w.length : Int))))], [.box (ApiDet.cl x) 73 false]⟩ (by kernel_rfl) ?_
 refine WL.nil ?_
 refine En.seq ?_
 refine En.cond (b := (decide (x11 < (w.length : Int)))) (by kernel_rfl) (fun hb => ?_) (fun hb => ?_)
 replace h := h.1 hb
 refine En.skip ?_
 refine En.seq ?_
 refine En.block ?_
 refine En.seq ?_
 refine En.region ?_
 obtain ⟨e, he, h⟩ := h
 refine WL.val hn (by rfl) (val_index (T := intT) (l := w) (i := x11) ht rfl (by rfl) (by rfl) (by rfl) (by rfl) (by rfl) (by rfl) he) (by rfl) ?_
 refine WL.val hn (by rfl) (val_load (s := .one (I e)) ht rfl (by rfl) (by rfl) (by rfl) (by rfl) (by rfl)) (by rfl) ?_
 refine WL.run ht hn 1 ⟨[sl 1 (I x1), sl 3 (.ptr 0 0), sl 8 (I e), sl 9 (LS intT w), sl 10 (I (w.length : Int)), sl 11 (I x11)], [.box (ApiDet.cl x) 73 false]⟩ (by kernel_rfl) ?_
 refine WL.nil ?_
 refine En.region ?_
 refine WL.run ht hn 3 ⟨[sl 3 (.ptr 0 0), sl 8 (I e), sl 9 (LS intT w), sl 10 (I (w.length : Int)), sl 11 (I x11), sl 16 (LS (lsT intT) x.fNext), sl 17 (I x1)], [.box (ApiDet.cl x) 73 false]⟩ (by kernel_rfl) ?_
 obtain ⟨e_2, he_2, h⟩ := h
 refine WL.val hn (by rfl) (val_index (T := (lsT intT)) (l := x.fNext) (i := x1) ht rfl (by rfl) (by rfl) (by rfl) (by rfl) (by rfl) (by rfl) he_2) (by rfl) ?_
 refine WL.val hn (by rfl) (val_load (s := .one (LS intT e_2)) ht rfl (by rfl) (by rfl) (by rfl) (by rfl) (by rfl)) (by rfl) ?_
 refine WL.run ht hn 1 ⟨[sl 3 (.ptr 0 0), sl 9 (LS intT w), sl 10 (I (w.length : Int)), sl 11 (I x11), sl 19 (LS intT e_2), sl 20 (I e)], [.box (ApiDet.cl x) 73 false]⟩ (by kernel_rfl) ?_
 obtain ⟨e_3, he_3, h⟩ := h
 refine WL.val hn (by rfl) (val_index (T := intT) (l := e_2) (i := e) ht rfl (by rfl) (by rfl) (by rfl) (by rfl) (by rfl) (by rfl) he_3) (by rfl) ?_
 refine WL.val hn (by rfl) (val_load (s := .one (I e_3)) ht rfl (by rfl) (by rfl) (by rfl) (by rfl) (by rfl)) (by rfl) ?_
 refine WL.run ht hn 1 ⟨[sl 1 (I e_3), sl 3 (.ptr 0 0), sl 9 (LS intT w), sl 10 (I (w.length : Int)), sl 11 (I x11)], [.box (ApiDet.cl x) 73 false]⟩ (by kernel_rfl) ?_
 refine WL.nil ?_
 refine En.region ?_
 refine WL.run ht hn 2 ⟨[sl 1 (I e_3), sl 3 (.ptr 0 0), sl 9 (LS intT w), sl 10 (I (w.length : Int)), sl 11 (I (wr (x11 + 1)))], [.box (ApiDet.cl x) 73 false]⟩ (by kernel_rfl) ?_
 refine WL.nil ?_
 exact En.at (I := fun zz => Inv zz.1 zz.2 ∧ mu zz.1 zz.2 < mu x1 x11) (T := fun zz => ⟨[sl 1 (I zz.1), sl 3 (.ptr 0 0), sl 9 (LS intT w), sl 10 (I (w.length : Int)), sl 11 (I zz.2)], [.box (ApiDet.cl x) 73 false]⟩) (e_3, (wr (x11 + 1))) h (by kernel_rfl)
 replace h := h.2 hb
 refine En.exit rfl ?_
 refine En.seq ?_
 refine En.region ?_
 refine WL.run ht hn 2 ⟨[sl 6 (I x1)], [.gone]⟩ (by kernel_rfl) ?_
 refine WL.nil ?_
 refine En.ret ?_
 exact En.back ht x1 h (by kernel_rfl) rfl
theorem en89 : ∀ args w, (callFunc 89 args).run Try.prog w = .ok (.enter 89 args) w := enters_of Try.func89 (by kernel_rfl) rfl
end Go.Proofs.Ytapnmjeadbhffaa


namespace Go.Proofs.Ytapnmjeadbhffaa
set_option linter.unusedSimpArgs false
set_option linter.unusedVariables false
set_option maxRecDepth 100000
theorem keyB_two8 (e : Int) : keyB e = two8 e := by
 unfold keyB two8
 have h2 : Int.fdiv e (2 ^ (min 8 64)) = e / 256 := by
  rw [show ((2 : Int) ^ (min 8 64)) = 256 by decide]
  exact Int.fdiv_eq_ediv_of_nonneg _ (by decide)
 rw [h2]
 rfl
theorem keyR_inj {l m : List Int} (hl : ∀ x ∈ l, 0 ≤ x ∧ x < 65536) (hm : ∀ x ∈ m, 0 ≤ x ∧ x < 65536) (h : keyR l = keyR m) : l = m := by
 unfold keyR at h
 rw [show keyB = two8 from funext keyB_two8] at h
 exact twos_inj hl hm (bytesOf_inj twos_in twos_in h)
def stepI (m : ApiDet) (q a : Int) : Int := (m.fNext.getD q.toNat []).getD a.toNat 0
def aftI (m : ApiDet) (q : Int) (w : List Int) : Int := w.foldl (stepI m) q
def InQ (m : ApiDet) (q : Int) : Prop := 0 ≤ q ∧ q < (m.fNext.length : Int)
def InA (m : ApiDet) (a : Int) : Prop := 0 ≤ a ∧ a < m.fLetters
def wOk (m : ApiDet) (w : List Int) : Prop := ∀ a ∈ w, InA m a
theorem stepI_at {m : ApiDet} (h : DetOk m) {q a : Int} (hq : InQ m q) (ha : InA m a) : idx m.fNext q = some (m.fNext.getD q.toNat []) ∧ idx (m.fNext.getD q.toNat []) a = some (stepI m q a) ∧ InQ m (stepI m q a) := by
 obtain ⟨q0, q1⟩ := hq
 obtain ⟨a0, a1⟩ := ha
 have hm := getD_mem (l := m.fNext) (i := q.toNat) (z := []) (by omega)
 have hr := h.rows _ hm
 have hl : a < ((m.fNext.getD q.toNat []).length : Int) := by omega
 exact ⟨idx_of [] q0 q1, idx_of 0 a0 hl, h.in_ _ hm _ (getD_mem (by omega))⟩
theorem aftI_in {m : ApiDet} (h : DetOk m) : ∀ (w : List Int) (q : Int), wOk m w → InQ m q → InQ m (aftI m q w)
 | [], q, _, hq => hq
 | a :: w, q, hw, hq => aftI_in h w _ (fun b hb => hw b (List.mem_cons_of_mem _ hb)) (stepI_at h hq (hw a List.mem_cons_self)).2.2
theorem aftI_app {m : ApiDet} {q : Int} {u v : List Int} : aftI m q (u ++ v) = aftI m (aftI m q u) v := List.foldl_append
theorem afterI_ct (x : ApiDet) (q : Int) (w : List Int) (hp : DetOk x ∧ InQ x q ∧ wOk x w) : Ct 89 [.sv (.agg [I x.fLetters, I x.fStart, LS (lsT intT) x.fNext, LS intT x.fMark]), .sv (.one (I q)), .sv (.one (LS intT w))] [] (fun (_ : Unit) => True) (fun _ => .sv (.one (I (aftI x q w)))) := by
 obtain ⟨hx, hq, hw⟩ := hp
 refine (afterD_walk x q w (fun r => r = aftI x q w) ?_).fun
 unfold afterD_vc
 intro _ _ hl
 refine ⟨fun p i => ∃ k : Nat, i = k ∧ k ≤ w.length ∧ p = aftI x q (w.take k), fun _ i => w.length - i.toNat, ⟨0, rfl, Nat.zero_le _, rfl⟩, ?_⟩
 rintro p i ⟨k, rfl, hk, rfl⟩
 refine ⟨fun hb => ?_, fun hb => ?_⟩
 ·have hlt : k < w.length := by have := of_decide_eq_true hb; exact Int.ofNat_lt.1 this
  have hin := aftI_in hx (w.take k) q (fun a ha => hw a (List.mem_of_mem_take ha)) hq
  obtain ⟨k1, k2, _⟩ := stepI_at hx hin (hw _ (List.getElem_mem hlt))
  have hwr : wr ((k : Int) + 1) = ((k + 1 : Nat) : Int) := by rw [wr_in (by omega) (by omega)]; rfl
  refine ⟨_, idx_at hlt, _, k1, _, k2, ⟨k + 1, hwr, hlt, ?_⟩, ?_⟩
  ·rw [List.take_add_one, List.getElem?_eq_getElem hlt]
   unfold aftI
   rw [List.foldl_append]
   rfl
  ·rw [hwr]
   show w.length - (k + 1) < w.length - k
   omega
 ·have hge : w.length ≤ k := by have := of_decide_eq_false hb; exact Nat.le_of_not_lt fun h => this (Int.ofNat_lt.2 h)
  rw [List.take_of_length_le hge]
def doesOf (m : ApiDet) (w : List Int) : List Int := (List.range m.fNext.length).map fun (q : Nat) => aftI m (q : Int) w
theorem doesOf_len {m : ApiDet} {w : List Int} : (doesOf m w).length = m.fNext.length := by unfold doesOf; rw [List.length_map, List.length_range]
theorem doesOf_in {m : ApiDet} (h : DetOk m) {w : List Int} (hw : wOk m w) : ∀ v ∈ doesOf m w, InQ m v := fun v hv => by
 obtain ⟨q, hq, rfl⟩ := List.mem_map.1 hv
 exact aftI_in h w _ hw ⟨Int.natCast_nonneg _, Int.ofNat_lt.2 (List.mem_range.1 hq)⟩
theorem doesOf_snoc {m : ApiDet} {w : List Int} {a : Int} : doesOf m (w ++ [a]) = (doesOf m w).map fun q => stepI m q a := by
 unfold doesOf
 rw [List.map_map]
 refine List.map_congr_left fun q _ => ?_
 rw [aftI_app]
 rfl
theorem doesOf_app {m : ApiDet} {u v : List Int} : doesOf m (u ++ v) = (doesOf m u).map fun q => aftI m q v := by
 unfold doesOf
 rw [List.map_map]
 refine List.map_congr_left fun q _ => ?_
 rw [aftI_app]
 rfl
theorem doesOf_at {m : ApiDet} {w : List Int} {q : Int} (hq : InQ m q) : idx (doesOf m w) q = some (aftI m q w) := by
 obtain ⟨h0, h1⟩ := hq
 unfold idx doesOf
 rw [if_pos h0, List.getElem?_map, List.getElem?_range (by omega)]
 show some (aftI m (q.toNat : Int) w) = _
 rw [Int.toNat_of_nonneg h0]
structure ElOk (m : ApiDet) (x : MonoidElement) : Prop where
 does : x.fDoes = doesOf m x.fWord
 word : wOk m x.fWord
def ElemQ (m : ApiDet) (l : List MonoidElement) : Prop := (∀ x ∈ l, ElOk m x ∧ x.fWord.length ≤ 4000) ∧ l.length ≤ 4000 ∧ ∀ w, wOk m w → ∃ x ∈ l, x.fDoes = doesOf m w
def allRows (n : Nat) : Nat → List (List Int)
 | 0 => [[]]
 | k + 1 => (List.range n).flatMap fun (v : Nat) => (allRows n k).map fun r => (v : Int) :: r
theorem allRows_mem {n : Nat} : ∀ {r : List Int}, (∀ v ∈ r, 0 ≤ v ∧ v < (n : Int)) → r ∈ allRows n r.length
 | [], _ => List.mem_singleton.2 rfl
 | v :: r, h => by
  obtain ⟨h0, h1⟩ := h v List.mem_cons_self
  refine List.mem_flatMap.2 ⟨v.toNat, List.mem_range.2 (by omega), List.mem_map.2 ⟨r, allRows_mem fun x hx => h x (List.mem_cons_of_mem _ hx), ?_⟩⟩
  rw [Int.toNat_of_nonneg h0]
theorem allRows_len {n k : Nat} (hn : n ≤ 5) (hk : k ≤ 5) : (allRows n k).length ≤ 3125 := by
 have key : ∀ k, (allRows n k).length = n ^ k := fun k => by
  induction k with
  | zero => rfl
  | succ k ih =>
   rw [allRows, List.length_flatMap]
   simp only [List.length_map, ih]
   rw [show (List.map (fun _ : Nat => n ^ k) (List.range n)).sum = n * n ^ k by
    rw [List.map_const', List.sum_replicate_nat, List.length_range]]
   rw [Nat.pow_succ, Nat.mul_comm]
 rw [key]
 exact Nat.le_trans (Nat.pow_le_pow_left hn k) (Nat.pow_le_pow_right (n := 5) (by decide) hk)
structure GenM (m : ApiDet) (mp : List (ByteArray × Int)) (l : List MonoidElement) (i : Nat) : Prop where
 first : l[0]? = some ⟨doesOf m [], []⟩
 ok : ∀ j x, l[j]? = some x → ElOk m x ∧ x.fWord.length ≤ j
 nd : (l.map (·.fDoes)).Nodup
 keyed : ∀ ds : List Int, (∀ v ∈ ds, 0 ≤ v ∧ v < 65536) → ((mget (keyR ds) mp).getD 0 = 0 ↔ ∀ x ∈ l, x.fDoes ≠ ds)
 closed : ∀ j x, j < i → l[j]? = some x → ∀ a, InA m a → ∃ y ∈ l, y.fDoes = x.fDoes.map fun q => stepI m q a
theorem GenM.le {m : ApiDet} (hm : DetOk m) (hn : m.fNext.length ≤ 5) {mp : List (ByteArray × Int)} {l : List MonoidElement} {i : Nat} (h : GenM m mp l i) : l.length ≤ 3125 := by
 have := nodup_le (l := l.map (·.fDoes)) (m := allRows m.fNext.length m.fNext.length) h.nd fun d hd => by
  obtain ⟨x, hx, rfl⟩ := List.mem_map.1 hd
  obtain ⟨j, hj⟩ := List.getElem?_of_mem hx
  have ho := (h.ok j x hj).1
  rw [ho.does]
  have := allRows_mem (n := m.fNext.length) (r := doesOf m x.fWord) fun v hv => doesOf_in hm ho.word v hv
  rw [doesOf_len] at this
  exact this
 rw [List.length_map] at this
 exact Nat.le_trans this (allRows_len hn hn)
theorem GenM.push {m : ApiDet} {mp : List (ByteArray × Int)} {l : List MonoidElement} {i : Nat} (hm : DetOk m) (hn : m.fNext.length ≤ 5) (h : GenM m mp l i) {y : MonoidElement} (hy : ElOk m y) (hl : y.fWord.length ≤ l.length) (hnew : ∀ x ∈ l, x.fDoes ≠ y.fDoes) (hi : i < l.length) : GenM m (mput (keyR y.fDoes) (((l ++ [y]).length : Nat) : Int) mp) (l ++ [y]) i := by
 have hsm : ∀ v ∈ y.fDoes, 0 ≤ v ∧ v < 65536 := fun v hv => by
  rw [hy.does] at hv
  have := doesOf_in hm hy.word v hv
  have h1 := this.1
  have h2 := this.2
  omega
 refine ⟨?_, fun j x hj => ?_, ?_, fun ds hds => ?_, fun j x hj hx a ha => ?_⟩
 ·rw [List.getElem?_append_left (by omega)]
  exact h.first
 ·by_cases hjl : j < l.length
  ·rw [List.getElem?_append_left hjl] at hj
   exact h.ok j x hj
  ·have := (List.getElem?_eq_some_iff.1 hj).1
   rw [List.length_append, List.length_singleton] at this
   have e : j = l.length := by omega
   subst e
   rw [List.getElem?_append_right (Nat.le_refl _), Nat.sub_self] at hj
   cases hj
   exact ⟨hy, hl⟩
 ·rw [List.map_append, List.nodup_append]
  refine ⟨h.nd, by simp, fun a ha b hb => ?_⟩
  obtain ⟨x, hx, rfl⟩ := List.mem_map.1 ha
  rw [List.map_cons, List.map_nil, List.mem_singleton] at hb
  subst hb
  exact hnew x hx
 ·rw [mget_put]
  by_cases e : keyR ds = keyR y.fDoes
  ·rw [if_pos e]
   have e2 := keyR_inj hds hsm e
   constructor
   ·intro hz
    simp only [Option.getD_some, List.length_append, List.length_singleton] at hz
    omega
   ·intro hz
    exact absurd e2.symm (hz y (by simp))
  ·rw [if_neg e, h.keyed ds hds]
   constructor
   ·intro hz x hx
    rcases List.mem_append.1 hx with hx | hx
    ·exact hz x hx
    ·rw [List.mem_singleton] at hx
     subst hx
     intro e2
     exact e (by rw [e2])
   ·intro hz x hx
    exact hz x (List.mem_append_left _ hx)
 ·rw [List.getElem?_append_left (by omega)] at hx
  obtain ⟨z, hz, e⟩ := h.closed j x hj hx a ha
  exact ⟨z, List.mem_append_left _ hz, e⟩
theorem GenM.all {m : ApiDet} {mp : List (ByteArray × Int)} {l : List MonoidElement} {i : Nat} (h : GenM m mp l i) (hi : l.length ≤ i) : ∀ (w : List Int) (x : MonoidElement), wOk m w → x ∈ l → ∃ y ∈ l, y.fDoes = x.fDoes.map fun q => aftI m q w
 | [], x, _, hx => ⟨x, hx, by
   have : (fun q => aftI m q []) = id := rfl
   rw [this, List.map_id]⟩
 | a :: w, x, hw, hx => by
  obtain ⟨j, hj⟩ := List.getElem?_of_mem hx
  have hjl := (List.getElem?_eq_some_iff.1 hj).1
  obtain ⟨y, hy, e⟩ := h.closed j x (by omega) hj a (hw a List.mem_cons_self)
  obtain ⟨z, hz, e2⟩ := h.all hi w y (fun b hb => hw b (List.mem_cons_of_mem _ hb)) hy
  refine ⟨z, hz, ?_⟩
  rw [e2, e, List.map_map]
  rfl
theorem wr_nat {k : Nat} (h : k < 9223372036854775807) : wr ((k : Int) + 1) = ((k + 1 : Nat) : Int) := by rw [wr_in (by omega) (by omega)]; rfl
theorem elems_plain (m : ApiDet) (hm : DetOk m) (hn : m.fNext.length ≤ 5) : elems_vc m (ElemQ m) := by
 have hlet := hm.letters
 unfold elems_vc
 intro _ _
 refine ⟨fun i l => ∃ k : Nat, i = k ∧ k ≤ m.fNext.length ∧ l = (List.range k).map fun (q : Nat) => (q : Int), fun i _ => m.fNext.length - i.toNat, ⟨0, rfl, Nat.zero_le _, rfl⟩, ?_⟩
 rintro _ _ ⟨k, rfl, hk, rfl⟩
 refine ⟨fun hb => ?_, fun hb => ?_⟩
 ·have hlt := dlt hb
  refine ⟨capOk_of (by simp only [List.length_map, List.length_range, List.length_singleton]; omega), ⟨k + 1, wr_nat (by omega), hlt, ?_⟩, ?_⟩
  ·rw [List.range_succ, List.map_append]
   rfl
  ·rw [wr_nat (by omega)]
   show m.fNext.length - (k + 1) < m.fNext.length - k
   omega
 have hke : k = m.fNext.length := by have := dge hb; omega
 subst hke
 have hid : ((List.range m.fNext.length).map fun (q : Nat) => (q : Int)) = doesOf m [] := rfl
 rw [hid]
 have hw0 : wOk m [] := fun a ha => by cases ha
 refine ⟨by rw [doesOf_len]; omega, fun i mp l => ∃ k : Nat, i = k ∧ k ≤ l.length ∧ GenM m mp l k, fun i _ _ => 4000 - i.toNat, ⟨0, rfl, Nat.zero_le _, rfl, fun j x hj => ?_, by simp, fun ds hds => ?_, fun j x hj => by omega⟩, ?_⟩
 ·cases j with
  | zero => cases hj; exact ⟨⟨rfl, hw0⟩, Nat.le_refl _⟩
  | succ j => cases hj
 ·rw [mget_put]
  by_cases e : keyR ds = keyR (doesOf m [])
  ·rw [if_pos e]
   have e2 := keyR_inj hds (fun v hv => by have := doesOf_in hm hw0 v hv; have h1 := this.1; have h2 := this.2; omega) e
   constructor
   ·intro hz
    cases hz
   ·intro hz
    exact absurd e2.symm (hz _ (List.mem_singleton.2 rfl))
  ·rw [if_neg e]
   constructor
   ·intro _ x hx e2
    rw [List.mem_singleton] at hx
    subst hx
    exact e (by rw [← e2])
   ·intro _
    rfl
 rintro _ mp l ⟨i, rfl, hi, hG⟩
 have hle := hG.le hm hn
 refine ⟨fun hb => ?_, fun hb => ?_⟩
 ·have hil := dlt hb
  refine ⟨fun b mp l => ∃ k : Nat, b = k ∧ (k : Int) ≤ m.fLetters ∧ i < l.length ∧ GenM m mp l i ∧ ∀ x, l[i]? = some x → ∀ a, InA m a → a < (k : Int) → ∃ y ∈ l, y.fDoes = x.fDoes.map fun q => stepI m q a, fun b _ _ => m.fLetters.toNat - b.toNat, ⟨0, rfl, by omega, hil, hG, fun x _ a ha hlt => by have := ha.1; omega⟩, ?_⟩
  clear hG hle hil hi
  rintro _ mp l ⟨b, rfl, hb1, hil, hG, hcl⟩
  have hle := hG.le hm hn
  refine ⟨fun hb => ?_, fun hb => ?_⟩
  ·have hblt := of_decide_eq_true hb
   have hxi := List.getElem?_eq_getElem hil
   obtain ⟨x, hx⟩ : ∃ x, x = l[i] := ⟨_, rfl⟩
   rw [← hx] at hxi
   obtain ⟨ho, how⟩ := hG.ok i x hxi
   have hidx : idx l (i : Int) = some x := by rw [idx_at hil, ← hx]
   have hA : InA m (b : Int) := ⟨Int.natCast_nonneg _, hblt⟩
   have hdl : x.fDoes.length = m.fNext.length := by rw [ho.does, doesOf_len]
   have hwrb : wr ((b : Int) + 1) = ((b + 1 : Nat) : Int) := wr_nat (by omega)
   refine ⟨fun mp l => i < l.length ∧ GenM m mp l i ∧ ∀ x, l[i]? = some x → ∀ a, InA m a → a < ((b + 1 : Nat) : Int) → ∃ y ∈ l, y.fDoes = x.fDoes.map fun q => stepI m q a, ⟨x, hidx, by omega, capOk_of (by simp only [List.length_singleton]; omega), x, hidx, ?_⟩, ?_⟩
   ·refine ⟨fun z l9 => ∃ k : Nat, z = k ∧ k ≤ x.fDoes.length ∧ l9 = (x.fDoes.take k).map fun q => stepI m q (b : Int), fun z _ => x.fDoes.length - z.toNat, ⟨0, rfl, Nat.zero_le _, rfl⟩, ?_⟩
    rintro _ _ ⟨k, rfl, hk, rfl⟩
    refine ⟨fun hb => ?_, fun hb => ?_⟩
    ·have hkl := dlt hb
     have hall : ∀ v ∈ x.fDoes, InQ m v := by
      rw [ho.does]
      exact doesOf_in hm ho.word
     have hqin : InQ m x.fDoes[k] := hall _ (List.getElem_mem hkl)
     obtain ⟨s1, s2, s3⟩ := stepI_at hm hqin hA
     refine ⟨_, idx_at hkl, _, s1, _, s2, capOk_of (by simp only [List.length_map, List.length_take, List.length_singleton]; omega), ⟨k + 1, wr_nat (by omega), hkl, ?_⟩, ?_⟩
     ·rw [List.take_add_one, List.getElem?_eq_getElem hkl, List.map_append]
      rfl
     ·rw [wr_nat (by omega)]
      show x.fDoes.length - (k + 1) < x.fDoes.length - k
      omega
    ·rw [List.take_of_length_le (dge hb)]
     have hY : ElOk m ⟨x.fDoes.map fun q => stepI m q (b : Int), x.fWord ++ [(b : Int)]⟩ := ⟨by rw [ho.does]; exact doesOf_snoc.symm, fun a ha => by
      rcases List.mem_append.1 ha with ha | ha
      ·exact ho.word a ha
      ·rw [List.mem_singleton] at ha
       subst ha
       exact hA⟩
     have hYs : ∀ v ∈ (x.fDoes.map fun q => stepI m q (b : Int)), 0 ≤ v ∧ v < 65536 := fun v hv => by
      have hv2 : v ∈ doesOf m (x.fWord ++ [(b : Int)]) := by
       rw [← hY.does]
       exact hv
      have := doesOf_in hm hY.word v hv2
      have h1 := this.1
      have h2 := this.2
      omega
     refine ⟨by rw [List.length_map]; omega, fun hz => ?_, fun hz => ?_⟩
     ·have hnew := (hG.keyed _ hYs).1 (eq_of_beq hz)
      refine ⟨capOk_of (by simp only [List.length_singleton]; omega), by rw [List.length_append]; omega, hG.push hm hn hY (by simp only [List.length_append, List.length_singleton]; omega) hnew hil, fun x' hx' a ha hlt => ?_⟩
      rw [List.getElem?_append_left hil, hxi] at hx'
      cases hx'
      by_cases hab : a < (b : Int)
      ·obtain ⟨y, hy, e⟩ := hcl x hxi a ha hab
       exact ⟨y, List.mem_append_left _ hy, e⟩
      ·have : a = (b : Int) := by omega
       subst this
       exact ⟨_, List.mem_append_right _ (List.mem_singleton.2 rfl), rfl⟩
     ·refine ⟨hil, hG, fun x' hx' a ha hlt => ?_⟩
      rw [hxi] at hx'
      cases hx'
      by_cases hab : a < (b : Int)
      ·exact hcl x hxi a ha hab
      ·have : a = (b : Int) := by omega
       subst this
       refine Classical.byContradiction fun hno => ?_
       have := (hG.keyed _ hYs).2 fun y hy e => hno ⟨y, hy, e⟩
       rw [this] at hz
       cases hz
   ·rintro mp2 l2 ⟨h1, h2, h3⟩
    refine ⟨⟨b + 1, hwrb, by omega, h1, h2, h3⟩, ?_⟩
    rw [hwrb]
    show m.fLetters.toNat - (b + 1) < m.fLetters.toNat - b
    omega
  ·have hbge := of_decide_eq_false hb
   refine ⟨⟨i + 1, wr_nat (by omega), hil, hG.first, hG.ok, hG.nd, hG.keyed, fun j x hj hx a ha => ?_⟩, ?_⟩
   ·by_cases hji : j < i
    ·exact hG.closed j x hji hx a ha
    ·have : j = i := by omega
     subst this
     have := ha.2
     exact hcl x hx a ha (by omega)
   ·rw [wr_nat (by omega)]
    show 4000 - (i + 1) < 4000 - i
    omega
 ·have hge := dge hb
  refine ⟨fun x hx => ?_, by omega, fun w hw => ?_⟩
  ·obtain ⟨j, hj⟩ := List.getElem?_of_mem hx
   have hjl := (List.getElem?_eq_some_iff.1 hj).1
   obtain ⟨h1, h2⟩ := hG.ok j x hj
   exact ⟨h1, by omega⟩
  ·obtain ⟨y, hy, e⟩ := hG.all hge w ⟨doesOf m [], []⟩ hw (List.mem_of_getElem? hG.first)
   refine ⟨y, hy, ?_⟩
   rw [e]
   exact (doesOf_app (u := []) (v := w)).symm
theorem elems_ct (d : ApiDet) (hp : DetOk d ∧ d.fNext.length ≤ 5) : Ct 87 [.sv (.agg [I d.fLetters, I d.fStart, LS (lsT intT) d.fNext, LS intT d.fMark])] [] (ElemQ d) (fun (r : (List MonoidElement)) => .sv (.one (LS MonoidElement.ty r))) := elems_walk d (ElemQ d) (elems_plain d hp.1 hp.2)
end Go.Proofs.Ytapnmjeadbhffaa


namespace Go.Proofs.Ytapnmjeadbhffaa
set_option linter.unusedSimpArgs false
set_option linter.unusedVariables false
set_option maxRecDepth 100000
section
variable {nxt : DetCouple × Int → DetCouple} {ok : DetCouple → Bool}
abbrev Ways := List (DetCouple × List Int)
def growS (nxt : DetCouple × Int → DetCouple) (c : DetCouple) : Nat → Ways → List DetCouple → Ways × List DetCouple
 | 0, mp, l => (mp, l)
 | b + 1, mp, l => let s := growS nxt c b mp l
  if (mget (nxt (c, (b : Int))) s.1).isSome = true then s else (mput (nxt (c, (b : Int))) ((mget c s.1).getD [] ++ [(b : Int)]) s.1, s.2 ++ [nxt (c, (b : Int))])
def seekS (nxt : DetCouple × Int → DetCouple) (ok : DetCouple → Bool) (L : Nat) : Nat → Ways → List DetCouple → List Int × Bool
 | 0, _, _ => ([], false)
 | _ + 1, _, [] => ([], false)
 | n + 1, mp, c :: l => if ok c = true then ((mget c mp).getD [], true) else seekS nxt ok L n (growS nxt c L mp (c :: l)).1 ((growS nxt c L mp (c :: l)).2.drop 1)
def seekR (first : DetCouple) (L : Int) (nxt : DetCouple × Int → DetCouple) (ok : DetCouple → Bool) : List Int × Bool := seekS nxt ok L.toNat 3000000 [(first, [])] [first]
structure SInv (nxt : DetCouple × Int → DetCouple) (ok : DetCouple → Bool) (L : Nat) (M : List DetCouple) (first : DetCouple) (mp : Ways) (l : List DetCouple) : Prop where
 nd : (mp.map (·.1)).Nodup
 inM : ∀ c ∈ mp.map (·.1), c ∈ M
 sub : ∀ c ∈ l, c ∈ mp.map (·.1)
 le : l.length ≤ mp.length
 way : ∀ c w, mget c mp = some w → w.length ≤ mp.length ∧ (∀ a ∈ w, 0 ≤ a ∧ a < (L : Int)) ∧ w.foldl (fun c a => nxt (c, a)) first = c
 first : first ∈ mp.map (·.1)
theorem mput_len {c : DetCouple} {w : List Int} {mp : Ways} (h : mget c mp = none) : (mput c w mp).length = mp.length + 1 := by
 have := congrArg List.length (mput_keys (a := c) (v := w) (D := mp))
 rw [if_neg (mget_none.1 h)] at this
 simpa using this
theorem SInv.cap {L : Nat} {M : List DetCouple} {first : DetCouple} {mp : Ways} {l : List DetCouple} (h : SInv nxt ok L M first mp l) : mp.length ≤ M.length := by
 have := nodup_le h.nd h.inM
 rwa [List.length_map] at this
theorem SInv.step {L : Nat} {M : List DetCouple} {first : DetCouple} {mp : Ways} {l : List DetCouple} (h : SInv nxt ok L M first mp l) {c : DetCouple} {b : Int} (hb : 0 ≤ b ∧ b < (L : Int)) (hc : c ∈ mp.map (·.1)) (ht : nxt (c, b) ∈ M) (hn : mget (nxt (c, b)) mp = none) :
  SInv nxt ok L M first (mput (nxt (c, b)) ((mget c mp).getD [] ++ [b]) mp) (l ++ [nxt (c, b)]) := by
 have hk : (mput (nxt (c, b)) ((mget c mp).getD [] ++ [b]) mp).map (·.1) = mp.map (·.1) ++ [nxt (c, b)] := by rw [mput_keys, if_neg (mget_none.1 hn)]
 have hlen := mput_len (w := (mget c mp).getD [] ++ [b]) hn
 obtain ⟨w0, hw0⟩ : ∃ w0, mget c mp = some w0 := by
  cases e : mget c mp with
  | none => exact absurd hc (mget_none.1 e)
  | some w => exact ⟨w, rfl⟩
 obtain ⟨k1, k2, k3⟩ := h.way c w0 hw0
 refine ⟨mput_nodup h.nd, fun d hd => ?_, fun d hd => ?_, ?_, fun d w hw => ?_, ?_⟩
 ·rw [hk] at hd
  rcases List.mem_append.1 hd with hd | hd
  ·exact h.inM d hd
  ·rw [List.mem_singleton] at hd
   subst hd
   exact ht
 ·rw [hk]
  rcases List.mem_append.1 hd with hd | hd
  ·exact List.mem_append_left _ (h.sub d hd)
  ·exact List.mem_append_right _ hd
 ·rw [hlen, List.length_append]
  have := h.le
  simp only [List.length_singleton]
  omega
 ·rw [hlen]
  rw [mget_put] at hw
  split at hw
  ·rename_i e
   cases hw
   rw [hw0]
   simp only [Option.getD_some]
   refine ⟨by rw [List.length_append, List.length_singleton]; omega, fun a ha => ?_, ?_⟩
   ·rcases List.mem_append.1 ha with ha | ha
    ·exact k2 a ha
    ·rw [List.mem_singleton] at ha
     subst ha
     exact hb
   ·rw [List.foldl_append, k3]
    exact e.symm
  ·obtain ⟨h1, h2, h3⟩ := h.way d w hw
   exact ⟨by omega, h2, h3⟩
 ·rw [hk]
  exact List.mem_append_left _ h.first
theorem growS_ok {L : Nat} {M : List DetCouple} {first c : DetCouple} {mp : Ways} {l : List DetCouple} (h : SInv nxt ok L M first mp (c :: l)) (hM : ∀ c ∈ M, ∀ b : Int, 0 ≤ b → b < (L : Int) → nxt (c, b) ∈ M) :
  ∀ b, b ≤ L → SInv nxt ok L M first (growS nxt c b mp (c :: l)).1 (growS nxt c b mp (c :: l)).2 ∧ (∃ r, (growS nxt c b mp (c :: l)).2 = c :: l ++ r) ∧ (growS nxt c b mp (c :: l)).2.length + mp.length = (c :: l).length + (growS nxt c b mp (c :: l)).1.length ∧ (∀ d ∈ mp.map (·.1), d ∈ (growS nxt c b mp (c :: l)).1.map (·.1)) ∧ (∀ a : Nat, a < b → nxt (c, (a : Int)) ∈ (growS nxt c b mp (c :: l)).1.map (·.1)) ∧ (∀ d ∈ (growS nxt c b mp (c :: l)).1.map (·.1), d ∈ mp.map (·.1) ∨ d ∈ (growS nxt c b mp (c :: l)).2.drop 1)
 | 0, _ => ⟨h, ⟨[], by simp [growS]⟩, by rw [growS], fun d hd => hd, fun a ha => by omega, fun d hd => .inl hd⟩
 | b + 1, hb => by
  obtain ⟨h1, ⟨r, h2⟩, h3, h4, h5, h6⟩ := growS_ok h hM b (by omega)
  unfold growS
  simp only
  generalize hs : growS nxt c b mp (c :: l) = s at *
  have hcV : c ∈ s.1.map (·.1) := h4 c (h.sub c List.mem_cons_self)
  by_cases hm : (mget (nxt (c, (b : Int))) s.1).isSome = true
  ·rw [if_pos hm]
   refine ⟨h1, ⟨r, h2⟩, h3, h4, fun a ha => ?_, h6⟩
   by_cases hab : a < b
   ·exact h5 a hab
   ·have : a = b := by omega
    subst this
    refine Classical.byContradiction fun hn => ?_
    rw [mget_none.2 hn] at hm
    cases hm
  ·rw [if_neg hm]
   have hn : mget (nxt (c, (b : Int))) s.1 = none := by
    cases e : mget (nxt (c, (b : Int))) s.1 with
    | none => rfl
    | some w => rw [e] at hm; exact absurd rfl hm
   have hk : (mput (nxt (c, (b : Int))) ((mget c s.1).getD [] ++ [(b : Int)]) s.1).map (·.1) = s.1.map (·.1) ++ [nxt (c, (b : Int))] := by rw [mput_keys, if_neg (mget_none.1 hn)]
   refine ⟨h1.step ⟨Int.natCast_nonneg _, by omega⟩ hcV (hM c (h1.inM c hcV) _ (Int.natCast_nonneg _) (by omega)) hn, ⟨r ++ [nxt (c, (b : Int))], by show s.2 ++ _ = _; rw [h2, List.append_assoc]⟩, ?_, fun d hd => ?_, fun a ha => ?_, fun d hd => ?_⟩
   ·show (s.2 ++ [nxt (c, (b : Int))]).length + mp.length = (c :: l).length + (mput (nxt (c, (b : Int))) ((mget c s.1).getD [] ++ [(b : Int)]) s.1).length
    rw [mput_len hn, List.length_append, List.length_singleton]
    omega
   ·show d ∈ (mput (nxt (c, (b : Int))) ((mget c s.1).getD [] ++ [(b : Int)]) s.1).map (·.1)
    rw [hk]
    exact List.mem_append_left _ (h4 d hd)
   ·show _ ∈ (mput (nxt (c, (b : Int))) ((mget c s.1).getD [] ++ [(b : Int)]) s.1).map (·.1)
    rw [hk]
    by_cases hab : a < b
    ·exact List.mem_append_left _ (h5 a hab)
    ·have : a = b := by omega
     subst this
     exact List.mem_append_right _ (List.mem_singleton.2 rfl)
   ·replace hd : d ∈ (mput (nxt (c, (b : Int))) ((mget c s.1).getD [] ++ [(b : Int)]) s.1).map (·.1) := hd
    rw [hk] at hd
    show d ∈ mp.map (·.1) ∨ d ∈ (s.2 ++ [nxt (c, (b : Int))]).drop 1
    have hlen : 1 ≤ s.2.length := by rw [h2, List.length_append, List.length_cons]; omega
    rw [List.drop_append_of_le_length hlen]
    rcases List.mem_append.1 hd with hd | hd
    ·exact (h6 d hd).imp id fun h => List.mem_append_left _ h
    ·exact .inr (List.mem_append_right _ hd)
theorem growS_drop {L : Nat} {M : List DetCouple} {first c : DetCouple} {mp : Ways} {l : List DetCouple} (h : SInv nxt ok L M first mp (c :: l)) (hM : ∀ c ∈ M, ∀ b : Int, 0 ≤ b → b < (L : Int) → nxt (c, b) ∈ M) : SInv nxt ok L M first (growS nxt c L mp (c :: l)).1 ((growS nxt c L mp (c :: l)).2.drop 1) := by
 obtain ⟨h1, _⟩ := growS_ok h hM L (Nat.le_refl _)
 exact ⟨h1.nd, h1.inM, fun d hd => h1.sub d (List.mem_of_mem_drop hd), by have := h1.le; rw [List.length_drop]; omega, h1.way, h1.first⟩
def Done (nxt : DetCouple × Int → DetCouple) (ok : DetCouple → Bool) (L : Nat) (mp : Ways) (l : List DetCouple) : Prop := ∀ c ∈ mp.map (·.1), c ∈ l ∨ (ok c = false ∧ ∀ a : Int, 0 ≤ a → a < (L : Int) → nxt (c, a) ∈ mp.map (·.1))
theorem seekS_ok {L : Nat} {M : List DetCouple} {first : DetCouple} (hM : ∀ c ∈ M, ∀ b : Int, 0 ≤ b → b < (L : Int) → nxt (c, b) ∈ M) : ∀ (n : Nat) (mp : Ways) (l : List DetCouple), SInv nxt ok L M first mp l → Done nxt ok L mp l → 2 * (M.length - mp.length) + l.length < n →
  ((seekS nxt ok L n mp l).2 = true ↔ ∃ w : List Int, (∀ a ∈ w, 0 ≤ a ∧ a < (L : Int)) ∧ ok (w.foldl (fun c a => nxt (c, a)) first) = true)
 | 0, _, _, _, _, h => by omega
 | n + 1, mp, [], h, hd, _ => by
  constructor
  ·intro e
   cases e
  ·rintro ⟨w, hw, e⟩
   exfalso
   have key : ∀ (w : List Int) (c : DetCouple), (∀ a ∈ w, 0 ≤ a ∧ a < (L : Int)) → c ∈ mp.map (·.1) → ok (w.foldl (fun c a => nxt (c, a)) c) = false := by
    intro w
    induction w with
    | nil =>
     intro c _ hc
     rcases hd c hc with hx | hx
     ·cases hx
     ·exact hx.1
    | cons a w ih =>
     intro c hw hc
     rcases hd c hc with hx | hx
     ·cases hx
     ·obtain ⟨a0, a1⟩ := hw a List.mem_cons_self
      exact ih _ (fun b hb => hw b (List.mem_cons_of_mem _ hb)) (hx.2 a a0 a1)
   rw [key w first hw h.first] at e
   cases e
 | n + 1, mp, c :: l, h, hd, hn => by
  rw [seekS]
  by_cases hc : ok c = true
  ·rw [if_pos hc]
   refine ⟨fun _ => ?_, fun _ => rfl⟩
   cases e : mget c mp with
   | none => exact absurd (h.sub c List.mem_cons_self) (mget_none.1 e)
   | some w =>
    obtain ⟨_, k2, k3⟩ := h.way c w e
    exact ⟨w, k2, by rw [k3]; exact hc⟩
  ·rw [if_neg hc]
   obtain ⟨h1, ⟨r, h2⟩, h3, h4, h5, h6⟩ := growS_ok h hM L (Nat.le_refl _)
   refine seekS_ok hM n _ _ (growS_drop h hM) (fun d hd' => ?_) ?_
   ·rcases h6 d hd' with hx | hx
    ·rcases hd d hx with hy | ⟨hy, hz⟩
     ·rcases List.mem_cons.1 hy with rfl | hy
      ·exact .inr ⟨by simpa using hc, fun a a0 a1 => by
        have := h5 a.toNat (by omega)
        rw [Int.toNat_of_nonneg a0] at this
        exact this⟩
      ·refine .inl ?_
       rw [h2]
       exact List.mem_append_left _ hy
     ·exact .inr ⟨hy, fun a a0 a1 => h4 _ (hz a a0 a1)⟩
    ·exact .inl hx
   ·have := h1.cap
    have := h.cap
    have hl2 := congrArg List.length h2
    rw [List.length_append] at hl2
    rw [List.length_drop]
    simp only [List.length_cons] at h3 hn hl2
    omega
def SeekPre (first : DetCouple) (L : Int) (domnxt : DetCouple × Int → Prop) (nxt : DetCouple × Int → DetCouple) (domok : DetCouple → Prop) : Prop :=
 (0 ≤ L ∧ L ≤ 1000) ∧ ∃ M : List DetCouple, M.length ≤ 1000000 ∧ first ∈ M ∧ (∀ c ∈ M, domok c) ∧ ∀ c ∈ M, ∀ b : Int, 0 ≤ b → b < L → domnxt (c, b) ∧ nxt (c, b) ∈ M
theorem sinv_first {L : Nat} {M : List DetCouple} {first : DetCouple} (h : first ∈ M) : SInv nxt ok L M first [(first, [])] [first] := by
 refine ⟨by simp, fun c hc => ?_, fun c hc => ?_, Nat.le_refl _, fun c w hw => ?_, by simp⟩
 ·rw [List.map_cons, List.map_nil, List.mem_singleton] at hc
  subst hc
  exact h
 ·rw [List.mem_singleton] at hc
  subst hc
  simp
 ·simp only [mget] at hw
  split at hw
  ·rename_i e
   cases hw
   exact ⟨Nat.zero_le _, fun a ha => (by cases ha), e.symm⟩
  ·cases hw
theorem seekR_ok {first : DetCouple} {L : Int} {domnxt : DetCouple × Int → Prop} {domok : DetCouple → Prop} (hp : SeekPre first L domnxt nxt domok) : (seekR first L nxt ok).2 = true ↔ ∃ w : List Int, (∀ a ∈ w, 0 ≤ a ∧ a < L) ∧ ok (w.foldl (fun c a => nxt (c, a)) first) = true := by
 obtain ⟨⟨l0, l1⟩, M, hM, h0, _, h2⟩ := hp
 have hL : ((L.toNat : Nat) : Int) = L := Int.toNat_of_nonneg l0
 unfold seekR
 rw [seekS_ok (M := M) (first := first) (fun c hc b b0 b1 => (h2 c hc b b0 (by omega)).2) 3000000 _ _ (sinv_first h0) (fun c hc => by
  rw [List.map_cons, List.map_nil, List.mem_singleton] at hc
  subst hc
  exact .inl (List.mem_singleton.2 rfl)) (by simp only [List.length_singleton]; omega), hL]
theorem seeks_plain (first : DetCouple) (L : Int) (domnxt : DetCouple × Int → Prop) (domok : DetCouple → Prop) (hp : SeekPre first L domnxt nxt domok) : detSeeks_vc first L domnxt nxt domok ok (fun r => r = seekR first L nxt ok) := by
 obtain ⟨⟨l0, l1⟩, M, hM, h0, h1, h2⟩ := hp
 obtain ⟨K, rfl⟩ : ∃ K : Nat, L = K := ⟨L.toNat, by omega⟩
 have hcl : ∀ c ∈ M, ∀ b : Int, 0 ≤ b → b < (K : Int) → nxt (c, b) ∈ M := fun c hc b b0 b1 => (h2 c hc b b0 b1).2
 obtain ⟨R, hR⟩ : ∃ R, R = seekR first (K : Int) nxt ok := ⟨_, rfl⟩
 rw [← hR]
 unfold seekR at hR
 rw [Int.toNat_natCast] at hR
 unfold detSeeks_vc
 refine ⟨fun mp l => SInv nxt ok K M first mp l ∧ ∃ n, 2 * (M.length - mp.length) + l.length < n ∧ seekS nxt ok K n mp l = R, fun mp l => 2 * (M.length - mp.length) + l.length, ⟨sinv_first h0, 3000000, by show 2 * (M.length - 1) + 1 < 3000000; omega, hR.symm⟩, ?_⟩
 rintro mp l ⟨hI, n, hn, hS⟩
 have hcap := hI.cap
 refine ⟨fun hb => ?_, fun hb => ?_⟩
 ·obtain ⟨c, l', rfl⟩ : ∃ c l', l = c :: l' := by
   cases l with
   | nil => simp at hb
   | cons c l' => exact ⟨c, l', rfl⟩
  obtain ⟨n', rfl⟩ : ∃ n', n = n' + 1 := ⟨n - 1, by omega⟩
  have hcV := hI.sub c List.mem_cons_self
  have hcM := hI.inM c hcV
  have hix : ∀ r : List DetCouple, idx (c :: l' ++ r) 0 = some c := fun r => rfl
  rw [seekS] at hS
  refine ⟨c, rfl, h1 c hcM, fun hok => ⟨c, rfl, ?_⟩, fun hok => ?_⟩
  ·rw [if_pos hok] at hS
   exact hS
  rw [if_neg (by rw [hok]; decide)] at hS
  refine ⟨fun b mp2 l2 => ∃ k : Nat, b = k ∧ k ≤ K ∧ mp2 = (growS nxt c k mp (c :: l')).1 ∧ l2 = (growS nxt c k mp (c :: l')).2, fun b _ _ => K - b.toNat, ⟨0, rfl, Nat.zero_le _, rfl, rfl⟩, ?_⟩
  rintro _ _ _ ⟨b, rfl, hbK, rfl, rfl⟩
  obtain ⟨g1, ⟨r, g2⟩, g3, g4, g5, g6⟩ := growS_ok hI hcl b hbK
  have gcap := g1.cap
  have gle := g1.le
  refine ⟨fun hb => ?_, fun hb => ?_⟩
  ·have hlt : b < K := by have := of_decide_eq_true hb; omega
   have hw : wr ((b : Int) + 1) = ((b + 1 : Nat) : Int) := wr_nat (by omega)
   have hdn := (h2 c hcM (b : Int) (Int.natCast_nonneg _) (by omega)).1
   have hgrow : growS nxt c (b + 1) mp (c :: l') = if (mget (nxt (c, (b : Int))) (growS nxt c b mp (c :: l')).1).isSome = true then growS nxt c b mp (c :: l') else (mput (nxt (c, (b : Int))) ((mget c (growS nxt c b mp (c :: l')).1).getD [] ++ [(b : Int)]) (growS nxt c b mp (c :: l')).1, (growS nxt c b mp (c :: l')).2 ++ [nxt (c, (b : Int))]) := rfl
   refine ⟨fun mp2 l2 => mp2 = (growS nxt c (b + 1) mp (c :: l')).1 ∧ l2 = (growS nxt c (b + 1) mp (c :: l')).2, ⟨c, by rw [g2]; rfl, hdn, fun hm => ⟨c, by rw [g2]; rfl, ?_, ?_, ?_, ?_⟩, fun hm => ?_⟩, ?_⟩
   ·have : ((mget c (growS nxt c b mp (c :: l')).1).getD []).length ≤ M.length := by
     cases e : mget c (growS nxt c b mp (c :: l')).1 with
     | none => exact Nat.zero_le _
     | some w => exact Nat.le_trans (g1.way c w e).1 gcap
    omega
   ·have : ((mget c (growS nxt c b mp (c :: l')).1).getD []).length ≤ M.length := by
     cases e : mget c (growS nxt c b mp (c :: l')).1 with
     | none => exact Nat.zero_le _
     | some w => exact Nat.le_trans (g1.way c w e).1 gcap
    exact capOk_of (by simp only [List.length_singleton]; omega)
   ·exact capOk_of (by simp only [List.length_singleton]; omega)
   ·rw [Bool.not_eq_true'] at hm
    rw [hgrow, if_neg (by rw [hm]; decide)]
    exact ⟨rfl, rfl⟩
   ·rw [Bool.not_eq_false'] at hm
    rw [hgrow, if_pos hm]
    exact ⟨rfl, rfl⟩
   ·rintro _ _ ⟨rfl, rfl⟩
    refine ⟨⟨b + 1, hw, hlt, rfl, rfl⟩, ?_⟩
    rw [hw]
    show K - (b + 1) < K - b
    omega
  ·have hbK2 : b = K := by have := of_decide_eq_false hb; omega
   subst hbK2
   have hlen : 1 ≤ (growS nxt c b mp (c :: l')).2.length := by rw [g2, List.length_append, List.length_cons]; omega
   have hmu : 2 * (M.length - (growS nxt c b mp (c :: l')).1.length) + ((growS nxt c b mp (c :: l')).2.drop 1).length < 2 * (M.length - mp.length) + (c :: l').length := by
    have hl2 := congrArg List.length g2
    rw [List.length_append] at hl2
    rw [List.length_drop]
    simp only [List.length_cons] at g3 hl2 ⊢
    omega
   exact ⟨⟨by decide, by show (1 : Int) ≤ ((growS nxt c b mp (c :: l')).2.length : Int); omega⟩, ⟨growS_drop hI hcl, n', by show 2 * (M.length - (growS nxt c b mp (c :: l')).1.length) + ((growS nxt c b mp (c :: l')).2.drop 1).length < n'; omega, hS⟩, hmu⟩
 ·cases l with
  | cons c l' => simp at hb
  | nil =>
   obtain ⟨n', rfl⟩ : ∃ n', n = n' + 1 := ⟨n - 1, by omega⟩
   rw [seekS] at hS
   exact hS
end
def InC (d : ApiDet) (k : DetCouple) : Prop := InQ d k.fE0 ∧ InQ d k.fE1
def apGoR (d : ApiDet) (k : DetCouple) (a : Int) : DetCouple := ⟨stepI d k.fE0 a, stepI d k.fE1 a⟩
def apOkR (d : ApiDet) (k : DetCouple) : Bool := d.fMark.getD k.fE0.toNat 0 != d.fMark.getD k.fE1.toNat 0
def allC (n : Nat) : List DetCouple := (List.range n).flatMap fun (p : Nat) => (List.range n).map fun (q : Nat) => ⟨p, q⟩
theorem allC_mem {d : ApiDet} {k : DetCouple} : k ∈ allC d.fNext.length ↔ InC d k := by
 unfold allC InC InQ
 rw [List.mem_flatMap]
 constructor
 ·rintro ⟨p, hp, h⟩
  obtain ⟨q, hq, rfl⟩ := List.mem_map.1 h
  have hp := List.mem_range.1 hp
  have hq := List.mem_range.1 hq
  simp only
  omega
 ·rintro ⟨⟨h1, h2⟩, h3, h4⟩
  refine ⟨k.fE0.toNat, List.mem_range.2 (by omega), List.mem_map.2 ⟨k.fE1.toNat, List.mem_range.2 (by omega), ?_⟩⟩
  rw [Int.toNat_of_nonneg h1, Int.toNat_of_nonneg h3]
theorem allC_len (n : Nat) : (allC n).length = n * n := by
 unfold allC
 rw [List.length_flatMap]
 simp only [List.length_map, List.length_range]
 rw [List.map_const', List.sum_replicate_nat, List.length_range]
end Go.Proofs.Ytapnmjeadbhffaa


namespace Go.Proofs.Ytapnmjeadbhffaa
set_option linter.unusedSimpArgs false
set_option linter.unusedVariables false
set_option maxRecDepth 100000
theorem canon_states {d : ApiDet} (h : ClsPre d) {L q : Nat} (hq : q < d.fNext.length) : ∃ (l : List Lang) (k0 : Lang), canon L (langD d q) = detOf der (fun r => r []) L l ∧ l.Nodup ∧ l[0]? = some k0 ∧ (∀ k ∈ l, ∀ a, a < L → der k a ∈ l) ∧ (∀ k ∈ l, rs L k = k) ∧ ∀ k ∈ l, ∃ w : List Nat, (∀ a ∈ w, a < L) ∧ w.foldl der k0 = k := by
 have h1 : rs L (langD d q) ∈ (List.range d.fNext.length).map fun q => rs L (langD d q) := List.mem_map.2 ⟨q, List.mem_range.2 hq, rfl⟩
 have h2 : ∀ s a, s ∈ ((List.range d.fNext.length).map fun q => rs L (langD d q)) → a < L → der s a ∈ (List.range d.fNext.length).map fun q => rs L (langD d q) := fun s a hs ha => by
  obtain ⟨k, hk, rfl⟩ := List.mem_map.1 hs
  exact List.mem_map.2 ⟨stepD d k a, List.mem_range.2 (h.step (List.mem_range.1 hk)), by rw [der_rs ha]; rfl⟩
 obtain ⟨l, e, n1, n2, _, n3, n4⟩ := explD_facts (L := L) h1 h2
 refine ⟨l, _, by unfold canon explD; rw [e], n1, n3, n4, fun k hk => ?_, fun k hk => ?_⟩
 ·obtain ⟨j, _, rfl⟩ := List.mem_map.1 (n2 k hk)
  exact rs_rs
 ·refine explL_in (go := der) (L := L) (k0 := rs L (langD d q)) (P := fun k => ∃ w : List Nat, (∀ a ∈ w, a < L) ∧ w.foldl der (rs L (langD d q)) = k) ⟨[], fun a ha => (by cases ha), rfl⟩ ?_ (by rw [e]; exact hk)
  rintro k a ⟨w, hw, rfl⟩ ha
  refine ⟨w ++ [a], fun b hb => ?_, by rw [List.foldl_append]; rfl⟩
  rcases List.mem_append.1 hb with hb | hb
  ·exact hw b hb
  ·rw [List.mem_singleton] at hb
   subst hb
   exact ha
theorem idxOf_at {l : List Lang} (h : l.Nodup) {q : Nat} (hq : q < l.length) : l.idxOf l[q] = q := by
 have h1 := idxOf_get (List.getElem_mem hq)
 have h2 := List.idxOf_lt_length_of_mem (List.getElem_mem hq)
 rw [List.getElem?_eq_getElem h2] at h1
 exact (List.getElem_inj h).1 (Option.some.inj h1)
theorem canon_min {d : ApiDet} (h : ClsPre d) {L q0 : Nat} (hq : q0 < d.fNext.length) : (∀ q, q < (canon L (langD d q0)).fNext.length → ∃ w : List Nat, (∀ a ∈ w, a < L) ∧ w.foldl (stepD (canon L (langD d q0))) 0 = q) ∧ ∀ p q, p < (canon L (langD d q0)).fNext.length → q < (canon L (langD d q0)).fNext.length → p ≠ q → ∃ w : List Nat, (∀ a ∈ w, a < L) ∧ langD (canon L (langD d q0)) p w ≠ langD (canon L (langD d q0)) q w := by
 obtain ⟨l, k0, e, n1, n2, n3, n4, n5⟩ := canon_states h (L := L) hq
 rw [e]
 have hlen : (detOf der (fun r : Lang => r []) L l).fNext.length = l.length := by
  unfold detOf
  rw [List.length_map]
 rw [hlen]
 have hk0 : k0 ∈ l := List.mem_of_getElem? n2
 refine ⟨fun q hq => ?_, fun p q hp hq hpq => ?_⟩
 ·obtain ⟨w, hw, hr⟩ := n5 _ (List.getElem_mem hq)
  refine ⟨w, hw, ?_⟩
  have := detOf_run (mark := fun r : Lang => r []) n3 hk0 hw
  rw [hr, idxOf_at n1 hq, idxOf_first n2] at this
  exact this
 ·refine Classical.byContradiction fun hno => hpq ?_
  have key : rs L l[p] = rs L l[q] := rs_congr fun w hw => by
   have h1 := detOf_lang (mark := fun r : Lang => r []) n3 (List.getElem_mem hp) hw
   have h2 := detOf_lang (mark := fun r : Lang => r []) n3 (List.getElem_mem hq) hw
   rw [idxOf_at n1 hp, langK_der] at h1
   rw [idxOf_at n1 hq, langK_der] at h2
   rw [← h1, ← h2]
   refine Classical.byContradiction fun hne => hno ⟨w, hw, hne⟩
  rw [n4 _ (List.getElem_mem hp), n4 _ (List.getElem_mem hq)] at key
  exact (List.getElem_inj n1).1 key
theorem stepI_nat {m : ApiDet} (h : DetOk m) {q a : Int} (hq : InQ m q) (ha : InA m a) : stepI m q a = ((stepD m q.toNat a.toNat : Nat) : Int) := by
 have := (stepI_at h hq ha).2.2.1
 unfold stepD
 exact (Int.toNat_of_nonneg this).symm
theorem aftI_nat {m : ApiDet} (h : DetOk m) : ∀ (w : List Nat) (q : Int), (∀ a ∈ w, (a : Int) < m.fLetters) → InQ m q → aftI m q (w.map fun (a : Nat) => (a : Int)) = ((w.foldl (stepD m) q.toNat : Nat) : Int)
 | [], q, _, hq => (Int.toNat_of_nonneg hq.1).symm
 | a :: w, q, hw, hq => by
  have ha : InA m (a : Int) := ⟨Int.natCast_nonneg _, hw a List.mem_cons_self⟩
  have hs := stepI_nat h hq ha
  have hi := (stepI_at h hq ha).2.2
  show aftI m (stepI m q (a : Int)) (w.map fun (a : Nat) => (a : Int)) = _
  rw [aftI_nat h w _ (fun b hb => hw b (List.mem_cons_of_mem _ hb)) hi, hs, Int.toNat_natCast, List.foldl_cons]
  rfl
theorem wOk_nat {m : ApiDet} {w : List Nat} (hw : ∀ a ∈ w, (a : Int) < m.fLetters) : wOk m (w.map fun (a : Nat) => (a : Int)) := fun a ha => by
 obtain ⟨b, hb, rfl⟩ := List.mem_map.1 ha
 exact ⟨Int.natCast_nonneg _, hw b hb⟩
structure MinOk (m : ApiDet) : Prop where
 det : DetOk m
 five : m.fNext.length ≤ 5
 reach : ∀ q, InQ m q → ∃ w, wOk m w ∧ aftI m m.fStart w = q
 apart : ∀ p q, InQ m p → InQ m q → p ≠ q → ∃ w, wOk m w ∧ m.fMark.getD (aftI m p w).toNat 0 ≠ m.fMark.getD (aftI m q w).toNat 0
noncomputable def smallR (d : ApiDet) : ApiDet × Int := if (leastR d).2 ≠ 0 then (⟨0, 0, [], []⟩, (leastR d).2) else if (leastR d).1.fNext.length > 5 then (⟨0, 0, [], []⟩, 1) else ((leastR d).1, 0)
theorem det_01 {d : ApiDet} (h : DetOk d) (q : Nat) (w : List Nat) : langD d q w = 0 ∨ langD d q w = 1 := by
 unfold langD
 by_cases hq : w.foldl (stepD d) q < d.fMark.length
 ·exact h.mark _ (by
   rw [List.getD_eq_getElem?_getD, List.getElem?_eq_getElem hq]
   exact List.getElem_mem hq)
 ·left
  rw [List.getD_eq_getElem?_getD, List.getElem?_eq_none (by omega)]
  rfl
theorem smallR_ok {d : ApiDet} (h : (smallR d).2 = 0) : MinOk (smallR d).1 ∧ (smallR d).1.fLetters = d.fLetters := by
 have hl : (leastR d).2 = 0 := by
  refine Decidable.byContradiction fun hn => ?_
  unfold smallR at h
  rw [if_pos hn] at h
  exact hn h
 have hs : (leastR d).1.fNext.length ≤ 5 := by
  refine Decidable.byContradiction fun hn => ?_
  unfold smallR at h
  rw [if_neg (fun h => h hl), if_pos (by omega)] at h
  cases h
 have he : smallR d = ((leastR d).1, 0) := by
  unfold smallR
  rw [if_neg (fun h => h hl), if_neg (by omega)]
 have hd : detErr d = 0 := by
  refine Decidable.byContradiction fun hn => ?_
  unfold leastR at hl
  rw [if_neg hn] at hl
  exact hn hl
 have hm : (leastR d).1 = canon d.fLetters.toNat (langD d d.fStart.toNat) := by
  unfold leastR
  rw [if_pos hd]
 rw [he]
 simp only
 rw [hm] at hs ⊢
 have hok := (detErr_iff d).1 hd
 have hst : d.fStart.toNat < d.fNext.length := by have := hok.start; omega
 have hlet := hok.letters
 have hC := canonOk_det hok.cls.pre (L := d.fLetters.toNat) hst
 have hD := hC.det (by omega) hok.size.2 fun w => det_01 hok _ w
 obtain ⟨m1, m2⟩ := canon_min hok.cls.pre (L := d.fLetters.toNat) hst
 have hL : (canon d.fLetters.toNat (langD d d.fStart.toNat)).fLetters = d.fLetters := by rw [hC.letters]; omega
 have hw : ∀ w : List Nat, (∀ a ∈ w, a < d.fLetters.toNat) → ∀ a ∈ w, (a : Int) < (canon d.fLetters.toNat (langD d d.fStart.toNat)).fLetters := fun w hw a ha => by
  have := hw a ha
  rw [hL]
  omega
 refine ⟨⟨hD, hs, fun q hq => ?_, fun p q hp hq hpq => ?_⟩, hL⟩
 ·obtain ⟨w, h1, h2⟩ := m1 q.toNat (by have := hq.1; have := hq.2; omega)
  refine ⟨_, wOk_nat (hw w h1), ?_⟩
  rw [aftI_nat hD w _ (hw w h1) hD.start, hC.start, show (0 : Int).toNat = 0 from rfl, h2, Int.toNat_of_nonneg hq.1]
 ·obtain ⟨w, h1, h2⟩ := m2 p.toNat q.toNat (by have := hp.1; have := hp.2; omega) (by have := hq.1; have := hq.2; omega) (fun e => hpq (by have := hp.1; have := hq.1; omega))
  refine ⟨_, wOk_nat (hw w h1), ?_⟩
  rw [aftI_nat hD w _ (hw w h1) hp, aftI_nat hD w _ (hw w h1) hq, Int.toNat_natCast, Int.toNat_natCast]
  exact h2
def apR (d : ApiDet) (p q : Int) : List Int × Bool × Int := ((seekR (DetCouple.mk p q) d.fLetters (fun (x : DetCouple × Int) => apGoR d x.1 x.2) (fun (x : DetCouple) => apOkR d x)).1, (seekR (DetCouple.mk p q) d.fLetters (fun (x : DetCouple × Int) => apGoR d x.1 x.2) (fun (x : DetCouple) => apOkR d x)).2, 0)
theorem ap_pre {d : ApiDet} (h : DetOk d) (h5 : d.fNext.length ≤ 5) {p q : Int} (hp : InQ d p) (hq : InQ d q) : SeekPre (DetCouple.mk p q) d.fLetters (fun (x : DetCouple × Int) => DetOk d ∧ InC d x.1 ∧ InA d x.2) (fun (x : DetCouple × Int) => apGoR d x.1 x.2) (fun (x : DetCouple) => DetOk d ∧ InC d x) := by
 have hl := h.letters
 refine ⟨⟨by omega, by omega⟩, allC d.fNext.length, ?_, allC_mem.2 ⟨hp, hq⟩, fun c hc => ⟨h, allC_mem.1 hc⟩, fun c hc b b0 b1 => ?_⟩
 ·rw [allC_len]
  exact Nat.le_trans (Nat.mul_le_mul h5 h5) (by decide)
 ·have hc := allC_mem.1 hc
  exact ⟨⟨h, hc, b0, b1⟩, allC_mem.2 ⟨(stepI_at h hc.1 ⟨b0, b1⟩).2.2, (stepI_at h hc.2 ⟨b0, b1⟩).2.2⟩⟩
theorem apR_iff {m : ApiDet} (h : MinOk m) {p q : Int} (hp : InQ m p) (hq : InQ m q) : (apR m p q).2.1 = true ↔ p ≠ q := by
 have key : ∀ (w : List Int) (p q : Int), w.foldl (fun c a => apGoR m c a) (DetCouple.mk p q) = ⟨aftI m p w, aftI m q w⟩ := by
  intro w
  induction w with
  | nil => intro p q; rfl
  | cons a w ih => intro p q; exact ih _ _
 show (seekR _ _ _ _).2 = true ↔ _
 rw [seekR_ok (ap_pre h.det h.five hp hq)]
 constructor
 ·rintro ⟨w, _, e⟩ rfl
  have e2 : apOkR m (w.foldl (fun c a => apGoR m c a) (DetCouple.mk p p)) = true := e
  rw [key] at e2
  unfold apOkR at e2
  simp at e2
 ·intro hpq
  obtain ⟨w, hw, hne⟩ := h.apart p q hp hq hpq
  refine ⟨w, hw, ?_⟩
  show apOkR m (w.foldl (fun c a => apGoR m c a) (DetCouple.mk p q)) = true
  rw [key]
  exact bne_iff_ne.2 hne
def pw (w : List Int) : Nat → List Int
 | 0 => []
 | k + 1 => pw w k ++ w
theorem pw_ok {m : ApiDet} {w : List Int} (h : wOk m w) : ∀ k, wOk m (pw w k)
 | 0 => fun a ha => by cases ha
 | k + 1 => fun a ha => by
  rcases List.mem_append.1 ha with ha | ha
  ·exact pw_ok h k a ha
  ·exact h a ha
theorem pw_succ {m : ApiDet} {w : List Int} {q : Int} {k : Nat} : aftI m q (pw w (k + 1)) = aftI m (aftI m q (pw w k)) w := aftI_app
theorem pw_add {m : ApiDet} {w : List Int} {q : Int} {j : Nat} : ∀ k, aftI m q (pw w (j + k)) = aftI m (aftI m q (pw w j)) (pw w k)
 | 0 => rfl
 | k + 1 => by
  rw [← Nat.add_assoc, pw_succ, pw_add k, pw_succ]
theorem pw_one {m : ApiDet} {w : List Int} {q : Int} : aftI m q (pw w 1) = aftI m q w := rfl
def NoC (m : ApiDet) (w : List Int) (q : Int) : Prop := ∀ k, 1 ≤ k → k ≤ m.fNext.length → aftI m q (pw w k) = q → aftI m q w = q
def HasC (m : ApiDet) (w : List Int) : Prop := ∃ q, InQ m q ∧ ∃ k, 1 ≤ k ∧ aftI m q (pw w k) = q ∧ aftI m q w ≠ q
theorem hasC_56 {m : ApiDet} (h : DetOk m) {w : List Int} (hw : wOk m w) (hc : HasC m w) : ∃ q, InQ m q ∧ aftI m q (pw w 5) ≠ aftI m q (pw w 6) := by
 obtain ⟨q, hq, k, hk, h1, h2⟩ := hc
 refine ⟨q, hq, fun e => h2 ?_⟩
 -- the fifth power's state y stays; q is come to from y
 have hstay : aftI m (aftI m q (pw w 5)) w = aftI m q (pw w 5) := by rw [← pw_succ]; exact e.symm
 have hall : ∀ j, aftI m q (pw w (5 + j)) = aftI m q (pw w 5) := fun j => by
  induction j with
  | zero => rfl
  | succ j ih => rw [← Nat.add_assoc, pw_succ, ih, hstay]
 have hback : ∀ j, aftI m q (pw w (j * k)) = q := fun j => by
  induction j with
  | zero => rw [Nat.zero_mul]; rfl
  | succ j ih => rw [Nat.succ_mul, pw_add, ih, h1]
 have h5 : 5 ≤ 5 * k := Nat.le_mul_of_pos_right 5 (by omega)
 have := hall (5 * k - 5)
 rw [show 5 + (5 * k - 5) = 5 * k by omega, hback 5] at this
 rw [← this] at hstay
 exact hstay
theorem noC_56 {m : ApiDet} (h : DetOk m) (h5 : m.fNext.length ≤ 5) {w : List Int} (hw : wOk m w) (hc : ∀ q, InQ m q → NoC m w q) {q : Int} (hq : InQ m q) : aftI m q (pw w 5) = aftI m q (pw w 6) := by
 have hin : ∀ k, InQ m (aftI m q (pw w k)) := fun k => aftI_in h _ q (pw_ok hw k) hq
 have hex : ∃ i j, i < j ∧ j ≤ m.fNext.length ∧ aftI m q (pw w i) = aftI m q (pw w j) := by
  refine Classical.byContradiction fun hno => ?_
  have hnd : ((List.range (m.fNext.length + 1)).map fun i => aftI m q (pw w i)).Nodup := by
   exact List.pairwise_map.2 (List.Pairwise.imp_of_mem (fun {a b} ha hb hab e => hno ⟨a, b, hab, by have := List.mem_range.1 hb; omega, e⟩) List.pairwise_lt_range)
  have := nodup_le (m := (List.range m.fNext.length).map fun (i : Nat) => (i : Int)) hnd fun x hx => by
   obtain ⟨i, _, rfl⟩ := List.mem_map.1 hx
   obtain ⟨a0, a1⟩ := hin i
   exact List.mem_map.2 ⟨_, List.mem_range.2 (show (aftI m q (pw w i)).toNat < _ by omega), Int.toNat_of_nonneg a0⟩
  simp only [List.length_map, List.length_range] at this
  omega
 obtain ⟨i, j, hij, hj, e⟩ := hex
 have hfix : aftI m (aftI m q (pw w i)) w = aftI m q (pw w i) := by
  refine hc _ (hin i) (j - i) (by omega) (by omega) ?_
  rw [← pw_add, show i + (j - i) = j by omega]
  exact e.symm
 have hall : ∀ k, aftI m q (pw w (i + k)) = aftI m q (pw w i) := fun k => by
  induction k with
  | zero => rfl
  | succ k ih => rw [← Nat.add_assoc, pw_succ, ih, hfix]
 have e5 := hall (5 - i)
 have e6 := hall (6 - i)
 rw [show i + (5 - i) = 5 by omega] at e5
 rw [show i + (6 - i) = 6 by omega] at e6
 rw [e5, e6]
theorem aft_does {m : ApiDet} (h : DetOk m) {u v : List Int} (hu : wOk m u) (hv : wOk m v) (e : doesOf m u = doesOf m v) {q : Int} (hq : InQ m q) : aftI m q u = aftI m q v := by
 have h1 := doesOf_at (w := u) hq
 rw [e, doesOf_at hq] at h1
 exact (Option.some.inj h1).symm
theorem pw_does {m : ApiDet} (h : DetOk m) {u v : List Int} (hu : wOk m u) (hv : wOk m v) (e : doesOf m u = doesOf m v) {q : Int} (hq : InQ m q) : ∀ k, aftI m q (pw u k) = aftI m q (pw v k)
 | 0 => rfl
 | k + 1 => by
  rw [pw_succ, pw_succ, pw_does h hu hv e hq k]
  exact aft_does h hu hv e (aftI_in h _ q (pw_ok hv k) hq)
theorem noC_does {m : ApiDet} (h : DetOk m) {u v : List Int} (hu : wOk m u) (hv : wOk m v) (e : doesOf m u = doesOf m v) {q : Int} (hq : InQ m q) (hc : NoC m u q) : NoC m v q := fun k h1 h2 h3 => by
 rw [← pw_does h hu hv e hq k] at h3
 rw [← aft_does h hu hv e hq]
 exact hc k h1 h2 h3
end Go.Proofs.Ytapnmjeadbhffaa

