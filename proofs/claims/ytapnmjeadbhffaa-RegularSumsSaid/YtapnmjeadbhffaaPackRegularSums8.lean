/- Lemmas towards the statement: mirrors of functions, and plain laws. No condition. -/
import Derived.Test.YtapnmjeadbhffaaPackRegularSums7


namespace Go.Proofs.Ytapnmjeadbhffaa
open Go.RowKit Go.MapKept
set_option linter.unusedSimpArgs false
set_option linter.unusedVariables false
set_option maxRecDepth 100000
def indexLInt_vc (l : (List (List Int))) (dom : ((List Int) → Prop)) (φ : ((List Int) → Bool)) (Q : Int → Prop) : Prop :=
 l.length ≤ 9223372036854775807 →
 (∃ (Inv : Int → Prop) (mu : Int → Nat), Inv 0 ∧
 ∀ (x8 : Int) , Inv x8 → (IfP (decide (x8 < (l.length : Int))) (∃ e, idx l x8 = some e ∧
 (dom e) ∧
 IfP (φ e) (Q x8) ((Inv (wr (x8 + 1)) ∧ mu (wr (x8 + 1)) < mu x8))) (Q (-1))))
theorem indexLInt_walk (l : (List (List Int))) (dom : ((List Int) → Prop)) (φ : ((List Int) → Bool)) (Q : Int → Prop) (h : indexLInt_vc l dom φ Q) : Ct 170 [.sv (.one (LS (lsT intT) l)), .sv (.one (.rd (fvR (fun x => [.sv (.one (LS intT x))]) (fun b => .sv (.one (B b))) dom φ)))] [] Q (fun (r : Int) => .sv (.one (I r))) := by
 have ht := tab_ok
 refine Ct.body Try.func170 rfl rfl rfl rfl (fun c hn => ?_)
 unfold indexLInt_vc at h
 refine En.lenL 0 (by rfl) (fun hl => ?_)
 replace h := h hl
 clear hl
 refine En.seq ?_
 refine En.region ?_
 refine WL.run ht hn 1 ⟨[sl 0 (LS (lsT intT) l), sl 1 (.rd (fvR (fun x => [.sv (.one (LS intT x))]) (fun b => .sv (.one (B b))) dom φ))], []⟩ (by kernel_rfl) ?_
 refine WL.nil ?_
 refine En.seq ?_
 refine En.seq ?_
 refine En.region ?_
 refine WL.run ht hn 3 ⟨[sl 0 (LS (lsT intT) l), sl 1 (.rd (fvR (fun x => [.sv (.one (LS intT x))]) (fun b => .sv (.one (B b))) dom φ)), sl 7 (I (l.length : Int)), sl 8 (I 0)], []⟩ (by kernel_rfl) ?_
 refine WL.nil ?_
 refine En.block ?_
 obtain ⟨Inv, mu, h0, hI⟩ := h
 refine En.loop (σ := Int) (fun zz => Inv zz) (fun zz => mu zz) (fun zz => ⟨[sl 0 (LS (lsT intT) l), sl 1 (.rd (fvR (fun x => [.sv (.one (LS intT x))]) (fun b => .sv (.one (B b))) dom φ)), sl 7 (I (l.length : Int)), sl 8 (I zz)], []⟩) 0 h0 (sub_ok (by kernel_rfl)) ?_
 intro x8 h
 replace h := hI _ h
 show En c ⟨[sl 0 (LS (lsT intT) l), sl 1 (.rd (fvR (fun x => [.sv (.one (LS intT x))]) (fun b => .sv (.one (B b))) dom φ)), sl 7 (I (l.length : Int)), sl 8 (I x8)], []⟩ _
 refine En.seq ?_
 refine En.region ?_
 refine WL.run ht hn 1 ⟨[sl 0 (LS (lsT intT) l), sl 1 (.rd (fvR (fun x => [.sv (.one (LS intT x))]) (fun b => .sv (.one (B b))) dom φ)), sl 7 (I (l.length : Int)), sl 8 (I x8), sl 9 (B (decide (x8 < (l.length : Int))))], []⟩ (by kernel_rfl) ?_
 refine WL.nil ?_
 refine En.seq ?_
 refine En.cond (b := (decide (x8 < (l.length : Int)))) (by kernel_rfl) (fun hb => ?_) (fun hb => ?_)
 replace h := h.1 hb
 refine En.skip ?_
 refine En.seq ?_
 refine En.block ?_
 refine En.seq ?_
 refine En.region ?_
 refine WL.run ht hn 2 ⟨[sl 0 (LS (lsT intT) l), sl 1 (.rd (fvR (fun x => [.sv (.one (LS intT x))]) (fun b => .sv (.one (B b))) dom φ)), sl 5 (I x8), sl 7 (I (l.length : Int)), sl 8 (I x8)], []⟩ (by kernel_rfl) ?_
 refine WL.nil ?_
 refine En.seq ?_
 refine En.region ?_
 refine WL.run ht hn 3 ⟨[sl 0 (LS (lsT intT) l), sl 1 (.rd (fvR (fun x => [.sv (.one (LS intT x))]) (fun b => .sv (.one (B b))) dom φ)), sl 5 (I x8), sl 7 (I (l.length : Int)), sl 8 (I x8), sl 11 (.rd (fvR (fun x => [.sv (.one (LS intT x))]) (fun b => .sv (.one (B b))) dom φ)), sl 12 (LS (lsT intT) l), sl 13 (I x8)], []⟩ (by kernel_rfl) ?_
 obtain ⟨e, he, h⟩ := h
 refine WL.val hn (by rfl) (val_index (T := (lsT intT)) (l := l) (i := x8) ht rfl (by rfl) (by rfl) (by rfl) (by rfl) (by rfl) (by rfl) he) (by rfl) ?_
 refine WL.val hn (by rfl) (val_load (s := .one (LS intT e)) ht rfl (by rfl) (by rfl) (by rfl) (by rfl) (by rfl)) (by rfl) ?_
 have hp := h.1
 replace h := h.2
 refine WL.mt0 (K := []) (p := none) hn (by rfl) (mt_callv e hp rfl (by rfl) (by rfl) (by rfl) (by rfl)) (by rfl) (by rfl) (by rfl) ?_
 refine WL.nil ?_
 refine En.cond (b := (φ e)) (by kernel_rfl) (fun hb => ?_) (fun hb => ?_)
 replace h := h.1 hb
 refine En.seq ?_
 refine En.region ?_
 refine WL.run ht hn 2 ⟨[sl 4 (I x8)], []⟩ (by kernel_rfl) ?_
 refine WL.nil ?_
 refine En.ret ?_
 exact En.back ht x8 h (by kernel_rfl) rfl
 replace h := h.2 hb
 refine En.skip ?_
 refine En.region ?_
 refine WL.run ht hn 2 ⟨[sl 0 (LS (lsT intT) l), sl 1 (.rd (fvR (fun x => [.sv (.one (LS intT x))]) (fun b => .sv (.one (B b))) dom φ)), sl 7 (I (l.length : Int)), sl 8 (I (wr (x8 + 1)))], []⟩ (by kernel_rfl) ?_
 refine WL.nil ?_
 exact En.at (I := fun zz => Inv zz ∧ mu zz < mu x8) (T := fun zz => ⟨[sl 0 (LS (lsT intT) l), sl 1 (.rd (fvR (fun x => [.sv (.one (LS intT x))]) (fun b => .sv (.one (B b))) dom φ)), sl 7 (I (l.length : Int)), sl 8 (I zz)], []⟩) (wr (x8 + 1)) h (by kernel_rfl)
 replace h := h.2 hb
 refine En.exit rfl ?_
 refine En.seq ?_
 refine En.region ?_
 refine WL.run ht hn 1 ⟨[sl 4 (I (-1))], []⟩ (by kernel_rfl) ?_
 refine WL.nil ?_
 refine En.ret ?_
 exact En.back ht (-1) h (by kernel_rfl) rfl
theorem en170 : ∀ args w, (callFunc 170 args).run Try.prog w = .ok (.enter 170 args) w := enters_of Try.func170 (by kernel_rfl) rfl
theorem indexLInt_ct (l : List (List Int)) (dom : (List Int) → Prop) (φ : (List Int) → Bool) (hd : ∀ x ∈ l, dom x) : Ct 170 [.sv (.one (LS (lsT intT) l)), .sv (.one (.rd (fvR (fun x => [.sv (.one (LS intT x))]) (fun b => .sv (.one (B b))) dom φ)))] [] (fun (_ : Unit) => True) (fun _ => .sv (.one (I (idxTo φ l)))) := by
 refine (indexLInt_walk l dom φ (fun r => r = idxTo φ l) ?_).fun
 unfold indexLInt_vc
 exact index_plain l dom φ hd
def anyLInt_vc (l : (List (List Int))) (dom : ((List Int) → Prop)) (φ : ((List Int) → Bool)) (Q : Bool → Prop) : Prop :=
 l.length ≤ 9223372036854775807 →
 ((∀ x_ ∈ l, dom x_) ∧
 Q (decide ((idxTo φ l) ≥ 0)))
theorem anyLInt_walk (l : (List (List Int))) (dom : ((List Int) → Prop)) (φ : ((List Int) → Bool)) (Q : Bool → Prop) (h : anyLInt_vc l dom φ Q) : Ct 93 [.sv (.one (LS (lsT intT) l)), .sv (.one (.rd (fvR (fun x => [.sv (.one (LS intT x))]) (fun b => .sv (.one (B b))) dom φ)))] [] Q (fun (r : Bool) => .sv (.one (B r))) := by
 have ht := tab_ok
 refine Ct.body Try.func93 rfl rfl rfl rfl (fun c hn => ?_)
 unfold anyLInt_vc at h
 refine En.lenL 0 (by rfl) (fun hl => ?_)
 replace h := h hl
 clear hl
 refine En.seq ?_
 refine En.region ?_
 refine WL.run ht hn 1 ⟨[sl 0 (LS (lsT intT) l), sl 1 (.rd (fvR (fun x => [.sv (.one (LS intT x))]) (fun b => .sv (.one (B b))) dom φ))], []⟩ (by kernel_rfl) ?_
 refine WL.nil ?_
 refine En.seq ?_
 refine En.region ?_
 refine WL.run ht hn 2 ⟨[sl 5 (LS (lsT intT) l), sl 6 (.rd (fvR (fun x => [.sv (.one (LS intT x))]) (fun b => .sv (.one (B b))) dom φ))], []⟩ (by kernel_rfl) ?_
 have hp := h.1
 replace h := h.2
 refine WL.mt0 (K := []) (p := none) hn (by rfl) (mt_call (indexLInt_ct l dom φ hp) en170 (caps := []) [] rfl (by rfl) (by kernel_rfl) (by kernel_rfl) (by rfl) (by rfl) (by rfl)) (by rfl) (by rfl) (by rfl) ?_
 refine WL.run ht hn 2 ⟨[sl 4 (B (decide ((idxTo φ l) ≥ 0)))], []⟩ (by kernel_rfl) ?_
 refine WL.nil ?_
 refine En.ret ?_
 exact En.back ht (decide ((idxTo φ l) ≥ 0)) h (by kernel_rfl) rfl
theorem en93 : ∀ args w, (callFunc 93 args).run Try.prog w = .ok (.enter 93 args) w := enters_of Try.func93 (by kernel_rfl) rfl
theorem anyLInt_ct (l : List (List Int)) (dom : (List Int) → Prop) (φ : (List Int) → Bool) (hd : ∀ x ∈ l, dom x) : Ct 93 [.sv (.one (LS (lsT intT) l)), .sv (.one (.rd (fvR (fun x => [.sv (.one (LS intT x))]) (fun b => .sv (.one (B b))) dom φ)))] [] (fun (_ : Unit) => True) (fun _ => .sv (.one (B (l.any φ)))) := by
 refine (anyLInt_walk l dom φ (fun r => r = l.any φ) ?_).fun
 unfold anyLInt_vc
 exact fun _ => ⟨hd, by rw [← idxTo_nonneg φ l]⟩
def indexInt_vc (l : (List Int)) (dom : (Int → Prop)) (φ : (Int → Bool)) (Q : Int → Prop) : Prop :=
 l.length ≤ 9223372036854775807 →
 (∃ (Inv : Int → Prop) (mu : Int → Nat), Inv 0 ∧
 ∀ (x8 : Int) , Inv x8 → (IfP (decide (x8 < (l.length : Int))) (∃ e, idx l x8 = some e ∧
 (dom e) ∧
 IfP (φ e) (Q x8) ((Inv (wr (x8 + 1)) ∧ mu (wr (x8 + 1)) < mu x8))) (Q (-1))))
theorem indexInt_walk (l : (List Int)) (dom : (Int → Prop)) (φ : (Int → Bool)) (Q : Int → Prop) (h : indexInt_vc l dom φ Q) : Ct 123 [.sv (.one (LS intT l)), .sv (.one (.rd (fvR (fun x => [.sv (.one (I x))]) (fun b => .sv (.one (B b))) dom φ)))] [] Q (fun (r : Int) => .sv (.one (I r))) := by
 have ht := tab_ok
 refine Ct.body Try.func123 rfl rfl rfl rfl (fun c hn => ?_)
 unfold indexInt_vc at h
 refine En.lenL 0 (by rfl) (fun hl => ?_)
 replace h := h hl
 clear hl
 refine En.seq ?_
 refine En.region ?_
 refine WL.run ht hn 1 ⟨[sl 0 (LS intT l), sl 1 (.rd (fvR (fun x => [.sv (.one (I x))]) (fun b => .sv (.one (B b))) dom φ))], []⟩ (by kernel_rfl) ?_
 refine WL.nil ?_
 refine En.seq ?_
 refine En.seq ?_
 refine En.region ?_
 refine WL.run ht hn 3 ⟨[sl 0 (LS intT l), sl 1 (.rd (fvR (fun x => [.sv (.one (I x))]) (fun b => .sv (.one (B b))) dom φ)), sl 7 (I (l.length : Int)), sl 8 (I 0)], []⟩ (by kernel_rfl) ?_
 refine WL.nil ?_
 refine En.block ?_
 obtain ⟨Inv, mu, h0, hI⟩ := h
 refine En.loop (σ := Int) (fun zz => Inv zz) (fun zz => mu zz) (fun zz => ⟨[sl 0 (LS intT l), sl 1 (.rd (fvR (fun x => [.sv (.one (I x))]) (fun b => .sv (.one (B b))) dom φ)), sl 7 (I (l.length : Int)), sl 8 (I zz)], []⟩) 0 h0 (sub_ok (by kernel_rfl)) ?_
 intro x8 h
 replace h := hI _ h
 show En c ⟨[sl 0 (LS intT l), sl 1 (.rd (fvR (fun x => [.sv (.one (I x))]) (fun b => .sv (.one (B b))) dom φ)), sl 7 (I (l.length : Int)), sl 8 (I x8)], []⟩ _
 refine En.seq ?_
 refine En.region ?_
 refine WL.run ht hn 1 ⟨[sl 0 (LS intT l), sl 1 (.rd (fvR (fun x => [.sv (.one (I x))]) (fun b => .sv (.one (B b))) dom φ)), sl 7 (I (l.length : Int)), sl 8 (I x8), sl 9 (B (decide (x8 < (l.length : Int))))], []⟩ (by kernel_rfl) ?_
 refine WL.nil ?_
 refine En.seq ?_
 refine En.cond (b := (decide (x8 < (l.length : Int)))) (by kernel_rfl) (fun hb => ?_) (fun hb => ?_)
 replace h := h.1 hb
 refine En.skip ?_
 refine En.seq ?_
 refine En.block ?_
 refine En.seq ?_
 refine En.region ?_
 refine WL.run ht hn 2 ⟨[sl 0 (LS intT l), sl 1 (.rd (fvR (fun x => [.sv (.one (I x))]) (fun b => .sv (.one (B b))) dom φ)), sl 5 (I x8), sl 7 (I (l.length : Int)), sl 8 (I x8)], []⟩ (by kernel_rfl) ?_
 refine WL.nil ?_
 refine En.seq ?_
 refine En.region ?_
 refine WL.run ht hn 3 ⟨[sl 0 (LS intT l), sl 1 (.rd (fvR (fun x => [.sv (.one (I x))]) (fun b => .sv (.one (B b))) dom φ)), sl 5 (I x8), sl 7 (I (l.length : Int)), sl 8 (I x8), sl 11 (.rd (fvR (fun x => [.sv (.one (I x))]) (fun b => .sv (.one (B b))) dom φ)), sl 12 (LS intT l), sl 13 (I x8)], []⟩ (by kernel_rfl) ?_
 obtain ⟨e, he, h⟩ := h
 refine WL.val hn (by rfl) (val_index (T := intT) (l := l) (i := x8) ht rfl (by rfl) (by rfl) (by rfl) (by rfl) (by rfl) (by rfl) he) (by rfl) ?_
 refine WL.val hn (by rfl) (val_load (s := .one (I e)) ht rfl (by rfl) (by rfl) (by rfl) (by rfl) (by rfl)) (by rfl) ?_
 have hp := h.1
 replace h := h.2
 refine WL.mt0 (K := []) (p := none) hn (by rfl) (mt_callv e hp rfl (by rfl) (by rfl) (by rfl) (by rfl)) (by rfl) (by rfl) (by rfl) ?_
 refine WL.nil ?_
 refine En.cond (b := (φ e)) (by kernel_rfl) (fun hb => ?_) (fun hb => ?_)
 replace h := h.1 hb
 refine En.seq ?_
 refine En.region ?_
 refine WL.run ht hn 2 ⟨[sl 4 (I x8)], []⟩ (by kernel_rfl) ?_
 refine WL.nil ?_
 refine En.ret ?_
 exact En.back ht x8 h (by kernel_rfl) rfl
 replace h := h.2 hb
 refine En.skip ?_
 refine En.region ?_
 refine WL.run ht hn 2 ⟨[sl 0 (LS intT l), sl 1 (.rd (fvR (fun x => [.sv (.one (I x))]) (fun b => .sv (.one (B b))) dom φ)), sl 7 (I (l.length : Int)), sl 8 (I (wr (x8 + 1)))], []⟩ (by kernel_rfl) ?_
 refine WL.nil ?_
 exact En.at (I := fun zz => Inv zz ∧ mu zz < mu x8) (T := fun zz => ⟨[sl 0 (LS intT l), sl 1 (.rd (fvR (fun x => [.sv (.one (I x))]) (fun b => .sv (.one (B b))) dom φ)), sl 7 (I (l.length : Int)), sl 8 (I zz)], []⟩) (wr (x8 + 1)) h (by kernel_rfl)
 replace h := h.2 hb
 refine En.exit rfl ?_
 refine En.seq ?_
 refine En.region ?_
 refine WL.run ht hn 1 ⟨[sl 4 (I (-1))], []⟩ (by kernel_rfl) ?_
 refine WL.nil ?_
 refine En.ret ?_
 exact En.back ht (-1) h (by kernel_rfl) rfl
theorem en123 : ∀ args w, (callFunc 123 args).run Try.prog w = .ok (.enter 123 args) w := enters_of Try.func123 (by kernel_rfl) rfl
theorem indexInt_ct (l : List Int) (dom : Int → Prop) (φ : Int → Bool) (hd : ∀ x ∈ l, dom x) : Ct 123 [.sv (.one (LS intT l)), .sv (.one (.rd (fvR (fun x => [.sv (.one (I x))]) (fun b => .sv (.one (B b))) dom φ)))] [] (fun (_ : Unit) => True) (fun _ => .sv (.one (I (idxTo φ l)))) := by
 refine (indexInt_walk l dom φ (fun r => r = idxTo φ l) ?_).fun
 unfold indexInt_vc
 exact index_plain l dom φ hd
def anyInt_vc (l : (List Int)) (dom : (Int → Prop)) (φ : (Int → Bool)) (Q : Bool → Prop) : Prop :=
 l.length ≤ 9223372036854775807 →
 ((∀ x_ ∈ l, dom x_) ∧
 Q (decide ((idxTo φ l) ≥ 0)))
theorem anyInt_walk (l : (List Int)) (dom : (Int → Prop)) (φ : (Int → Bool)) (Q : Bool → Prop) (h : anyInt_vc l dom φ Q) : Ct 99 [.sv (.one (LS intT l)), .sv (.one (.rd (fvR (fun x => [.sv (.one (I x))]) (fun b => .sv (.one (B b))) dom φ)))] [] Q (fun (r : Bool) => .sv (.one (B r))) := by
 have ht := tab_ok
 refine Ct.body Try.func99 rfl rfl rfl rfl (fun c hn => ?_)
 unfold anyInt_vc at h
 refine En.lenL 0 (by rfl) (fun hl => ?_)
 replace h := h hl
 clear hl
 refine En.seq ?_
 refine En.region ?_
 refine WL.run ht hn 1 ⟨[sl 0 (LS intT l), sl 1 (.rd (fvR (fun x => [.sv (.one (I x))]) (fun b => .sv (.one (B b))) dom φ))], []⟩ (by kernel_rfl) ?_
 refine WL.nil ?_
 refine En.seq ?_
 refine En.region ?_
 refine WL.run ht hn 2 ⟨[sl 5 (LS intT l), sl 6 (.rd (fvR (fun x => [.sv (.one (I x))]) (fun b => .sv (.one (B b))) dom φ))], []⟩ (by kernel_rfl) ?_
 have hp := h.1
 replace h := h.2
 refine WL.mt0 (K := []) (p := none) hn (by rfl) (mt_call (indexInt_ct l dom φ hp) en123 (caps := []) [] rfl (by rfl) (by kernel_rfl) (by kernel_rfl) (by rfl) (by rfl) (by rfl)) (by rfl) (by rfl) (by rfl) ?_
 refine WL.run ht hn 2 ⟨[sl 4 (B (decide ((idxTo φ l) ≥ 0)))], []⟩ (by kernel_rfl) ?_
 refine WL.nil ?_
 refine En.ret ?_
 exact En.back ht (decide ((idxTo φ l) ≥ 0)) h (by kernel_rfl) rfl
theorem en99 : ∀ args w, (callFunc 99 args).run Try.prog w = .ok (.enter 99 args) w := enters_of Try.func99 (by kernel_rfl) rfl
theorem anyInt_ct (l : List Int) (dom : Int → Prop) (φ : Int → Bool) (hd : ∀ x ∈ l, dom x) : Ct 99 [.sv (.one (LS intT l)), .sv (.one (.rd (fvR (fun x => [.sv (.one (I x))]) (fun b => .sv (.one (B b))) dom φ)))] [] (fun (_ : Unit) => True) (fun _ => .sv (.one (B (l.any φ)))) := by
 refine (anyInt_walk l dom φ (fun r => r = l.any φ) ?_).fun
 unfold anyInt_vc
 exact fun _ => ⟨hd, by rw [← idxTo_nonneg φ l]⟩
def altNo (n q : Int) : Bool := (decide (q < 0)) || (decide (q ≥ n))
theorem altNo_iff {n q : Int} : altNo n q = false ↔ 0 ≤ q ∧ q < n := by
 unfold altNo
 simp only [Bool.or_eq_false_iff, decide_eq_false_iff_not]
 omega
def detErr (x : ApiDet) : Int :=
 if (decide (x.fLetters < 1)) || (decide (x.fLetters > 4)) then 2 else
 if (decide ((x.fNext.length : Int) < 1)) || (decide ((x.fNext.length : Int) > 3000)) then 1 else
 if ((x.fMark.length : Int) != (x.fNext.length : Int)) || x.fNext.any (fun r => (r.length : Int) != (x).fLetters) then 3 else
 if altNo (x.fNext.length : Int) x.fStart || x.fNext.any (fun r => r.any (altNo (x.fNext.length : Int))) then 2 else
 if x.fMark.any (fun m => (m != 0) && (m != 1)) then 2 else 0
structure DetOk (x : ApiDet) : Prop where
 letters : 1 ≤ x.fLetters ∧ x.fLetters ≤ 4
 size : 1 ≤ x.fNext.length ∧ x.fNext.length ≤ 3000
 marks : x.fMark.length = x.fNext.length
 rows : ∀ r ∈ x.fNext, (r.length : Int) = x.fLetters
 start : 0 ≤ x.fStart ∧ x.fStart < (x.fNext.length : Int)
 in_ : ∀ r ∈ x.fNext, ∀ p ∈ r, 0 ≤ p ∧ p < (x.fNext.length : Int)
 mark : ∀ m ∈ x.fMark, m = 0 ∨ m = 1
theorem detErr_iff (x : ApiDet) : detErr x = 0 ↔ DetOk x := by
 unfold detErr
 constructor
 ·intro h
  by_cases h1 : ((decide (x.fLetters < 1)) || (decide (x.fLetters > 4))) = true
  ·rw [if_pos h1] at h; cases h
  rw [if_neg h1] at h
  by_cases h2 : ((decide ((x.fNext.length : Int) < 1)) || (decide ((x.fNext.length : Int) > 3000))) = true
  ·rw [if_pos h2] at h; cases h
  rw [if_neg h2] at h
  by_cases h3 : (((x.fMark.length : Int) != (x.fNext.length : Int)) || x.fNext.any (fun r => (r.length : Int) != (x).fLetters)) = true
  ·rw [if_pos h3] at h; cases h
  rw [if_neg h3] at h
  by_cases h4 : (altNo (x.fNext.length : Int) x.fStart || x.fNext.any (fun r => r.any (altNo (x.fNext.length : Int)))) = true
  ·rw [if_pos h4] at h; cases h
  rw [if_neg h4] at h
  by_cases h5 : x.fMark.any (fun m => (m != 0) && (m != 1)) = true
  ·rw [if_pos h5] at h; cases h
  simp only [Bool.not_eq_true, Bool.or_eq_false_iff, decide_eq_false_iff_not, List.any_eq_false, altNo_iff, bne_eq_false_iff_eq, Bool.and_eq_false_iff, Bool.not_eq_false, bne_iff_ne, ne_eq, Decidable.not_not] at h1 h2 h3 h4 h5
  exact ⟨by omega, by omega, by omega, fun r hr => h3.2 r hr, h4.1, fun r hr p hp => h4.2 r hr p hp, fun m hm => h5 m hm⟩
 ·intro h
  have h1 : ((decide (x.fLetters < 1)) || (decide (x.fLetters > 4))) = false := by
   have := h.letters
   simp only [Bool.or_eq_false_iff, decide_eq_false_iff_not]; omega
  have h2 : ((decide ((x.fNext.length : Int) < 1)) || (decide ((x.fNext.length : Int) > 3000))) = false := by
   have := h.size
   simp only [Bool.or_eq_false_iff, decide_eq_false_iff_not]; omega
  have h3 : (((x.fMark.length : Int) != (x.fNext.length : Int)) || x.fNext.any (fun r => (r.length : Int) != (x).fLetters)) = false := by
   simp only [Bool.or_eq_false_iff, bne_eq_false_iff_eq, List.any_eq_false, bne_iff_ne, ne_eq, Decidable.not_not]
   exact ⟨by have := h.marks; omega, h.rows⟩
  have h4 : (altNo (x.fNext.length : Int) x.fStart || x.fNext.any (fun r => r.any (altNo (x.fNext.length : Int)))) = false := by
   simp only [Bool.or_eq_false_iff, altNo_iff]
   refine ⟨h.start, ?_⟩
   rw [List.any_eq_false]
   intro r hr
   rw [Bool.not_eq_true, List.any_eq_false]
   intro p hp
   rw [Bool.not_eq_true, altNo_iff]
   exact h.in_ r hr p hp
  have h5 : x.fMark.any (fun m => (m != 0) && (m != 1)) = false := by
   rw [List.any_eq_false]
   intro m hm
   rcases h.mark m hm with rfl | rfl <;> decide
  rw [h1, h2, h3, h4, h5]
  rfl
theorem DetOk.cls {d : ApiDet} (h : DetOk d) : ClsOk d := by
 have h1 := h.letters
 have h2 := h.size
 refine ⟨⟨by omega, fun r hr => by have := h.rows r hr; omega, h.in_, h.start, h.marks⟩, by omega, by omega, fun m hm => by rcases h.mark m hm with rfl | rfl <;> decide⟩
def detC1_vc (r : (List Int)) (x : ApiDet) (Q : Bool → Prop) : Prop :=
 r.length ≤ 9223372036854775807 →
 (Q ((r.length : Int) != x.fLetters))
theorem detC1_walk (r : (List Int)) (x : ApiDet) (Q : Bool → Prop) (h : detC1_vc r x Q) : Ct 162 [.sv (.one (LS intT r)), .sv (.one (.ptr 0 0))] [.box [I x.fLetters, I x.fStart, LS (lsT intT) x.fNext, LS intT x.fMark] 73 true] Q (fun (r : Bool) => .sv (.one (B r))) := by
 have ht := tab_ok
 refine Ct.body Try.func162 rfl rfl rfl rfl (fun c hn => ?_)
 unfold detC1_vc at h
 refine En.lenL 0 (by rfl) (fun hl => ?_)
 replace h := h hl
 clear hl
 refine En.seq ?_
 refine En.region ?_
 refine WL.run ht hn 1 ⟨[sl 0 (LS intT r), sl 1 (.ptr 0 0)], [.box (ApiDet.cl x) 73 true]⟩ (by kernel_rfl) ?_
 refine WL.nil ?_
 refine En.seq ?_
 refine En.region ?_
 refine WL.run ht hn 6 ⟨[sl 3 (B ((r.length : Int) != x.fLetters))], [.gone]⟩ (by kernel_rfl) ?_
 refine WL.nil ?_
 refine En.ret ?_
 exact En.back ht ((r.length : Int) != x.fLetters) h (by kernel_rfl) rfl
theorem en162 : ∀ args w, (callFunc 162 args).run Try.prog w = .ok (.enter 162 args) w := enters_of Try.func162 (by kernel_rfl) rfl
def detC2_vc (q : Int) (n : Int) (Q : Bool → Prop) : Prop :=
 Q ((decide (q < 0)) || (decide (q ≥ n)))
theorem detC2_walk (q : Int) (n : Int) (Q : Bool → Prop) (h : detC2_vc q n Q) : Ct 163 [.sv (.one (I q)), .sv (.one (.ptr 0 0))] [.box [I n] 3 true] Q (fun (r : Bool) => .sv (.one (B r))) := by
 have ht := tab_ok
 refine Ct.body Try.func163 rfl rfl rfl rfl (fun c hn => ?_)
 unfold detC2_vc at h
 refine En.seq ?_
 refine En.region ?_
 refine WL.run ht hn 1 ⟨[sl 0 (I q), sl 1 (.ptr 0 0)], [.box [I n] 3 true]⟩ (by kernel_rfl) ?_
 refine WL.nil ?_
 refine En.seq ?_
 refine En.region ?_
 refine WL.run ht hn 3 ⟨[sl 0 (I q), sl 1 (.ptr 0 0), sl 6 (B (decide (q < 0)))], [.box [I n] 3 true]⟩ (by kernel_rfl) ?_
 refine WL.thru ⟨[sl 3 (B ((decide (q < 0)) || (decide (q ≥ n))))], [.gone]⟩ ?_ ?_
 refine splitB (decide (q < 0)) (fun hb0 => ?_) (fun hb0 => ?_)
 refine WL.setB 6 hb0 (by kernel_rfl) ?_
 refine WL.run ht hn 5 ⟨[sl 3 (B true)], [.gone]⟩ (by kernel_rfl) ?_
 exact WL.nil (sub_ok (by simp only [hb0]; kernel_rfl))
 refine WL.setB 6 hb0 (by kernel_rfl) ?_
 refine WL.run ht hn 5 ⟨[sl 3 (B (decide (q ≥ n)))], [.gone]⟩ (by kernel_rfl) ?_
 exact WL.nil (sub_ok (by simp only [hb0]; kernel_rfl))
 refine En.ret ?_
 exact En.back ht ((decide (q < 0)) || (decide (q ≥ n))) h (by kernel_rfl) rfl
theorem en163 : ∀ args w, (callFunc 163 args).run Try.prog w = .ok (.enter 163 args) w := enters_of Try.func163 (by kernel_rfl) rfl
def detC3_vc (l : (List Int)) (domno : (Int → Prop)) (no : (Int → Bool)) (Q : Bool → Prop) : Prop :=
 l.length ≤ 9223372036854775807 →
 ((∀ x_ ∈ l, domno x_) ∧
 Q (l.any no))
theorem detC3_walk (l : (List Int)) (domno : (Int → Prop)) (no : (Int → Bool)) (Q : Bool → Prop) (h : detC3_vc l domno no Q) : Ct 164 [.sv (.one (LS intT l)), .sv (.one (.ptr 0 0))] [.box [.rd (fvR (fun (x : Int) => [.sv (.one (I x))]) (fun (r : Bool) => .sv (.one (B r))) domno no)] 195 true] Q (fun (r : Bool) => .sv (.one (B r))) := by
 have ht := tab_ok
 refine Ct.body Try.func164 rfl rfl rfl rfl (fun c hn => ?_)
 unfold detC3_vc at h
 refine En.lenL 0 (by rfl) (fun hl => ?_)
 replace h := h hl
 clear hl
 refine En.seq ?_
 refine En.region ?_
 refine WL.run ht hn 1 ⟨[sl 0 (LS intT l), sl 1 (.ptr 0 0)], [.box [.rd (fvR (fun (x : Int) => [.sv (.one (I x))]) (fun (r : Bool) => .sv (.one (B r))) domno no)] 195 true]⟩ (by kernel_rfl) ?_
 refine WL.nil ?_
 refine En.seq ?_
 refine En.region ?_
 refine WL.run ht hn 2 ⟨[sl 4 (LS intT l), sl 5 (.rd (fvR (fun (x : Int) => [.sv (.one (I x))]) (fun (r : Bool) => .sv (.one (B r))) domno no))], [.gone]⟩ (by kernel_rfl) ?_
 have hp := h.1
 replace h := h.2
 refine WL.mt0 (K := []) (p := none) hn (by rfl) (mt_call (anyInt_ct l domno no hp) en99 (caps := []) [] rfl (by rfl) (by kernel_rfl) (by kernel_rfl) (by rfl) (by rfl) (by rfl)) (by rfl) (by rfl) (by rfl) ?_
 refine WL.run ht hn 1 ⟨[sl 3 (B (l.any no))], [.gone]⟩ (by kernel_rfl) ?_
 refine WL.nil ?_
 refine En.ret ?_
 exact En.back ht (l.any no) h (by kernel_rfl) rfl
theorem en164 : ∀ args w, (callFunc 164 args).run Try.prog w = .ok (.enter 164 args) w := enters_of Try.func164 (by kernel_rfl) rfl
def detC4_vc (m : Int) (Q : Bool → Prop) : Prop :=
 Q ((m != 0) && (m != 1))
theorem detC4_walk (m : Int) (Q : Bool → Prop) (h : detC4_vc m Q) : Ct 165 [.sv (.one (I m))] [] Q (fun (r : Bool) => .sv (.one (B r))) := by
 have ht := tab_ok
 refine Ct.body Try.func165 rfl rfl rfl rfl (fun c hn => ?_)
 unfold detC4_vc at h
 refine En.seq ?_
 refine En.region ?_
 refine WL.run ht hn 1 ⟨[sl 0 (I m)], []⟩ (by kernel_rfl) ?_
 refine WL.nil ?_
 refine En.seq ?_
 refine En.region ?_
 refine WL.run ht hn 3 ⟨[sl 0 (I m), sl 5 (B (m != 0))], []⟩ (by kernel_rfl) ?_
 refine WL.thru ⟨[sl 2 (B ((m != 0) && (m != 1)))], []⟩ ?_ ?_
 refine splitB (m != 0) (fun hb0 => ?_) (fun hb0 => ?_)
 refine WL.setB 5 hb0 (by kernel_rfl) ?_
 refine WL.run ht hn 4 ⟨[sl 2 (B (m != 1))], []⟩ (by kernel_rfl) ?_
 exact WL.nil (sub_ok (by simp only [hb0]; kernel_rfl))
 refine WL.setB 5 hb0 (by kernel_rfl) ?_
 refine WL.run ht hn 4 ⟨[sl 2 (B false)], []⟩ (by kernel_rfl) ?_
 exact WL.nil (sub_ok (by simp only [hb0]; kernel_rfl))
 refine En.ret ?_
 exact En.back ht ((m != 0) && (m != 1)) h (by kernel_rfl) rfl
theorem en165 : ∀ args w, (callFunc 165 args).run Try.prog w = .ok (.enter 165 args) w := enters_of Try.func165 (by kernel_rfl) rfl
theorem detC1_ct (r : (List Int)) (x : ApiDet)  : Ct 162 [.sv (.one (LS intT r)), .sv (.one (.ptr 0 0))] [.box [I x.fLetters, I x.fStart, LS (lsT intT) x.fNext, LS intT x.fMark] 73 true] (fun (_ : Unit) => True) (fun _ => .sv (.one (B ((r.length : Int) != x.fLetters)))) := by
 refine (detC1_walk r x (fun res_ => res_ = ((r.length : Int) != x.fLetters)) ?_).fun
 exact fun _ => rfl
theorem detC2_ct (q : Int) (n : Int)  : Ct 163 [.sv (.one (I q)), .sv (.one (.ptr 0 0))] [.box [I n] 3 true] (fun (_ : Unit) => True) (fun _ => .sv (.one (B (altNo n q)))) := by
 refine (detC2_walk q n (fun res_ => res_ = (altNo n q)) ?_).fun
 rfl
theorem detC3_ct (l : (List Int)) (domno : (Int → Prop)) (no : (Int → Bool)) (hd : ∀ x ∈ l, domno x) : Ct 164 [.sv (.one (LS intT l)), .sv (.one (.ptr 0 0))] [.box [.rd (fvR (fun (x : Int) => [.sv (.one (I x))]) (fun (r : Bool) => .sv (.one (B r))) domno no)] 195 true] (fun (_ : Unit) => True) (fun _ => .sv (.one (B (l.any no)))) := by
 refine (detC3_walk l domno no (fun res_ => res_ = (l.any no)) ?_).fun
 exact fun _ => ⟨hd, rfl⟩
theorem detC4_ct (m : Int)  : Ct 165 [.sv (.one (I m))] [] (fun (_ : Unit) => True) (fun _ => .sv (.one (B ((m != 0) && (m != 1))))) := by
 refine (detC4_walk m (fun res_ => res_ = ((m != 0) && (m != 1))) ?_).fun
 rfl
def detCheck_vc (x : ApiDet) (Q : Int → Prop) : Prop :=
 x.fNext.length ≤ 9223372036854775807 →
 x.fMark.length ≤ 9223372036854775807 →
 (IfP ((decide (x.fLetters < 1)) || (decide (x.fLetters > 4))) (Q 2) (IfP ((decide ((x.fNext.length : Int) < 1)) || (decide ((x.fNext.length : Int) > 3000))) (Q 1) (∃ J : Bool → Prop, (IfP ((x.fMark.length : Int) != (x.fNext.length : Int)) (J true) ((∀ x_ ∈ x.fNext, (fun _ => True) x_) ∧
 J (x.fNext.any (fun r => (r.length : Int) != (x).fLetters)))) ∧
 (∀ (x32 : Bool), J x32 → IfP x32 (Q 3) (∃ J_2 : Bool → Prop, (((fun _ => True) x.fStart) ∧
 IfP ((altNo (x.fNext.length : Int)) x.fStart) (J_2 true) ((∀ x_ ∈ x.fNext, (fun l => ∀ x ∈ l, (fun _ => True) x) x_) ∧
 J_2 (x.fNext.any (fun l => l.any (altNo (x.fNext.length : Int)))))) ∧
 (∀ (x43 : Bool), J_2 x43 → IfP x43 (Q 2) ((∀ x_ ∈ x.fMark, (fun _ => True) x_) ∧
 IfP (x.fMark.any (fun m => (m != 0) && (m != 1))) (Q 2) (Q 0))))))))
theorem detCheck_walk (x : ApiDet) (Q : Int → Prop) (h : detCheck_vc x Q) : Ct 82 [.sv (.agg [I x.fLetters, I x.fStart, LS (lsT intT) x.fNext, LS intT x.fMark])] [] Q (fun (r : Int) => .sv (.one (I r))) := by
 have ht := tab_ok
 refine Ct.body Try.func82 rfl rfl rfl rfl (fun c hn => ?_)
 unfold detCheck_vc at h
 refine En.lenA 0 2 (by rfl) (by rfl) (fun hl => ?_)
 replace h := h hl
 clear hl
 refine En.lenA 0 3 (by rfl) (by rfl) (fun hl => ?_)
 replace h := h hl
 clear hl
 refine En.seq ?_
 refine En.region ?_
 refine WL.run ht hn 2 ⟨[sl 1 (.ptr 0 0)], [.box (ApiDet.cl x) 73 false]⟩ (by kernel_rfl) ?_
 refine WL.nil ?_
 refine En.seq ?_
 refine En.seq ?_
 refine En.region ?_
 refine WL.run ht hn 4 ⟨[sl 1 (.ptr 0 0), sl 8 (B (decide (x.fLetters < 1)))], [.box (ApiDet.cl x) 73 false]⟩ (by kernel_rfl) ?_
 refine WL.thru ⟨[sl 1 (.ptr 0 0), sl 12 (B ((decide (x.fLetters < 1)) || (decide (x.fLetters > 4))))], [.box (ApiDet.cl x) 73 false]⟩ ?_ ?_
 refine splitB (decide (x.fLetters < 1)) (fun hb0 => ?_) (fun hb0 => ?_)
 refine WL.setB 8 hb0 (by kernel_rfl) ?_
 refine WL.run ht hn 4 ⟨[sl 1 (.ptr 0 0), sl 12 (B true)], [.box (ApiDet.cl x) 73 false]⟩ (by kernel_rfl) ?_
 exact WL.nil (sub_ok (by simp only [hb0]; kernel_rfl))
 refine WL.setB 8 hb0 (by kernel_rfl) ?_
 refine WL.run ht hn 4 ⟨[sl 1 (.ptr 0 0), sl 12 (B (decide (x.fLetters > 4)))], [.box (ApiDet.cl x) 73 false]⟩ (by kernel_rfl) ?_
 exact WL.nil (sub_ok (by simp only [hb0]; kernel_rfl))
 refine En.cond (b := ((decide (x.fLetters < 1)) || (decide (x.fLetters > 4)))) (by kernel_rfl) (fun hb => ?_) (fun hb => ?_)
 replace h := h.1 hb
 refine En.seq ?_
 refine En.region ?_
 refine WL.run ht hn 1 ⟨[sl 2 (I 2)], [.gone]⟩ (by kernel_rfl) ?_
 refine WL.nil ?_
 refine En.ret ?_
 exact En.back ht 2 h (by kernel_rfl) rfl
 replace h := h.2 hb
 refine En.skip ?_
 refine En.seq ?_
 refine En.region ?_
 refine WL.run ht hn 5 ⟨[sl 1 (.ptr 0 0), sl 3 (.ptr 1 0)], [.box (ApiDet.cl x) 73 false, .box [I (x.fNext.length : Int)] 3 false]⟩ (by kernel_rfl) ?_
 refine WL.nil ?_
 refine En.seq ?_
 refine En.seq ?_
 refine En.region ?_
 refine WL.run ht hn 3 ⟨[sl 1 (.ptr 0 0), sl 3 (.ptr 1 0), sl 18 (B (decide ((x.fNext.length : Int) < 1)))], [.box (ApiDet.cl x) 73 false, .box [I (x.fNext.length : Int)] 3 false]⟩ (by kernel_rfl) ?_
 refine WL.thru ⟨[sl 1 (.ptr 0 0), sl 3 (.ptr 1 0), sl 21 (B ((decide ((x.fNext.length : Int) < 1)) || (decide ((x.fNext.length : Int) > 3000))))], [.box (ApiDet.cl x) 73 false, .box [I (x.fNext.length : Int)] 3 false]⟩ ?_ ?_
 refine splitB (decide ((x.fNext.length : Int) < 1)) (fun hb0 => ?_) (fun hb0 => ?_)
 refine WL.setB 18 hb0 (by kernel_rfl) ?_
 refine WL.run ht hn 3 ⟨[sl 1 (.ptr 0 0), sl 3 (.ptr 1 0), sl 21 (B true)], [.box (ApiDet.cl x) 73 false, .box [I (x.fNext.length : Int)] 3 false]⟩ (by kernel_rfl) ?_
 exact WL.nil (sub_ok (by simp only [hb0]; kernel_rfl))
 refine WL.setB 18 hb0 (by kernel_rfl) ?_
 refine WL.run ht hn 3 ⟨[sl 1 (.ptr 0 0), sl 3 (.ptr 1 0), sl 21 (B (decide ((x.fNext.length : Int) > 3000)))], [.box (ApiDet.cl x) 73 false, .box [I (x.fNext.length : Int)] 3 false]⟩ (by kernel_rfl) ?_
 exact WL.nil (sub_ok (by simp only [hb0]; kernel_rfl))
 refine En.cond (b := ((decide ((x.fNext.length : Int) < 1)) || (decide ((x.fNext.length : Int) > 3000)))) (by kernel_rfl) (fun hb => ?_) (fun hb => ?_)
 replace h := h.1 hb
 refine En.seq ?_
 refine En.region ?_
 refine WL.run ht hn 1 ⟨[sl 2 (I 1)], [.gone, .gone]⟩ (by kernel_rfl) ?_
 refine WL.nil ?_
 refine En.ret ?_
 exact En.back ht 1 h (by kernel_rfl) rfl
 replace h := h.2 hb
 refine En.skip ?_
 refine En.seq ?_
 obtain ⟨J, h, hJ⟩ := h
 refine En.seqJ (σ := Bool) (fun zz => J zz) (fun zz => ⟨[sl 1 (.ptr 0 0), sl 3 (.ptr 1 0), sl 32 (B zz)], [.box (ApiDet.cl x) 73 false, .box [I (x.fNext.length : Int)] 3 false]⟩) ?_ ?_
 refine En.region ?_
 refine WL.run ht hn 6 ⟨[sl 1 (.ptr 0 0), sl 3 (.ptr 1 0), sl 27 (B ((x.fMark.length : Int) != (x.fNext.length : Int)))], [.box (ApiDet.cl x) 73 false, .box [I (x.fNext.length : Int)] 3 false]⟩ (by kernel_rfl) ?_
 refine splitB ((x.fMark.length : Int) != (x.fNext.length : Int)) (fun hb => ?_) (fun hb => ?_)
 replace h := h.1 hb
 refine WL.setB 27 hb (by kernel_rfl) ?_
 refine WL.run ht hn 5 ⟨[sl 1 (.ptr 0 0), sl 3 (.ptr 1 0), sl 32 (B true)], [.box (ApiDet.cl x) 73 false, .box [I (x.fNext.length : Int)] 3 false]⟩ (by kernel_rfl) ?_
 refine WL.nil ?_
 exact En.at (I := fun zz => J zz) (T := fun zz => ⟨[sl 1 (.ptr 0 0), sl 3 (.ptr 1 0), sl 32 (B zz)], [.box (ApiDet.cl x) 73 false, .box [I (x.fNext.length : Int)] 3 false]⟩) true h (by kernel_rfl)
 replace h := h.2 hb
 refine WL.setB 27 hb (by kernel_rfl) ?_
 refine WL.run ht hn 3 ⟨[sl 1 (.ptr 0 0), sl 3 (.ptr 1 0), sl 27 (B false), sl 29 (LS (lsT intT) x.fNext), sl 30 (.fn 162 [0])], [.box (ApiDet.cl x) 73 false, .box [I (x.fNext.length : Int)] 3 false]⟩ (by kernel_rfl) ?_
 have hp := h.1
 replace h := h.2
 refine WL.mt0 (K := []) (p := none) hn (by rfl) (mt_lendF [0] (by rfl) (by rfl) (mt_ghost 30 (o1 (.rd (fvR (fun (x_ : (List Int)) => [.sv (.one (LS intT x_))]) (fun (r : Bool) => .sv (.one (B r))) (fun _ => True) (fun r => (r.length : Int) != (x).fLetters)))) (by rfl) (fv_of (M := [.box (ApiDet.cl x) 73 true]) (caps := [0]) (fun x_ _ => detC1_ct x_ x) en162 rfl (by kernel_rfl) (by rfl) (fun _ => rfl)) (mt_call (anyLInt_ct x.fNext (fun _ => True) (fun r => (r.length : Int) != (x).fLetters) hp) en93 (caps := []) [] rfl (by rfl) (by kernel_rfl) (by kernel_rfl) (by rfl) (by rfl) (by rfl)))) (by rfl) (by rfl) (by rfl) ?_
 refine WL.run ht hn 1 ⟨[sl 1 (.ptr 0 0), sl 3 (.ptr 1 0), sl 32 (B (x.fNext.any (fun r => (r.length : Int) != (x).fLetters)))], [.box (ApiDet.cl x) 73 false, .box [I (x.fNext.length : Int)] 3 false]⟩ (by kernel_rfl) ?_
 refine WL.nil ?_
 exact En.at (I := fun zz => J zz) (T := fun zz => ⟨[sl 1 (.ptr 0 0), sl 3 (.ptr 1 0), sl 32 (B zz)], [.box (ApiDet.cl x) 73 false, .box [I (x.fNext.length : Int)] 3 false]⟩) (x.fNext.any (fun r => (r.length : Int) != (x).fLetters)) h (by kernel_rfl)
 intro x32 h
 replace h := hJ _ h
 show En c ⟨[sl 1 (.ptr 0 0), sl 3 (.ptr 1 0), sl 32 (B x32)], [.box (ApiDet.cl x) 73 false, .box [I (x.fNext.length : Int)] 3 false]⟩ _
 refine En.cond (b := x32) (by kernel_rfl) (fun hb => ?_) (fun hb => ?_)
 replace h := h.1 hb
 refine En.seq ?_
 refine En.region ?_
 refine WL.run ht hn 1 ⟨[sl 2 (I 3)], [.gone, .gone]⟩ (by kernel_rfl) ?_
 refine WL.nil ?_
 refine En.ret ?_
 exact En.back ht 3 h (by kernel_rfl) rfl
 replace h := h.2 hb
 refine En.skip ?_
 refine En.seq ?_
 refine En.region ?_
 refine WL.run ht hn 3 ⟨[sl 1 (.ptr 0 0), sl 4 (.ptr 2 0)], [.box (ApiDet.cl x) 73 false, .box [I (x.fNext.length : Int)] 3 false, .box [.fn 163 [1]] 195 false]⟩ (by kernel_rfl) ?_
 refine WL.nil ?_
 refine En.seq ?_
 obtain ⟨J_2, h, hJ_2⟩ := h
 refine En.seqJ (σ := Bool) (fun zz => J_2 zz) (fun zz => ⟨[sl 1 (.ptr 0 0), sl 43 (B zz)], [.box (ApiDet.cl x) 73 false, .gone, .gone]⟩) ?_ ?_
 refine En.region ?_
 refine WL.run ht hn 3 ⟨[sl 1 (.ptr 0 0), sl 4 (.ptr 2 0), sl 34 (.fn 163 [1]), sl 36 (I x.fStart)], [.box (ApiDet.cl x) 73 false, .box [I (x.fNext.length : Int)] 3 false, .box [.fn 163 [1]] 195 false]⟩ (by kernel_rfl) ?_
 refine WL.freeze [1] (by rfl) ?_
 refine WL.ghost 34 (o1 (.rd (fvR (fun (x_ : Int) => [.sv (.one (I x_))]) (fun (r : Bool) => .sv (.one (B r))) (fun _ => True) (altNo (x.fNext.length : Int))))) (by rfl) (fv_of (M := [.box [I (x.fNext.length : Int)] 3 true]) (caps := [1]) (fun x_ _ => detC2_ct x_ (x.fNext.length : Int)) en163 rfl (by kernel_rfl) (by rfl) (fun _ => rfl)) ?_
 have hp := h.1
 replace h := h.2
 refine WL.mt0 (K := []) (p := none) hn (by rfl) (mt_callv x.fStart hp rfl (by rfl) (by rfl) (by rfl) (by rfl)) (by rfl) (by rfl) (by rfl) ?_
 refine WL.run ht hn 1 ⟨[sl 1 (.ptr 0 0), sl 4 (.ptr 2 0), sl 38 (B ((altNo (x.fNext.length : Int)) x.fStart))], [.box (ApiDet.cl x) 73 false, .box [I (x.fNext.length : Int)] 3 true, .box [.fn 163 [1]] 195 false]⟩ (by kernel_rfl) ?_
 refine splitB ((altNo (x.fNext.length : Int)) x.fStart) (fun hb => ?_) (fun hb => ?_)
 replace h := h.1 hb
 refine WL.setB 38 hb (by kernel_rfl) ?_
 refine WL.run ht hn 5 ⟨[sl 1 (.ptr 0 0), sl 43 (B true)], [.box (ApiDet.cl x) 73 false, .gone, .gone]⟩ (by kernel_rfl) ?_
 refine WL.nil ?_
 exact En.at (I := fun zz => J_2 zz) (T := fun zz => ⟨[sl 1 (.ptr 0 0), sl 43 (B zz)], [.box (ApiDet.cl x) 73 false, .gone, .gone]⟩) true h (by kernel_rfl)
 replace h := h.2 hb
 refine WL.setB 38 hb (by kernel_rfl) ?_
 refine WL.run ht hn 3 ⟨[sl 1 (.ptr 0 0), sl 38 (B false), sl 40 (LS (lsT intT) x.fNext), sl 41 (.fn 164 [2])], [.box (ApiDet.cl x) 73 false, .box [I (x.fNext.length : Int)] 3 true, .box [.fn 163 [1]] 195 false]⟩ (by kernel_rfl) ?_
 have hp := h.1
 replace h := h.2
 refine WL.mt0 (K := []) (p := none) hn (by rfl) (mt_lendB (.rd (fvR (fun (x_ : Int) => [.sv (.one (I x_))]) (fun (r : Bool) => .sv (.one (B r))) (fun _ => True) (altNo (x.fNext.length : Int)))) 2 0 (by rfl) (by rfl) (fv_at (fv_of (M := [.box [I (x.fNext.length : Int)] 3 true]) (caps := [1]) (fun x_ _ => detC2_ct x_ (x.fNext.length : Int)) en163 rfl (by kernel_rfl) (by rfl) (fun _ => rfl))) (mt_lendF [2] (by rfl) (by rfl) (mt_ghost 41 (o1 (.rd (fvR (fun (x_ : (List Int)) => [.sv (.one (LS intT x_))]) (fun (r : Bool) => .sv (.one (B r))) (fun l => ∀ x ∈ l, (fun _ => True) x) (fun l => l.any (altNo (x.fNext.length : Int)))))) (by rfl) (fv_of (M := [.box [.rd (fvR (fun (x_ : Int) => [.sv (.one (I x_))]) (fun (r : Bool) => .sv (.one (B r))) (fun _ => True) (altNo (x.fNext.length : Int)))] 195 true]) (caps := [2]) (fun x_ hx => detC3_ct x_ (fun _ => True) (altNo (x.fNext.length : Int)) hx) en164 rfl (by kernel_rfl) (by rfl) (fun _ => rfl)) (mt_call (anyLInt_ct x.fNext (fun l => ∀ x ∈ l, (fun _ => True) x) (fun l => l.any (altNo (x.fNext.length : Int))) hp) en93 (caps := []) [] rfl (by rfl) (by kernel_rfl) (by kernel_rfl) (by rfl) (by rfl) (by rfl))))) (by rfl) (by rfl) (by rfl) ?_
 refine WL.run ht hn 1 ⟨[sl 1 (.ptr 0 0), sl 43 (B (x.fNext.any (fun l => l.any (altNo (x.fNext.length : Int)))))], [.box (ApiDet.cl x) 73 false, .gone, .gone]⟩ (by kernel_rfl) ?_
 refine WL.nil ?_
 exact En.at (I := fun zz => J_2 zz) (T := fun zz => ⟨[sl 1 (.ptr 0 0), sl 43 (B zz)], [.box (ApiDet.cl x) 73 false, .gone, .gone]⟩) (x.fNext.any (fun l => l.any (altNo (x.fNext.length : Int)))) h (by kernel_rfl)
 intro x43 h
 replace h := hJ_2 _ h
 show En c ⟨[sl 1 (.ptr 0 0), sl 43 (B x43)], [.box (ApiDet.cl x) 73 false, .gone, .gone]⟩ _
 refine En.cond (b := x43) (by kernel_rfl) (fun hb => ?_) (fun hb => ?_)
 replace h := h.1 hb
 refine En.seq ?_
 refine En.region ?_
 refine WL.run ht hn 1 ⟨[sl 2 (I 2)], [.gone, .gone, .gone]⟩ (by kernel_rfl) ?_
 refine WL.nil ?_
 refine En.ret ?_
 exact En.back ht 2 h (by kernel_rfl) rfl
 replace h := h.2 hb
 refine En.skip ?_
 refine En.seq ?_
 refine En.seq ?_
 refine En.region ?_
 refine WL.run ht hn 2 ⟨[sl 45 (LS intT x.fMark)], [.gone, .gone, .gone]⟩ (by kernel_rfl) ?_
 have hp := h.1
 replace h := h.2
 refine WL.mt0 (K := []) (p := none) hn (by rfl) (mt_call (Ct.args (anyInt_ct x.fMark (fun _ => True) (fun m => (m != 0) && (m != 1)) hp) (argLe_same (argLe_to (fv_const (ins := (fun (x_ : Int) => [.sv (.one (I x_))])) (out := (fun (r : Bool) => .sv (.one (B r)))) (dom := (fun _ => True)) (φ := (fun m => (m != 0) && (m != 1))) (fun x_ _ => detC4_ct x_) en165) argLe_nil))) en99 (caps := []) [] rfl (by rfl) (by kernel_rfl) (by kernel_rfl) (by rfl) (by rfl) (by rfl)) (by rfl) (by rfl) (by rfl) ?_
 refine WL.nil ?_
 refine En.cond (b := (x.fMark.any (fun m => (m != 0) && (m != 1)))) (by kernel_rfl) (fun hb => ?_) (fun hb => ?_)
 replace h := h.1 hb
 refine En.seq ?_
 refine En.region ?_
 refine WL.run ht hn 1 ⟨[sl 2 (I 2)], [.gone, .gone, .gone]⟩ (by kernel_rfl) ?_
 refine WL.nil ?_
 refine En.ret ?_
 exact En.back ht 2 h (by kernel_rfl) rfl
 replace h := h.2 hb
 refine En.skip ?_
 refine En.seq ?_
 refine En.region ?_
 refine WL.run ht hn 1 ⟨[sl 2 (I 0)], [.gone, .gone, .gone]⟩ (by kernel_rfl) ?_
 refine WL.nil ?_
 refine En.ret ?_
 exact En.back ht 0 h (by kernel_rfl) rfl
theorem en82 : ∀ args w, (callFunc 82 args).run Try.prog w = .ok (.enter 82 args) w := enters_of Try.func82 (by kernel_rfl) rfl
theorem detCheck_ct (x : ApiDet)  : Ct 82 [.sv (.agg [I x.fLetters, I x.fStart, LS (lsT intT) x.fNext, LS intT x.fMark])] [] (fun (_ : Unit) => True) (fun _ => .sv (.one (I (detErr x)))) := by
 refine (detCheck_walk x (fun res_ => res_ = (detErr x)) ?_).fun
 intro _ _
 refine ⟨fun h1 => ?_, fun h1 => ⟨fun h2 => ?_, fun h2 => ?_⟩⟩
 ·show _ = detErr x
  unfold detErr; rw [if_pos h1]
 ·show _ = detErr x
  unfold detErr; rw [if_neg (by rw [h1]; decide), if_pos h2]
 refine ⟨fun b => b = (((x.fMark.length : Int) != (x.fNext.length : Int)) || x.fNext.any (fun r => (r.length : Int) != (x).fLetters)), ⟨fun h => by rw [h]; rfl, fun h => ⟨fun _ _ => trivial, by rw [h]; rfl⟩⟩, ?_⟩
 rintro b rfl
 refine ⟨fun h3 => ?_, fun h3 => ?_⟩
 ·show _ = detErr x
  unfold detErr; rw [if_neg (by rw [h1]; decide), if_neg (by rw [h2]; decide), if_pos h3]
 refine ⟨fun b => b = (altNo (x.fNext.length : Int) x.fStart || x.fNext.any (fun l => l.any (altNo (x.fNext.length : Int)))), ⟨trivial, fun h => by rw [h]; rfl, fun h => ⟨fun _ _ _ _ => trivial, by rw [h]; rfl⟩⟩, ?_⟩
 rintro b rfl
 refine ⟨fun h4 => ?_, fun h4 => ⟨fun _ _ => trivial, fun h5 => ?_, fun h5 => ?_⟩⟩
 ·show _ = detErr x
  unfold detErr; rw [if_neg (by rw [h1]; decide), if_neg (by rw [h2]; decide), if_neg (by rw [h3]; decide), if_pos h4]
 ·show _ = detErr x
  unfold detErr; rw [if_neg (by rw [h1]; decide), if_neg (by rw [h2]; decide), if_neg (by rw [h3]; decide), if_neg (by rw [h4]; decide), if_pos h5]
 ·show _ = detErr x
  unfold detErr; rw [if_neg (by rw [h1]; decide), if_neg (by rw [h2]; decide), if_neg (by rw [h3]; decide), if_neg (by rw [h4]; decide), if_neg (by rw [h5]; decide)]
def detTwo_vc (x : ApiDet) (y : ApiDet) (Q : Int → Prop) : Prop :=
 x.fNext.length ≤ 9223372036854775807 →
 x.fMark.length ≤ 9223372036854775807 →
 y.fNext.length ≤ 9223372036854775807 →
 y.fMark.length ≤ 9223372036854775807 →
 (∃ (Inv : Int → Prop) (mu : Int → Nat), Inv 0 ∧
 ∀ (x12 : Int) , Inv x12 → (IfP (decide (x12 < (([x, y] : (List ApiDet)).length : Int))) (∃ e, idx ([x, y] : (List ApiDet)) x12 = some e ∧
 IfP ((detErr e) != 0) (Q (detErr e)) ((Inv (wr (x12 + 1)) ∧ mu (wr (x12 + 1)) < mu x12))) (IfP (x.fLetters != y.fLetters) (Q 3) (Q 0))))
noncomputable abbrev qdetTwo0 (x : ApiDet) (y : ApiDet) := (I (([x, y] : (List ApiDet)).length : Int))
theorem detTwo_walk (x : ApiDet) (y : ApiDet) (Q : Int → Prop) (h : detTwo_vc x y Q) : Ct 78 [.sv (.agg [I x.fLetters, I x.fStart, LS (lsT intT) x.fNext, LS intT x.fMark]), .sv (.agg [I y.fLetters, I y.fStart, LS (lsT intT) y.fNext, LS intT y.fMark])] [] Q (fun (r : Int) => .sv (.one (I r))) := by
 have ht := tab_ok
 refine Ct.body Try.func78 rfl rfl rfl rfl (fun c hn => ?_)
 unfold detTwo_vc at h
 refine En.lenA 0 2 (by rfl) (by rfl) (fun hl => ?_)
 replace h := h hl
 clear hl
 refine En.lenA 0 3 (by rfl) (by rfl) (fun hl => ?_)
 replace h := h hl
 clear hl
 refine En.lenA 1 2 (by rfl) (by rfl) (fun hl => ?_)
 replace h := h hl
 clear hl
 refine En.lenA 1 3 (by rfl) (by rfl) (fun hl => ?_)
 replace h := h hl
 clear hl
 refine En.seq ?_
 refine En.region ?_
 refine WL.run ht hn 3 ⟨[sl 2 (.ptr 0 0), sl 3 (.ptr 1 0)], [.box (ApiDet.cl x) 73 false, .box (ApiDet.cl y) 73 false]⟩ (by kernel_rfl) ?_
 refine WL.nil ?_
 refine En.seq ?_
 refine En.seq ?_
 refine En.region ?_
 refine WL.run ht hn 2 ⟨[sl 2 (.ptr 0 0), sl 3 (.ptr 1 0), (8, .sv (.agg (ApiDet.cl x))), (9, .sv (.agg (ApiDet.cl y)))], [.box (ApiDet.cl x) 73 false, .box (ApiDet.cl y) 73 false]⟩ (by kernel_rfl) ?_
 refine WL.mt0 (K := []) (p := some (2, rowI 73 ApiDet.ty ([x, y] : (List ApiDet)))) hn (by rfl) (mt_lit (T := ApiDet.ty) ([x, y] : (List ApiDet)) (mt_bsl 2 (r := cellsOf ApiDet.ty ([x, y] : (List ApiDet))) ht rfl (by rfl) (by rfl) (by rfl) (by kernel_rfl) (by rfl)) (fun _ h => by cases h) (fun _ => rfl) (fun _ => rfl) (by rfl) (Nat.le_of_ble_eq_true rfl)) (by rfl) (by rfl) (by rfl) ?_
 refine WL.run ht hn 2 ⟨[sl 2 (.ptr 0 0), sl 3 (.ptr 1 0), sl 10 (.own 2), sl 11 (qdetTwo0 x y), sl 12 (I 0)], [.box (ApiDet.cl x) 73 false, .box (ApiDet.cl y) 73 false, rowI 73 ApiDet.ty ([x, y] : (List ApiDet))]⟩ (by kernel_rfl) ?_
 refine WL.nil ?_
 refine En.block ?_
 obtain ⟨Inv, mu, h0, hI⟩ := h
 refine En.loop (σ := Int) (fun zz => Inv zz) (fun zz => mu zz) (fun zz => ⟨[sl 2 (.ptr 0 0), sl 3 (.ptr 1 0), sl 10 (.own 2), sl 11 (qdetTwo0 x y), sl 12 (I zz)], [.box (ApiDet.cl x) 73 false, .box (ApiDet.cl y) 73 false, rowI 73 ApiDet.ty ([x, y] : (List ApiDet))]⟩) 0 h0 (sub_ok (by kernel_rfl)) ?_
 intro x12 h
 replace h := hI _ h
 show En c ⟨[sl 2 (.ptr 0 0), sl 3 (.ptr 1 0), sl 10 (.own 2), sl 11 (qdetTwo0 x y), sl 12 (I x12)], [.box (ApiDet.cl x) 73 false, .box (ApiDet.cl y) 73 false, rowI 73 ApiDet.ty ([x, y] : (List ApiDet))]⟩ _
 refine En.seq ?_
 refine En.region ?_
 refine WL.run ht hn 1 ⟨[sl 2 (.ptr 0 0), sl 3 (.ptr 1 0), sl 10 (.own 2), sl 11 (qdetTwo0 x y), sl 12 (I x12), sl 13 (B (decide (x12 < (([x, y] : (List ApiDet)).length : Int))))], [.box (ApiDet.cl x) 73 false, .box (ApiDet.cl y) 73 false, rowI 73 ApiDet.ty ([x, y] : (List ApiDet))]⟩ (by kernel_rfl) ?_
 refine WL.nil ?_
 refine En.seq ?_
 refine En.cond (b := (decide (x12 < (([x, y] : (List ApiDet)).length : Int)))) (by kernel_rfl) (fun hb => ?_) (fun hb => ?_)
 replace h := h.1 hb
 refine En.skip ?_
 refine En.seq ?_
 refine En.block ?_
 refine En.seq ?_
 refine En.region ?_
 obtain ⟨e, he, h⟩ := h
 refine WL.val hn (by rfl) (val_indexO (T := ApiDet.ty) (l := ([x, y] : (List ApiDet))) (k := x12) ht rfl (by rfl) (by rfl) (by rfl) (by rfl) (by decide) (by rfl) (by rfl) (by rfl) he) (by rfl) ?_
 refine WL.val hn (by rfl) (val_loadO (T := ApiDet.ty) (l := ([x, y] : (List ApiDet))) (y := e) ht rfl (by rfl) (by rfl) (by rfl) (by rfl) (by rfl) (idx_some he).2.2 (by rfl)) (by rfl) ?_
 refine WL.run ht hn 2 ⟨[sl 2 (.ptr 0 0), sl 3 (.ptr 1 0), sl 6 (.ptr 3 0), sl 10 (.own 2), sl 11 (qdetTwo0 x y), sl 12 (I x12)], [.box (ApiDet.cl x) 73 false, .box (ApiDet.cl y) 73 false, rowI 73 ApiDet.ty ([x, y] : (List ApiDet)), .box (ApiDet.cl e) 73 false]⟩ (by kernel_rfl) ?_
 refine WL.nil ?_
 refine En.seq ?_
 refine En.region ?_
 refine WL.run ht hn 1 ⟨[sl 2 (.ptr 0 0), sl 3 (.ptr 1 0), sl 10 (.own 2), sl 11 (qdetTwo0 x y), sl 12 (I x12), (16, .sv (.agg (ApiDet.cl e)))], [.box (ApiDet.cl x) 73 false, .box (ApiDet.cl y) 73 false, rowI 73 ApiDet.ty ([x, y] : (List ApiDet)), .gone]⟩ (by kernel_rfl) ?_
 refine WL.mt0 (K := []) (p := none) hn (by rfl) (mt_call (detCheck_ct e) en82 (caps := []) [] rfl (by rfl) (by kernel_rfl) (by kernel_rfl) (by rfl) (by rfl) (by rfl)) (by rfl) (by rfl) (by rfl) ?_
 refine WL.run ht hn 1 ⟨[sl 2 (.ptr 0 0), sl 3 (.ptr 1 0), sl 7 (I (detErr e)), sl 10 (.own 2), sl 11 (qdetTwo0 x y), sl 12 (I x12)], [.box (ApiDet.cl x) 73 false, .box (ApiDet.cl y) 73 false, rowI 73 ApiDet.ty ([x, y] : (List ApiDet)), .gone]⟩ (by kernel_rfl) ?_
 refine WL.nil ?_
 refine En.seq ?_
 refine En.region ?_
 refine WL.run ht hn 2 ⟨[sl 2 (.ptr 0 0), sl 3 (.ptr 1 0), sl 7 (I (detErr e)), sl 10 (.own 2), sl 11 (qdetTwo0 x y), sl 12 (I x12), sl 19 (B ((detErr e) != 0))], [.box (ApiDet.cl x) 73 false, .box (ApiDet.cl y) 73 false, rowI 73 ApiDet.ty ([x, y] : (List ApiDet)), .gone]⟩ (by kernel_rfl) ?_
 refine WL.nil ?_
 refine En.cond (b := ((detErr e) != 0)) (by kernel_rfl) (fun hb => ?_) (fun hb => ?_)
 replace h := h.1 hb
 refine En.seq ?_
 refine En.region ?_
 refine WL.run ht hn 2 ⟨[sl 4 (I (detErr e))], [.gone, .gone, .gone, .gone]⟩ (by kernel_rfl) ?_
 refine WL.nil ?_
 refine En.ret ?_
 exact En.back ht (detErr e) h (by kernel_rfl) rfl
 replace h := h.2 hb
 refine En.skip ?_
 refine En.region ?_
 refine WL.run ht hn 2 ⟨[sl 2 (.ptr 0 0), sl 3 (.ptr 1 0), sl 10 (.own 2), sl 11 (qdetTwo0 x y), sl 12 (I (wr (x12 + 1)))], [.box (ApiDet.cl x) 73 false, .box (ApiDet.cl y) 73 false, rowI 73 ApiDet.ty ([x, y] : (List ApiDet)), .gone]⟩ (by kernel_rfl) ?_
 refine WL.nil ?_
 exact En.at (I := fun zz => Inv zz ∧ mu zz < mu x12) (T := fun zz => ⟨[sl 2 (.ptr 0 0), sl 3 (.ptr 1 0), sl 10 (.own 2), sl 11 (qdetTwo0 x y), sl 12 (I zz)], [.box (ApiDet.cl x) 73 false, .box (ApiDet.cl y) 73 false, rowI 73 ApiDet.ty ([x, y] : (List ApiDet))]⟩) (wr (x12 + 1)) h (by kernel_rfl)
 replace h := h.2 hb
 refine En.exit rfl ?_
 refine En.seq ?_
 refine En.seq ?_
 refine En.region ?_
 refine WL.run ht hn 5 ⟨[sl 26 (B (x.fLetters != y.fLetters))], [.gone, .gone, .gone]⟩ (by kernel_rfl) ?_
 refine WL.nil ?_
 refine En.cond (b := (x.fLetters != y.fLetters)) (by kernel_rfl) (fun hb => ?_) (fun hb => ?_)
 replace h := h.1 hb
 refine En.seq ?_
 refine En.region ?_
 refine WL.run ht hn 1 ⟨[sl 4 (I 3)], [.gone, .gone, .gone]⟩ (by kernel_rfl) ?_
 refine WL.nil ?_
 refine En.ret ?_
 exact En.back ht 3 h (by kernel_rfl) rfl
 replace h := h.2 hb
 refine En.skip ?_
 refine En.seq ?_
 refine En.region ?_
 refine WL.run ht hn 1 ⟨[sl 4 (I 0)], [.gone, .gone, .gone]⟩ (by kernel_rfl) ?_
 refine WL.nil ?_
 refine En.ret ?_
 exact En.back ht 0 h (by kernel_rfl) rfl
theorem en78 : ∀ args w, (callFunc 78 args).run Try.prog w = .ok (.enter 78 args) w := enters_of Try.func78 (by kernel_rfl) rfl
def twoErr (x y : ApiDet) : Int := if detErr x = 0 then (if detErr y = 0 then (if x.fLetters = y.fLetters then 0 else 3) else detErr y) else detErr x
theorem detTwo_ct (x : ApiDet) (y : ApiDet)  : Ct 78 [.sv (.agg [I x.fLetters, I x.fStart, LS (lsT intT) x.fNext, LS intT x.fMark]), .sv (.agg [I y.fLetters, I y.fStart, LS (lsT intT) y.fNext, LS intT y.fMark])] [] (fun (_ : Unit) => True) (fun _ => .sv (.one (I (twoErr x y)))) := by
 refine (detTwo_walk x y (fun res_ => res_ = (twoErr x y)) ?_).fun
 intro _ _ _ _
 refine ⟨fun i => i = 0 ∨ (i = 1 ∧ detErr x = 0) ∨ (i = 2 ∧ detErr x = 0 ∧ detErr y = 0), fun i => 2 - i.toNat, .inl rfl, ?_⟩
 rintro i (rfl | ⟨rfl, hx⟩ | ⟨rfl, hx, hy⟩)
 ·refine ⟨fun _ => ⟨x, rfl, fun h => ?_, fun h => ⟨.inr (.inl ⟨rfl, by simpa using h⟩), by decide⟩⟩, (fun h => by cases h)⟩
  show _ = twoErr x y
  unfold twoErr
  rw [if_neg (by simpa using h)]
 ·refine ⟨fun _ => ⟨y, rfl, fun h => ?_, fun h => ⟨.inr (.inr ⟨rfl, hx, by simpa using h⟩), by decide⟩⟩, (fun h => by cases h)⟩
  show _ = twoErr x y
  unfold twoErr
  rw [if_pos hx, if_neg (by simpa using h)]
 ·refine ⟨(fun h => by cases h), fun _ => ⟨fun h => ?_, fun h => ?_⟩⟩
  ·show _ = twoErr x y
   unfold twoErr
   rw [if_pos hx, if_pos hy, if_neg (by simpa using h)]
  ·show _ = twoErr x y
   unfold twoErr
   rw [if_pos hx, if_pos hy, if_pos (by simpa using h)]
def cplOk (x y : ApiDet) (k : DetCouple) : Prop := (0 ≤ k.fE0 ∧ k.fE0 < (x.fNext.length : Int)) ∧ 0 ≤ k.fE1 ∧ k.fE1 < (y.fNext.length : Int)
def cplGo (x y : ApiDet) (k : DetCouple) (a : Int) : DetCouple := ⟨(stepD x k.fE0.toNat a.toNat : Int), (stepD y k.fE1.toNat a.toNat : Int)⟩
def tabB (t m n : Int) : Int := bitsI .and .i64 (Int.fdiv t (2 ^ (min (2 * m + n).toNat 64))) 1
def cplMark (t : Int) (x y : ApiDet) (k : DetCouple) : Int := tabB t (x.fMark.getD k.fE0.toNat 0) (y.fMark.getD k.fE1.toNat 0)
theorem step_cell {d : ApiDet} (h : DetOk d) {q a : Int} (hq : 0 ≤ q ∧ q < (d.fNext.length : Int)) (ha : 0 ≤ a ∧ a < d.fLetters) : ∃ r, idx d.fNext q = some r ∧ idx r a = some (stepD d q.toNat a.toNat : Int) := by
 have hm : d.fNext.getD q.toNat [] ∈ d.fNext := getD_mem (by omega)
 have hr := h.rows _ hm
 refine ⟨_, idx_of [] hq.1 hq.2, (idx_of 0 ha.1 (by omega)).trans ?_⟩
 have := h.in_ _ hm _ (getD_mem (l := d.fNext.getD q.toNat []) (i := a.toNat) (z := 0) (by omega))
 unfold stepD
 congr 1
 omega
theorem step_in {d : ApiDet} (h : DetOk d) {q : Int} (hq : 0 ≤ q ∧ q < (d.fNext.length : Int)) (a : Nat) : 0 ≤ (stepD d q.toNat a : Int) ∧ (stepD d q.toNat a : Int) < (d.fNext.length : Int) := by
 have := h.cls.pre.step (q := q.toNat) (a := a) (by omega)
 omega
def mixGo_vc (k : DetCouple) (a : Int) (x : ApiDet) (y : ApiDet) (Q : DetCouple → Prop) : Prop :=
 ∃ e, idx x.fNext k.fE0 = some e ∧
 ∃ e_2, idx e a = some e_2 ∧
 ∃ e_3, idx y.fNext k.fE1 = some e_3 ∧
 ∃ e_4, idx e_3 a = some e_4 ∧
 Q (DetCouple.mk e_2 e_4)
theorem mixGo_walk (k : DetCouple) (a : Int) (x : ApiDet) (y : ApiDet) (Q : DetCouple → Prop) (h : mixGo_vc k a x y Q) : Ct 80 [.sv (.agg [I k.fE0, I k.fE1]), .sv (.one (I a)), .sv (.one (.ptr 0 0)), .sv (.one (.ptr 1 0))] [.box [I x.fLetters, I x.fStart, LS (lsT intT) x.fNext, LS intT x.fMark] 73 true, .box [I y.fLetters, I y.fStart, LS (lsT intT) y.fNext, LS intT y.fMark] 73 true] Q (fun (r : DetCouple) => .sv (.agg [I r.fE0, I r.fE1])) := by
 have ht := tab_ok
 refine Ct.body Try.func80 rfl rfl rfl rfl (fun c hn => ?_)
 unfold mixGo_vc at h
 refine En.seq ?_
 refine En.region ?_
 refine WL.run ht hn 2 ⟨[sl 1 (I a), sl 2 (.ptr 0 0), sl 3 (.ptr 1 0), sl 4 (.ptr 2 0), sl 6 (.ptr 3 0)], [.box (ApiDet.cl x) 73 true, .box (ApiDet.cl y) 73 true, .box (DetCouple.cl k) 169 false, .box [I 0, I 0] 169 false]⟩ (by kernel_rfl) ?_
 refine WL.nil ?_
 refine En.seq ?_
 obtain ⟨e, he, h⟩ := h
 obtain ⟨e_2, he_2, h⟩ := h
 obtain ⟨e_3, he_3, h⟩ := h
 obtain ⟨e_4, he_4, h⟩ := h
 refine En.regionA ⟨[sl 1 (I a), sl 2 (.ptr 0 0), sl 3 (.ptr 1 0), sl 4 (.ptr 2 0), sl 6 (.ptr 3 0)], [.sv (.one (.ptr 0 2)), .sv (.one (LS (lsT intT) x.fNext)), .sv (.one (.ptr 2 0)), .sv (.one (I k.fE0)), .sv (.one (.pe (svR (.one (LS intT e))) 1)), .sv (.one (LS intT e)), .sv (.one (I a)), .sv (.one (.pe (svR (.one (I e_2))) 1)), .sv (.one (I e_2)), .sv (.one (.ptr 1 2)), .sv (.one (LS (lsT intT) y.fNext)), .sv (.one (.ptr 2 1)), .sv (.one (I k.fE1)), .sv (.one (.pe (svR (.one (LS intT e_3))) 1)), .sv (.one (LS intT e_3)), .sv (.one (I a)), .sv (.one (.pe (svR (.one (I e_4))) 1)), .sv (.one (I e_4)), .sv (.agg [I e_2, I e_4]), .tup []], [⟨.box (ApiDet.cl x) 73 true, none, none, none⟩, ⟨.box (ApiDet.cl y) 73 true, none, none, none⟩, ⟨.box (DetCouple.cl k) 169 false, none, none, none⟩, ⟨.box [I 0, I 0] 169 false, none, none, some (19, .box [I e_2, I e_4] 169 false)⟩]⟩ ⟨[sl 6 (.ptr 3 0)], [.gone, .gone, .gone, .box [I e_2, I e_4] 169 false]⟩ (by kernel_rfl) hn (by kernel_rfl) (by rfl) (by kernel_rfl) ?_ (by kernel_rfl) ?_
 exact ⟨.mt ⟨[sl 2 (.ptr 0 0)], []⟩ [] none (by kernel_rfl) (by rfl) (mt_ev ht (by kernel_rfl)) rfl rfl rfl rfl,
 .mt ⟨[sl 7 (.ptr 0 2)], [.box (ApiDet.cl x) 73 true]⟩ [] none (by kernel_rfl) (by rfl) (mt_ev ht (by kernel_rfl)) rfl rfl rfl rfl,
 .mt ⟨[sl 4 (.ptr 2 0)], [.gone, .gone, .box (DetCouple.cl k) 169 false]⟩ [] none (by kernel_rfl) (by rfl) (mt_val (val_indexP (k := 0) 2 0 0 ht rfl Try.underlying169 (by rfl) (by rfl) (by rfl) (by rfl) (by decide) (by rfl))) rfl rfl rfl rfl,
 .mt ⟨[sl 9 (.ptr 2 0)], [.gone, .gone, .box (DetCouple.cl k) 169 false]⟩ [] none (by kernel_rfl) (by rfl) (mt_ev ht (by kernel_rfl)) rfl rfl rfl rfl,
 .mt ⟨[sl 8 (LS (lsT intT) x.fNext), sl 10 (I k.fE0)], []⟩ [] none (by kernel_rfl) (by rfl) (mt_val (val_index (T := (lsT intT)) (l := x.fNext) (i := k.fE0) ht rfl (by rfl) (by rfl) (by rfl) (by rfl) (by rfl) (by rfl) he)) rfl rfl rfl rfl,
 .mt ⟨[sl 11 (.pe (svR (.one (LS intT e))) 1)], []⟩ [] none (by kernel_rfl) (by rfl) (mt_val (val_load (s := .one (LS intT e)) ht rfl (by rfl) (by rfl) (by rfl) (by rfl) (by rfl))) rfl rfl rfl rfl,
 .mt ⟨[sl 1 (I a)], []⟩ [] none (by kernel_rfl) (by rfl) (mt_ev ht (by kernel_rfl)) rfl rfl rfl rfl,
 .mt ⟨[sl 12 (LS intT e), sl 13 (I a)], []⟩ [] none (by kernel_rfl) (by rfl) (mt_val (val_index (T := intT) (l := e) (i := a) ht rfl (by rfl) (by rfl) (by rfl) (by rfl) (by rfl) (by rfl) he_2)) rfl rfl rfl rfl,
 .mt ⟨[sl 14 (.pe (svR (.one (I e_2))) 1)], []⟩ [] none (by kernel_rfl) (by rfl) (mt_val (val_load (s := .one (I e_2)) ht rfl (by rfl) (by rfl) (by rfl) (by rfl) (by rfl))) rfl rfl rfl rfl,
 .mt ⟨[sl 3 (.ptr 1 0)], []⟩ [] none (by kernel_rfl) (by rfl) (mt_ev ht (by kernel_rfl)) rfl rfl rfl rfl,
 .mt ⟨[sl 16 (.ptr 1 2)], [.gone, .box (ApiDet.cl y) 73 true]⟩ [] none (by kernel_rfl) (by rfl) (mt_ev ht (by kernel_rfl)) rfl rfl rfl rfl,
 .mt ⟨[sl 4 (.ptr 2 0)], [.gone, .gone, .box (DetCouple.cl k) 169 false]⟩ [] none (by kernel_rfl) (by rfl) (mt_val (val_indexP (k := 1) 2 0 1 ht rfl Try.underlying169 (by rfl) (by rfl) (by rfl) (by rfl) (by decide) (by rfl))) rfl rfl rfl rfl,
 .mt ⟨[sl 18 (.ptr 2 1)], [.gone, .gone, .box (DetCouple.cl k) 169 false]⟩ [] none (by kernel_rfl) (by rfl) (mt_ev ht (by kernel_rfl)) rfl rfl rfl rfl,
 .mt ⟨[sl 17 (LS (lsT intT) y.fNext), sl 19 (I k.fE1)], []⟩ [] none (by kernel_rfl) (by rfl) (mt_val (val_index (T := (lsT intT)) (l := y.fNext) (i := k.fE1) ht rfl (by rfl) (by rfl) (by rfl) (by rfl) (by rfl) (by rfl) he_3)) rfl rfl rfl rfl,
 .mt ⟨[sl 20 (.pe (svR (.one (LS intT e_3))) 1)], []⟩ [] none (by kernel_rfl) (by rfl) (mt_val (val_load (s := .one (LS intT e_3)) ht rfl (by rfl) (by rfl) (by rfl) (by rfl) (by rfl))) rfl rfl rfl rfl,
 .mt ⟨[sl 1 (I a)], []⟩ [] none (by kernel_rfl) (by rfl) (mt_ev ht (by kernel_rfl)) rfl rfl rfl rfl,
 .mt ⟨[sl 21 (LS intT e_3), sl 22 (I a)], []⟩ [] none (by kernel_rfl) (by rfl) (mt_val (val_index (T := intT) (l := e_3) (i := a) ht rfl (by rfl) (by rfl) (by rfl) (by rfl) (by rfl) (by rfl) he_4)) rfl rfl rfl rfl,
 .mt ⟨[sl 23 (.pe (svR (.one (I e_4))) 1)], []⟩ [] none (by kernel_rfl) (by rfl) (mt_val (val_load (s := .one (I e_4)) ht rfl (by rfl) (by rfl) (by rfl) (by rfl) (by rfl))) rfl rfl rfl rfl,
 .mt ⟨[sl 15 (I e_2), sl 24 (I e_4)], []⟩ [] none (by kernel_rfl) (by rfl) (mt_ev ht (by kernel_rfl)) rfl rfl rfl rfl,
 .mu ⟨[sl 6 (.ptr 3 0), (25, .sv (.agg [I e_2, I e_4]))], [.gone, .gone, .gone, .box [I 0, I 0] 169 false]⟩ 3 _ _ rfl rfl (by kernel_rfl) (by rfl) (mu_store2 ht rfl (by rfl) (by rfl) (by rfl) (by rfl) (fun h => by cases h) (by rfl) (by rfl)) rfl rfl rfl rfl rfl rfl rfl,
 trivial⟩
 refine En.ret ?_
 exact En.back ht (DetCouple.mk e_2 e_4) h (by kernel_rfl) rfl
theorem en80 : ∀ args w, (callFunc 80 args).run Try.prog w = .ok (.enter 80 args) w := enters_of Try.func80 (by kernel_rfl) rfl
def mixMark_vc (k : DetCouple) (t : Int) (x : ApiDet) (y : ApiDet) (Q : Int → Prop) : Prop :=
 ∃ e, idx x.fMark k.fE0 = some e ∧
 ∃ e_2, idx y.fMark k.fE1 = some e_2 ∧
 (0 ≤ (wr ((wr (2 * e)) + e_2))) ∧
 Q (bitsI .and .i64 (Int.fdiv t (2 ^ (min ((wr ((wr (2 * e)) + e_2))).toNat 64))) 1)
theorem mixMark_walk (k : DetCouple) (t : Int) (x : ApiDet) (y : ApiDet) (Q : Int → Prop) (h : mixMark_vc k t x y Q) : Ct 81 [.sv (.agg [I k.fE0, I k.fE1]), .sv (.one (.ptr 0 0)), .sv (.one (.ptr 1 0)), .sv (.one (.ptr 2 0))] [.box [I t] 3 true, .box [I x.fLetters, I x.fStart, LS (lsT intT) x.fNext, LS intT x.fMark] 73 true, .box [I y.fLetters, I y.fStart, LS (lsT intT) y.fNext, LS intT y.fMark] 73 true] Q (fun (r : Int) => .sv (.one (I r))) := by
 have ht := tab_ok
 refine Ct.body Try.func81 rfl rfl rfl rfl (fun c hn => ?_)
 unfold mixMark_vc at h
 refine En.seq ?_
 refine En.region ?_
 refine WL.run ht hn 2 ⟨[sl 1 (.ptr 0 0), sl 2 (.ptr 1 0), sl 3 (.ptr 2 0), sl 4 (.ptr 3 0)], [.box [I t] 3 true, .box (ApiDet.cl x) 73 true, .box (ApiDet.cl y) 73 true, .box (DetCouple.cl k) 169 false]⟩ (by kernel_rfl) ?_
 refine WL.nil ?_
 refine En.seq ?_
 refine En.regionS (by kernel_rfl) (by kernel_rfl) ?_
 refine SL.run ht hn 3 ⟨[sl 1 (.ptr 0 0), sl 2 (.ptr 1 0), sl 3 (.ptr 2 0), sl 4 (.ptr 3 0), sl 6 (I t), sl 7 (.ptr 1 3), sl 8 (LS intT x.fMark)], [.box [I t] 3 true, .box (ApiDet.cl x) 73 true, .box (ApiDet.cl y) 73 true, .box (DetCouple.cl k) 169 false]⟩ (by kernel_rfl) ?_
 refine SL.val hn (by rfl) (val_indexP (k := 0) 3 0 0 ht rfl Try.underlying169 (by rfl) (by rfl) (by rfl) (by rfl) (by decide) (by rfl)) (by rfl) ?_
 refine SL.run ht hn 1 ⟨[sl 1 (.ptr 0 0), sl 2 (.ptr 1 0), sl 3 (.ptr 2 0), sl 4 (.ptr 3 0), sl 6 (I t), sl 7 (.ptr 1 3), sl 8 (LS intT x.fMark), sl 9 (.ptr 3 0), sl 10 (I k.fE0)], [.box [I t] 3 true, .box (ApiDet.cl x) 73 true, .box (ApiDet.cl y) 73 true, .box (DetCouple.cl k) 169 false]⟩ (by kernel_rfl) ?_
 obtain ⟨e, he, h⟩ := h
 refine SL.val hn (by rfl) (val_index (T := intT) (l := x.fMark) (i := k.fE0) ht rfl (by rfl) (by rfl) (by rfl) (by rfl) (by rfl) (by rfl) he) (by rfl) ?_
 refine SL.val hn (by rfl) (val_load (s := .one (I e)) ht rfl (by rfl) (by rfl) (by rfl) (by rfl) (by rfl)) (by rfl) ?_
 refine SL.run ht hn 3 ⟨[sl 1 (.ptr 0 0), sl 2 (.ptr 1 0), sl 3 (.ptr 2 0), sl 4 (.ptr 3 0), sl 6 (I t), sl 7 (.ptr 1 3), sl 8 (LS intT x.fMark), sl 9 (.ptr 3 0), sl 10 (I k.fE0), sl 11 (.pe (svR (.one (I e))) 1), sl 12 (I e), sl 13 (I (wr (2 * e))), sl 14 (.ptr 2 3), sl 15 (LS intT y.fMark)], [.box [I t] 3 true, .box (ApiDet.cl x) 73 true, .box (ApiDet.cl y) 73 true, .box (DetCouple.cl k) 169 false]⟩ (by kernel_rfl) ?_
 refine SL.val hn (by rfl) (val_indexP (k := 1) 3 0 1 ht rfl Try.underlying169 (by rfl) (by rfl) (by rfl) (by rfl) (by decide) (by rfl)) (by rfl) ?_
 refine SL.run ht hn 1 ⟨[sl 1 (.ptr 0 0), sl 2 (.ptr 1 0), sl 3 (.ptr 2 0), sl 4 (.ptr 3 0), sl 6 (I t), sl 7 (.ptr 1 3), sl 8 (LS intT x.fMark), sl 9 (.ptr 3 0), sl 10 (I k.fE0), sl 11 (.pe (svR (.one (I e))) 1), sl 12 (I e), sl 13 (I (wr (2 * e))), sl 14 (.ptr 2 3), sl 15 (LS intT y.fMark), sl 16 (.ptr 3 1), sl 17 (I k.fE1)], [.box [I t] 3 true, .box (ApiDet.cl x) 73 true, .box (ApiDet.cl y) 73 true, .box (DetCouple.cl k) 169 false]⟩ (by kernel_rfl) ?_
 obtain ⟨e_2, he_2, h⟩ := h
 refine SL.val hn (by rfl) (val_index (T := intT) (l := y.fMark) (i := k.fE1) ht rfl (by rfl) (by rfl) (by rfl) (by rfl) (by rfl) (by rfl) he_2) (by rfl) ?_
 refine SL.val hn (by rfl) (val_load (s := .one (I e_2)) ht rfl (by rfl) (by rfl) (by rfl) (by rfl) (by rfl)) (by rfl) ?_
 refine SL.run ht hn 1 ⟨[sl 1 (.ptr 0 0), sl 2 (.ptr 1 0), sl 3 (.ptr 2 0), sl 4 (.ptr 3 0), sl 6 (I t), sl 7 (.ptr 1 3), sl 8 (LS intT x.fMark), sl 9 (.ptr 3 0), sl 10 (I k.fE0), sl 11 (.pe (svR (.one (I e))) 1), sl 12 (I e), sl 13 (I (wr (2 * e))), sl 14 (.ptr 2 3), sl 15 (LS intT y.fMark), sl 16 (.ptr 3 1), sl 17 (I k.fE1), sl 18 (.pe (svR (.one (I e_2))) 1), sl 19 (I e_2), sl 20 (I (wr ((wr (2 * e)) + e_2)))], [.box [I t] 3 true, .box (ApiDet.cl x) 73 true, .box (ApiDet.cl y) 73 true, .box (DetCouple.cl k) 169 false]⟩ (by kernel_rfl) ?_
 have hz := h.1
 replace h := h.2
 refine SL.val hn (by rfl) (val_shift (u := t) (v := (wr ((wr (2 * e)) + e_2))) rfl (by rfl) (by rfl) hz (.inr ⟨rfl, rfl⟩)) (by rfl) ?_
 refine SL.run ht hn 2 ⟨[sl 1 (.ptr 0 0), sl 2 (.ptr 1 0), sl 3 (.ptr 2 0), sl 4 (.ptr 3 0), sl 5 (I (bitsI .and .i64 (Int.fdiv t (2 ^ (min ((wr ((wr (2 * e)) + e_2))).toNat 64))) 1)), sl 6 (I t), sl 7 (.ptr 1 3), sl 8 (LS intT x.fMark), sl 9 (.ptr 3 0), sl 10 (I k.fE0), sl 11 (.pe (svR (.one (I e))) 1), sl 12 (I e), sl 13 (I (wr (2 * e))), sl 14 (.ptr 2 3), sl 15 (LS intT y.fMark), sl 16 (.ptr 3 1), sl 17 (I k.fE1), sl 18 (.pe (svR (.one (I e_2))) 1), sl 19 (I e_2), sl 20 (I (wr ((wr (2 * e)) + e_2))), sl 21 (I (Int.fdiv t (2 ^ (min ((wr ((wr (2 * e)) + e_2))).toNat 64)))), sl 22 (I (bitsI .and .i64 (Int.fdiv t (2 ^ (min ((wr ((wr (2 * e)) + e_2))).toNat 64))) 1))], [.box [I t] 3 true, .box (ApiDet.cl x) 73 true, .box (ApiDet.cl y) 73 true, .box (DetCouple.cl k) 169 false]⟩ (by kernel_rfl) ?_
 refine SL.nil ⟨by kernel_rfl, ?_⟩
 refine En.ret ?_
 exact En.back ht (bitsI .and .i64 (Int.fdiv t (2 ^ (min ((wr ((wr (2 * e)) + e_2))).toNat 64))) 1) h (by kernel_rfl) rfl
theorem en81 : ∀ args w, (callFunc 81 args).run Try.prog w = .ok (.enter 81 args) w := enters_of Try.func81 (by kernel_rfl) rfl
theorem mixGo_ct (k : DetCouple) (a : Int) (x : ApiDet) (y : ApiDet) (hd : DetOk x ∧ DetOk y ∧ cplOk x y k ∧ 0 ≤ a ∧ a < x.fLetters ∧ x.fLetters = y.fLetters) : Ct 80 [.sv (.agg [I k.fE0, I k.fE1]), .sv (.one (I a)), .sv (.one (.ptr 0 0)), .sv (.one (.ptr 1 0))] [.box [I x.fLetters, I x.fStart, LS (lsT intT) x.fNext, LS intT x.fMark] 73 true, .box [I y.fLetters, I y.fStart, LS (lsT intT) y.fNext, LS intT y.fMark] 73 true] (fun (_ : Unit) => True) (fun _ => .sv (.agg [I (cplGo x y k a).fE0, I (cplGo x y k a).fE1])) := by
 refine (mixGo_walk k a x y (fun res_ => res_ = (cplGo x y k a)) ?_).fun
 obtain ⟨hx, hy, hk, ha0, ha1, hl⟩ := hd
 obtain ⟨r, h1, h2⟩ := step_cell hx hk.1 ⟨ha0, ha1⟩
 obtain ⟨s, h3, h4⟩ := step_cell hy hk.2 ⟨ha0, by omega⟩
 exact ⟨r, h1, _, h2, s, h3, _, h4, rfl⟩
theorem mixMark_ct (k : DetCouple) (t : Int) (x : ApiDet) (y : ApiDet) (hd : DetOk x ∧ DetOk y ∧ cplOk x y k) : Ct 81 [.sv (.agg [I k.fE0, I k.fE1]), .sv (.one (.ptr 0 0)), .sv (.one (.ptr 1 0)), .sv (.one (.ptr 2 0))] [.box [I t] 3 true, .box [I x.fLetters, I x.fStart, LS (lsT intT) x.fNext, LS intT x.fMark] 73 true, .box [I y.fLetters, I y.fStart, LS (lsT intT) y.fNext, LS intT y.fMark] 73 true] (fun (_ : Unit) => True) (fun _ => .sv (.one (I (cplMark t x y k)))) := by
 refine (mixMark_walk k t x y (fun res_ => res_ = (cplMark t x y k)) ?_).fun
 obtain ⟨hx, hy, hk⟩ := hd
 have h1 := hx.marks
 have h2 := hy.marks
 have e1 := idx_of (l := x.fMark) (i := k.fE0) 0 hk.1.1 (by rw [h1]; exact hk.1.2)
 have e2 := idx_of (l := y.fMark) (i := k.fE1) 0 hk.2.1 (by rw [h2]; exact hk.2.2)
 have m1 := hx.mark _ (getD_mem (l := x.fMark) (i := k.fE0.toNat) (z := 0) (by have := hk.1; omega))
 have m2 := hy.mark _ (getD_mem (l := y.fMark) (i := k.fE1.toNat) (z := 0) (by have := hk.2; omega))
 refine ⟨_, e1, _, e2, ?_, ?_⟩
 ·rw [wr_in (n := 2 * _) (by omega) (by omega), wr_in (by omega) (by omega)]
  omega
 ·rw [wr_in (n := 2 * _) (by omega) (by omega), wr_in (by omega) (by omega)]
  rfl
def mixLang (x y : ApiDet) (t : Int) : Lang := fun w => tabB t (langD x x.fStart.toNat w) (langD y y.fStart.toNat w)
noncomputable def mixR (x y : ApiDet) (t : Int) : ApiDet × Int :=
 if twoErr x y = 0 then (if 0 ≤ t ∧ t ≤ 15 then (if x.fNext.length * y.fNext.length ≤ 3000 then (canon x.fLetters.toNat (mixLang x y t), 0) else (⟨0, 0, [], []⟩, 7)) else (⟨0, 0, [], []⟩, 2)) else (⟨0, 0, [], []⟩, twoErr x y)
theorem twoErr_iff (x y : ApiDet) : twoErr x y = 0 ↔ DetOk x ∧ DetOk y ∧ x.fLetters = y.fLetters := by
 unfold twoErr
 rw [← detErr_iff, ← detErr_iff]
 constructor
 ·intro h
  by_cases h1 : detErr x = 0
  ·rw [if_pos h1] at h
   by_cases h2 : detErr y = 0
   ·rw [if_pos h2] at h
    by_cases h3 : x.fLetters = y.fLetters
    ·exact ⟨h1, h2, h3⟩
    ·rw [if_neg h3] at h; cases h
   ·rw [if_neg h2] at h; exact absurd h h2
  ·rw [if_neg h1] at h; exact absurd h h1
 ·rintro ⟨h1, h2, h3⟩
  rw [if_pos h1, if_pos h2, if_pos h3]
theorem tabB_01 {t m n : Int} (ht : 0 ≤ t ∧ t ≤ 15) (hm : m = 0 ∨ m = 1) (hn : n = 0 ∨ n = 1) : tabB t m n = if hasB t (2 * m + n) then 1 else 0 := btestI (by omega) (by omega)
theorem cpl_lang {x y : ApiDet} {t : Int} : ∀ (w : List Nat) (k : DetCouple), 0 ≤ k.fE0 → 0 ≤ k.fE1 → langK (fun k (a : Nat) => cplGo x y k (a : Int)) (cplMark t x y) k w = tabB t (langD x k.fE0.toNat w) (langD y k.fE1.toNat w)
 | [], k, _, _ => rfl
 | a :: w, k, h1, h2 => by
  show langK (fun k (a : Nat) => cplGo x y k (a : Int)) (cplMark t x y) (cplGo x y k (a : Int)) w = _
  rw [cpl_lang w _ (Int.natCast_nonneg _) (Int.natCast_nonneg _)]
  unfold cplGo
  simp only [Int.toNat_natCast]
  rfl
def allCpl (n m : Nat) : List DetCouple := (List.range n).flatMap fun (p : Nat) => (List.range m).map fun (q : Nat) => ⟨(p : Int), (q : Int)⟩
theorem allCpl_len (n m : Nat) : (allCpl n m).length = n * m := by
 unfold allCpl
 rw [List.length_flatMap]
 have : (List.range n).map (fun (p : Nat) => ((List.range m).map fun (q : Nat) => (⟨(p : Int), (q : Int)⟩ : DetCouple)).length) = List.replicate n m := by
  rw [List.eq_replicate_iff]
  refine ⟨by simp, fun b hb => ?_⟩
  obtain ⟨p, _, rfl⟩ := List.mem_map.1 hb
  simp
 rw [this]
 simp
theorem allCpl_mem {x y : ApiDet} {k : DetCouple} : k ∈ allCpl x.fNext.length y.fNext.length ↔ cplOk x y k := by
 unfold allCpl cplOk
 rw [List.mem_flatMap]
 constructor
 ·rintro ⟨p, hp, h⟩
  obtain ⟨q, hq, rfl⟩ := List.mem_map.1 h
  have := List.mem_range.1 hp
  have := List.mem_range.1 hq
  simp only
  omega
 ·rintro ⟨⟨h1, h2⟩, h3, h4⟩
  refine ⟨k.fE0.toNat, List.mem_range.2 (by omega), List.mem_map.2 ⟨k.fE1.toNat, List.mem_range.2 (by omega), ?_⟩⟩
  rw [Int.toNat_of_nonneg h1, Int.toNat_of_nonneg h3]
def detMixed_vc (x : ApiDet) (y : ApiDet) (t : Int) (Q : (ApiDet × Int) → Prop) : Prop :=
 x.fNext.length ≤ 9223372036854775807 →
 x.fMark.length ≤ 9223372036854775807 →
 y.fNext.length ≤ 9223372036854775807 →
 y.fMark.length ≤ 9223372036854775807 →
 (IfP ((twoErr x y) != 0) (Q ((ApiDet.mk 0 0 [] []), (twoErr x y))) (IfP ((decide (t < 0)) || (decide (t > 15))) (Q ((ApiDet.mk 0 0 [] []), 2)) (IfP (decide ((wr ((x.fNext.length : Int) * (y.fNext.length : Int))) > 3000)) (Q ((ApiDet.mk 0 0 [] []), 7)) ((ExplPre x.fLetters (DetCouple.mk x.fStart y.fStart) (fun (z : DetCouple × Int) => DetOk x ∧ DetOk y ∧ cplOk x y z.1 ∧ 0 ≤ z.2 ∧ z.2 < (x).fLetters ∧ (x).fLetters = (y).fLetters) (fun (z : DetCouple × Int) => cplGo x y z.1 z.2) (fun k => DetOk x ∧ DetOk y ∧ cplOk x y k) 3001) ∧
 (ClsOk (explR (fun k (a : Nat) => (fun (z : DetCouple × Int) => cplGo x y z.1 z.2) (k, (a : Int))) (cplMark t x y) (x.fLetters).toNat (DetCouple.mk x.fStart y.fStart) 3001).1) ∧
 Q ((canon ((explR (fun k (a : Nat) => (fun (z : DetCouple × Int) => cplGo x y z.1 z.2) (k, (a : Int))) (cplMark t x y) (x.fLetters).toNat (DetCouple.mk x.fStart y.fStart) 3001).1).fLetters.toNat (langD (explR (fun k (a : Nat) => (fun (z : DetCouple × Int) => cplGo x y z.1 z.2) (k, (a : Int))) (cplMark t x y) (x.fLetters).toNat (DetCouple.mk x.fStart y.fStart) 3001).1 ((explR (fun k (a : Nat) => (fun (z : DetCouple × Int) => cplGo x y z.1 z.2) (k, (a : Int))) (cplMark t x y) (x.fLetters).toNat (DetCouple.mk x.fStart y.fStart) 3001).1).fStart.toNat)), 0)))))
theorem detMixed_walk (x : ApiDet) (y : ApiDet) (t : Int) (Q : (ApiDet × Int) → Prop) (h : detMixed_vc x y t Q) : Ct 28 [.sv (.agg [I x.fLetters, I x.fStart, LS (lsT intT) x.fNext, LS intT x.fMark]), .sv (.agg [I y.fLetters, I y.fStart, LS (lsT intT) y.fNext, LS intT y.fMark]), .sv (.one (I t))] [] Q (fun (r : (ApiDet × Int)) => .tup [.agg [I r.1.fLetters, I r.1.fStart, LS (lsT intT) r.1.fNext, LS intT r.1.fMark], .one (I r.2)]) := by
 have ht := tab_ok
 refine Ct.body Try.func28 rfl rfl rfl rfl (fun c hn => ?_)
 unfold detMixed_vc at h
 refine En.lenA 0 2 (by rfl) (by rfl) (fun hl => ?_)
 replace h := h hl
 clear hl
 refine En.lenA 0 3 (by rfl) (by rfl) (fun hl => ?_)
 replace h := h hl
 clear hl
 refine En.lenA 1 2 (by rfl) (by rfl) (fun hl => ?_)
 replace h := h hl
 clear hl
 refine En.lenA 1 3 (by rfl) (by rfl) (fun hl => ?_)
 replace h := h hl
 clear hl
 refine En.seq ?_
 refine En.region ?_
 refine WL.run ht hn 5 ⟨[sl 3 (.ptr 0 0), sl 4 (.ptr 1 0), sl 5 (.ptr 2 0), sl 6 (.ptr 3 0)], [.box (ApiDet.cl x) 73 false, .box (ApiDet.cl y) 73 false, .box [I t] 3 false, .box [I 0, I 0, .v (.slice none 0 0), .v (.slice none 0 0)] 73 false]⟩ (by kernel_rfl) ?_
 refine WL.nil ?_
 refine En.seq ?_
 refine En.seq ?_
 refine En.region ?_
 refine WL.run ht hn 2 ⟨[sl 3 (.ptr 0 0), sl 4 (.ptr 1 0), sl 5 (.ptr 2 0), sl 6 (.ptr 3 0), (11, .sv (.agg (ApiDet.cl x))), (12, .sv (.agg (ApiDet.cl y)))], [.box (ApiDet.cl x) 73 false, .box (ApiDet.cl y) 73 false, .box [I t] 3 false, .box [I 0, I 0, .v (.slice none 0 0), .v (.slice none 0 0)] 73 false]⟩ (by kernel_rfl) ?_
 refine WL.mt0 (K := []) (p := none) hn (by rfl) (mt_call (detTwo_ct x y) en78 (caps := []) [] rfl (by rfl) (by kernel_rfl) (by kernel_rfl) (by rfl) (by rfl) (by rfl)) (by rfl) (by rfl) (by rfl) ?_
 refine WL.run ht hn 1 ⟨[sl 3 (.ptr 0 0), sl 4 (.ptr 1 0), sl 5 (.ptr 2 0), sl 6 (.ptr 3 0), sl 8 (I (twoErr x y))], [.box (ApiDet.cl x) 73 false, .box (ApiDet.cl y) 73 false, .box [I t] 3 false, .box [I 0, I 0, .v (.slice none 0 0), .v (.slice none 0 0)] 73 false]⟩ (by kernel_rfl) ?_
 refine WL.nil ?_
 refine En.seq ?_
 refine En.region ?_
 refine WL.run ht hn 2 ⟨[sl 3 (.ptr 0 0), sl 4 (.ptr 1 0), sl 5 (.ptr 2 0), sl 6 (.ptr 3 0), sl 8 (I (twoErr x y)), sl 15 (B ((twoErr x y) != 0))], [.box (ApiDet.cl x) 73 false, .box (ApiDet.cl y) 73 false, .box [I t] 3 false, .box [I 0, I 0, .v (.slice none 0 0), .v (.slice none 0 0)] 73 false]⟩ (by kernel_rfl) ?_
 refine WL.nil ?_
 refine En.cond (b := ((twoErr x y) != 0)) (by kernel_rfl) (fun hb => ?_) (fun hb => ?_)
 replace h := h.1 hb
 refine En.seq ?_
 refine En.region ?_
 refine WL.run ht hn 4 ⟨[sl 6 (.ptr 3 0), sl 7 (I (twoErr x y))], [.gone, .gone, .gone, .box [I 0, I 0, .v (.slice none 0 0), .v (.slice none 0 0)] 73 false]⟩ (by kernel_rfl) ?_
 refine WL.nil ?_
 refine En.ret ?_
 refine En.nilBox (T := (lsT intT)) 3 2 (by rfl) (by rfl) ?_
 refine En.nilBox (T := intT) 3 3 (by rfl) (by rfl) ?_
 exact En.back ht ((ApiDet.mk 0 0 [] []), (twoErr x y)) h (by kernel_rfl) rfl
 replace h := h.2 hb
 refine En.skip ?_
 refine En.seq ?_
 refine En.seq ?_
 refine En.region ?_
 refine WL.run ht hn 3 ⟨[sl 3 (.ptr 0 0), sl 4 (.ptr 1 0), sl 5 (.ptr 2 0), sl 6 (.ptr 3 0), sl 20 (B (decide (t < 0)))], [.box (ApiDet.cl x) 73 false, .box (ApiDet.cl y) 73 false, .box [I t] 3 false, .box [I 0, I 0, .v (.slice none 0 0), .v (.slice none 0 0)] 73 false]⟩ (by kernel_rfl) ?_
 refine WL.thru ⟨[sl 3 (.ptr 0 0), sl 4 (.ptr 1 0), sl 5 (.ptr 2 0), sl 6 (.ptr 3 0), sl 23 (B ((decide (t < 0)) || (decide (t > 15))))], [.box (ApiDet.cl x) 73 false, .box (ApiDet.cl y) 73 false, .box [I t] 3 false, .box [I 0, I 0, .v (.slice none 0 0), .v (.slice none 0 0)] 73 false]⟩ ?_ ?_
 refine splitB (decide (t < 0)) (fun hb0 => ?_) (fun hb0 => ?_)
 refine WL.setB 20 hb0 (by kernel_rfl) ?_
 refine WL.run ht hn 3 ⟨[sl 3 (.ptr 0 0), sl 4 (.ptr 1 0), sl 5 (.ptr 2 0), sl 6 (.ptr 3 0), sl 23 (B true)], [.box (ApiDet.cl x) 73 false, .box (ApiDet.cl y) 73 false, .box [I t] 3 false, .box [I 0, I 0, .v (.slice none 0 0), .v (.slice none 0 0)] 73 false]⟩ (by kernel_rfl) ?_
 exact WL.nil (sub_ok (by simp only [hb0]; kernel_rfl))
 refine WL.setB 20 hb0 (by kernel_rfl) ?_
 refine WL.run ht hn 3 ⟨[sl 3 (.ptr 0 0), sl 4 (.ptr 1 0), sl 5 (.ptr 2 0), sl 6 (.ptr 3 0), sl 23 (B (decide (t > 15)))], [.box (ApiDet.cl x) 73 false, .box (ApiDet.cl y) 73 false, .box [I t] 3 false, .box [I 0, I 0, .v (.slice none 0 0), .v (.slice none 0 0)] 73 false]⟩ (by kernel_rfl) ?_
 exact WL.nil (sub_ok (by simp only [hb0]; kernel_rfl))
 refine En.cond (b := ((decide (t < 0)) || (decide (t > 15)))) (by kernel_rfl) (fun hb => ?_) (fun hb => ?_)
 replace h := h.1 hb
 refine En.seq ?_
 refine En.region ?_
 refine WL.run ht hn 3 ⟨[sl 6 (.ptr 3 0), sl 7 (I 2)], [.gone, .gone, .gone, .box [I 0, I 0, .v (.slice none 0 0), .v (.slice none 0 0)] 73 false]⟩ (by kernel_rfl) ?_
 refine WL.nil ?_
 refine En.ret ?_
 refine En.nilBox (T := (lsT intT)) 3 2 (by rfl) (by rfl) ?_
 refine En.nilBox (T := intT) 3 3 (by rfl) (by rfl) ?_
 exact En.back ht ((ApiDet.mk 0 0 [] []), 2) h (by kernel_rfl) rfl
 replace h := h.2 hb
 refine En.skip ?_
 refine En.seq ?_
 refine En.seq ?_
 refine En.region ?_
 refine WL.run ht hn 8 ⟨[sl 3 (.ptr 0 0), sl 4 (.ptr 1 0), sl 5 (.ptr 2 0), sl 6 (.ptr 3 0), sl 32 (B (decide ((wr ((x.fNext.length : Int) * (y.fNext.length : Int))) > 3000)))], [.box (ApiDet.cl x) 73 false, .box (ApiDet.cl y) 73 false, .box [I t] 3 false, .box [I 0, I 0, .v (.slice none 0 0), .v (.slice none 0 0)] 73 false]⟩ (by kernel_rfl) ?_
 refine WL.nil ?_
 refine En.cond (b := (decide ((wr ((x.fNext.length : Int) * (y.fNext.length : Int))) > 3000))) (by kernel_rfl) (fun hb => ?_) (fun hb => ?_)
 replace h := h.1 hb
 refine En.seq ?_
 refine En.region ?_
 refine WL.run ht hn 3 ⟨[sl 6 (.ptr 3 0), sl 7 (I 7)], [.gone, .gone, .gone, .box [I 0, I 0, .v (.slice none 0 0), .v (.slice none 0 0)] 73 false]⟩ (by kernel_rfl) ?_
 refine WL.nil ?_
 refine En.ret ?_
 refine En.nilBox (T := (lsT intT)) 3 2 (by rfl) (by rfl) ?_
 refine En.nilBox (T := intT) 3 3 (by rfl) (by rfl) ?_
 exact En.back ht ((ApiDet.mk 0 0 [] []), 7) h (by kernel_rfl) rfl
 replace h := h.2 hb
 refine En.skip ?_
 refine En.seq ?_
 refine En.region ?_
 refine WL.run ht hn 9 ⟨[sl 6 (.ptr 3 0), sl 36 (I x.fLetters), (41, .sv (.agg [I x.fStart, I y.fStart])), sl 42 (.fn 80 [0, 1]), sl 43 (.fn 81 [2, 0, 1])], [.box (ApiDet.cl x) 73 false, .box (ApiDet.cl y) 73 false, .box [I t] 3 false, .box [I 0, I 0, .v (.slice none 0 0), .v (.slice none 0 0)] 73 false]⟩ (by kernel_rfl) ?_
 refine WL.freeze [0, 1] (by rfl) ?_
 refine WL.ghost 42 (o1 (.rd (fvR (fun (x_ : (DetCouple × Int)) => [.sv (.agg (DetCouple.cl x_.1)), .sv (.one (I x_.2))]) (fun (r : DetCouple) => .sv (.agg (DetCouple.cl r))) (fun (z : DetCouple × Int) => DetOk x ∧ DetOk y ∧ cplOk x y z.1 ∧ 0 ≤ z.2 ∧ z.2 < (x).fLetters ∧ (x).fLetters = (y).fLetters) (fun (z : DetCouple × Int) => cplGo x y z.1 z.2)))) (by rfl) (fv_of (M := [.box (ApiDet.cl x) 73 true, .box (ApiDet.cl y) 73 true]) (caps := [0, 1]) (fun x_ hx => mixGo_ct x_.1 x_.2 x y hx) en80 rfl (by kernel_rfl) (by rfl) (fun _ => rfl)) ?_
 refine WL.freeze [2] (by rfl) ?_
 refine WL.ghost 43 (o1 (.rd (fvR (fun (x_ : DetCouple) => [.sv (.agg (DetCouple.cl x_))]) (fun (r : Int) => .sv (.one (I r))) (fun k => DetOk x ∧ DetOk y ∧ cplOk x y k) (cplMark t x y)))) (by rfl) (fv_of (M := [.box [I t] 3 true, .box (ApiDet.cl x) 73 true, .box (ApiDet.cl y) 73 true]) (caps := [2, 0, 1]) (fun x_ hx => mixMark_ct x_ t x y hx) en81 rfl (by kernel_rfl) (by rfl) (fun _ => rfl)) ?_
 have hp := h.1
 replace h := h.2
 refine WL.mt0 (K := []) (p := none) hn (by rfl) (mt_call (exploreDetCouple_ct x.fLetters (DetCouple.mk x.fStart y.fStart) (fun (z : DetCouple × Int) => DetOk x ∧ DetOk y ∧ cplOk x y z.1 ∧ 0 ≤ z.2 ∧ z.2 < (x).fLetters ∧ (x).fLetters = (y).fLetters) (fun (z : DetCouple × Int) => cplGo x y z.1 z.2) (fun k => DetOk x ∧ DetOk y ∧ cplOk x y k) (cplMark t x y) 3001 hp) en79 (caps := []) [] rfl (by rfl) (by kernel_rfl) (by kernel_rfl) (by rfl) (by rfl) (by rfl)) (by rfl) (by rfl) (by rfl) ?_
 refine WL.run ht hn 6 ⟨[sl 6 (.ptr 3 0), sl 9 (.ptr 4 0)], [.gone, .gone, .gone, .box [I 0, I 0, .v (.slice none 0 0), .v (.slice none 0 0)] 73 false, .box (ApiDet.cl (explR (fun k (a : Nat) => (fun (z : DetCouple × Int) => cplGo x y z.1 z.2) (k, (a : Int))) (cplMark t x y) (x.fLetters).toNat (DetCouple.mk x.fStart y.fStart) 3001).1) 73 false]⟩ (by kernel_rfl) ?_
 refine WL.nil ?_
 refine En.seq ?_
 refine En.region ?_
 refine WL.run ht hn 1 ⟨[sl 6 (.ptr 3 0), (47, .sv (.agg (ApiDet.cl (explR (fun k (a : Nat) => (fun (z : DetCouple × Int) => cplGo x y z.1 z.2) (k, (a : Int))) (cplMark t x y) (x.fLetters).toNat (DetCouple.mk x.fStart y.fStart) 3001).1)))], [.gone, .gone, .gone, .box [I 0, I 0, .v (.slice none 0 0), .v (.slice none 0 0)] 73 false, .gone]⟩ (by kernel_rfl) ?_
 have hp := h.1
 replace h := h.2
 refine WL.mt0 (K := []) (p := none) hn (by rfl) (mt_call (smallest_ct (explR (fun k (a : Nat) => (fun (z : DetCouple × Int) => cplGo x y z.1 z.2) (k, (a : Int))) (cplMark t x y) (x.fLetters).toNat (DetCouple.mk x.fStart y.fStart) 3001).1 hp) en77 (caps := []) [] rfl (by rfl) (by kernel_rfl) (by kernel_rfl) (by rfl) (by rfl) (by rfl)) (by rfl) (by rfl) (by rfl) ?_
 refine WL.run ht hn 2 ⟨[sl 6 (.ptr 3 0), sl 7 (I 0)], [.gone, .gone, .gone, .box (ApiDet.cl (canon ((explR (fun k (a : Nat) => (fun (z : DetCouple × Int) => cplGo x y z.1 z.2) (k, (a : Int))) (cplMark t x y) (x.fLetters).toNat (DetCouple.mk x.fStart y.fStart) 3001).1).fLetters.toNat (langD (explR (fun k (a : Nat) => (fun (z : DetCouple × Int) => cplGo x y z.1 z.2) (k, (a : Int))) (cplMark t x y) (x.fLetters).toNat (DetCouple.mk x.fStart y.fStart) 3001).1 ((explR (fun k (a : Nat) => (fun (z : DetCouple × Int) => cplGo x y z.1 z.2) (k, (a : Int))) (cplMark t x y) (x.fLetters).toNat (DetCouple.mk x.fStart y.fStart) 3001).1).fStart.toNat))) 73 false, .gone]⟩ (by kernel_rfl) ?_
 refine WL.nil ?_
 refine En.ret ?_
 exact En.back ht ((canon ((explR (fun k (a : Nat) => (fun (z : DetCouple × Int) => cplGo x y z.1 z.2) (k, (a : Int))) (cplMark t x y) (x.fLetters).toNat (DetCouple.mk x.fStart y.fStart) 3001).1).fLetters.toNat (langD (explR (fun k (a : Nat) => (fun (z : DetCouple × Int) => cplGo x y z.1 z.2) (k, (a : Int))) (cplMark t x y) (x.fLetters).toNat (DetCouple.mk x.fStart y.fStart) 3001).1 ((explR (fun k (a : Nat) => (fun (z : DetCouple × Int) => cplGo x y z.1 z.2) (k, (a : Int))) (cplMark t x y) (x.fLetters).toNat (DetCouple.mk x.fStart y.fStart) 3001).1).fStart.toNat)), 0) h (by kernel_rfl) rfl
theorem en28 : ∀ args w, (callFunc 28 args).run Try.prog w = .ok (.enter 28 args) w := enters_of Try.func28 (by kernel_rfl) rfl
theorem detMixed_ct (x : ApiDet) (y : ApiDet) (t : Int)  : Ct 28 [.sv (.agg [I x.fLetters, I x.fStart, LS (lsT intT) x.fNext, LS intT x.fMark]), .sv (.agg [I y.fLetters, I y.fStart, LS (lsT intT) y.fNext, LS intT y.fMark]), .sv (.one (I t))] [] (fun (_ : Unit) => True) (fun _ => .tup [.agg [I (mixR x y t).1.fLetters, I (mixR x y t).1.fStart, LS (lsT intT) (mixR x y t).1.fNext, LS intT (mixR x y t).1.fMark], .one (I (mixR x y t).2)]) := by
 refine (detMixed_walk x y t (fun res_ => res_ = (mixR x y t)) ?_).fun
 intro _ _ _ _
 refine ⟨fun h => ?_, fun h => ?_⟩
 ·show _ = mixR x y t
  unfold mixR
  rw [if_neg (by simpa using h)]
 have h0 : twoErr x y = 0 := by simpa using h
 obtain ⟨hx, hy, hl⟩ := (twoErr_iff x y).1 h0
 have hlet := hx.letters
 have hxs := hx.size
 have hys := hy.size
 refine ⟨fun ht => ?_, fun ht => ?_⟩
 ·show _ = mixR x y t
  unfold mixR
  rw [if_pos h0, if_neg (by simp only [Bool.or_eq_true, decide_eq_true_eq] at ht; omega)]
 have ht : 0 ≤ t ∧ t ≤ 15 := by simp only [Bool.or_eq_false_iff, decide_eq_false_iff_not] at ht; omega
 have hmul : x.fNext.length * y.fNext.length ≤ 3000 * 3000 := Nat.mul_le_mul hxs.2 hys.2
 have hcast : (x.fNext.length : Int) * (y.fNext.length : Int) = ((x.fNext.length * y.fNext.length : Nat) : Int) := by simp
 rw [hcast, wr_in (by omega) (by omega)]
 refine ⟨fun hb => ?_, fun hb => ?_⟩
 ·show _ = mixR x y t
  unfold mixR
  rw [if_pos h0, if_pos ht, if_neg (by have := of_decide_eq_true hb; omega)]
 have hb : x.fNext.length * y.fNext.length ≤ 3000 := by have := of_decide_eq_false hb; omega
 have h1 : (⟨x.fStart, y.fStart⟩ : DetCouple) ∈ allCpl x.fNext.length y.fNext.length := allCpl_mem.2 ⟨hx.start, hy.start⟩
 have hP : ∀ k a, k ∈ allCpl x.fNext.length y.fNext.length → a < x.fLetters.toNat → cplGo x y k ((a : Nat) : Int) ∈ allCpl x.fNext.length y.fNext.length := fun k a hk _ => by
  have hk := allCpl_mem.1 hk
  refine allCpl_mem.2 ⟨?_, ?_⟩
  ·have := step_in hx hk.1 a
   unfold cplGo
   simpa using this
  ·have := step_in hy hk.2 a
   unfold cplGo
   simpa using this
 refine ⟨⟨⟨by omega, by omega⟩, by decide, cplOk x y, ⟨hx.start, hy.start⟩, fun k a hk ha => ⟨⟨hx, hy, hk, by omega, ha, hl⟩, allCpl_mem.1 (hP k a (allCpl_mem.2 hk) (by omega))⟩, fun k hk => ⟨hx, hy, hk⟩⟩, ?_⟩
 have key : ∀ E : ApiDet × Bool, E = (explD (fun k (a : Nat) => cplGo x y k (a : Int)) (cplMark t x y) x.fLetters.toNat ⟨x.fStart, y.fStart⟩, true) → (ClsOk E.1 ∧ ((canon (E.1).fLetters.toNat (langD E.1 (E.1).fStart.toNat)), (0 : Int)) = mixR x y t) := by
  rintro E rfl
  have hwf : Wf (explD (fun k (a : Nat) => cplGo x y k (a : Int)) (cplMark t x y) x.fLetters.toNat ⟨x.fStart, y.fStart⟩) := explD_wf h1 hP
  have hcount := explD_count (mark := cplMark t x y) h1 hP
  rw [allCpl_len] at hcount
  refine ⟨⟨hwf, Nat.le_trans hcount (by omega), ?_, ?_⟩, ?_⟩
  ·show ((x.fLetters.toNat : Nat) : Int) ≤ 1000
   omega
  ·refine explD_marks h1 hP fun k hk => ?_
   have hk := allCpl_mem.1 hk
   have m1 := hx.mark _ (getD_mem (l := x.fMark) (i := k.fE0.toNat) (z := 0) (by have := hk.1; have := hx.marks; omega))
   have m2 := hy.mark _ (getD_mem (l := y.fMark) (i := k.fE1.toNat) (z := 0) (by have := hk.2; have := hy.marks; omega))
   unfold cplMark
   rw [tabB_01 ht m1 m2]
   split <;> decide
  ·unfold mixR
   rw [if_pos h0, if_pos ht, if_pos hb]
   congr 1
   exact canon_congr fun w hw => (explD_lang h1 hP hw).trans (cpl_lang w _ hx.start.1 hy.start.1)
 exact key _ (explR_ends h1 hP (by rw [allCpl_len]; omega))
end Go.Proofs.Ytapnmjeadbhffaa


namespace Go.Proofs.Ytapnmjeadbhffaa
open Go.RowKit Go.MapKept
set_option linter.unusedSimpArgs false
set_option linter.unusedVariables false
set_option maxRecDepth 100000
def DetQ (letters : Int) (text : ByteArray) (r : ApiDet × Int) : Prop := match fullS text with
 | none => r.2 ≠ 0
 | some t => r.2 ≠ 0 ∨ (r = (canon 4 (langT t), 0) ∧ CanonOk 4 (langT t) 3000)
theorem strNo {f : Int → Bool} (hf : ∀ x, f x = false) (s : ByteArray) : ∀ n q, strIdx f true s n q = -1
 | 0, _ => rfl
 | n + 1, q => by
  rw [strIdx]
  split
  ·rw [hf, if_neg (by decide)]
   exact strNo hf s n _
  ·rfl
theorem d1R_no (x : Int) : d1R 4 x = false := by
 unfold d1R
 rw [show IntKind.wrap .i32 (97 + IntKind.wrap .i32 4) = 101 by decide]
 by_cases h : x ≥ 101
 ·rw [decide_eq_false (show ¬ x ≤ 100 by omega), Bool.and_false]
 ·rw [decide_eq_false h, Bool.false_and]
theorem Ct.turn {β γ : Type} {f : Nat} {ins : List SC} {M : List Item} {post : β → Prop} {post' : γ → Prop} {out : β → SC} {out' : γ → SC} (h : Ct f ins M post out) (hp : ∀ r, post r → ∃ r', post' r' ∧ out' r' = out r) : Ct f ins M post' out' := fun w g hs args h1 h2 h3 =>
 (h w g hs args h1 h2 h3).mono fun e w' ⟨v, g', r, e1, e2, e3, e4⟩ => by
  obtain ⟨r', k1, k2⟩ := hp r e2
  exact ⟨v, g', r', e1, k1, by rw [k2]; exact e3, e4⟩
def allS (n : Nat) : List Int := (List.range (2 ^ n)).map fun (i : Nat) => (i : Int)
theorem allS_mem {n i : Nat} (h : i < 2 ^ n) : ((i : Nat) : Int) ∈ allS n := List.mem_map.2 ⟨i, List.mem_range.2 h, rfl⟩
theorem rDetA_ct (letters : Int) (text : ByteArray) (hp : letters = 4) : Ct 27 [.sv (.one (I letters)), .sv (.one (.v (.string text)))] [] (DetQ letters text) (fun (r : ApiDet × Int) => .tup [.agg [I r.1.fLetters, I r.1.fStart, LS (lsT intT) r.1.fNext, LS intT r.1.fMark], .one (I r.2)]) := by
 subst hp
 cases hf : fullS text with
 | none =>
  refine rDet_walk 12000 4 text (DetQ 4 text) ?_
  unfold rDet_vc
  intro r hr
  unfold ParsedQ at hr
  rw [hf] at hr
  refine ⟨fun hb => ?_, fun hb => ?_⟩
  ·unfold DetQ
   rw [hf]
   show (4 : Int) ≠ 0
   decide
  ·rw [bne_eq_false_iff_eq] at hb
   exact absurd hb hr.2
 | some t =>
  have hz := fullS_z hf
  obtain ⟨e, ls, ns, good, hm⟩ := mach_ok hz (Nat.le_refl _)
  have hs : ¬ 0 ≤ strIdx (fun (x : Int) => d1R 4 x) true text (text.size + 1) 0 := by
   rw [strNo (fun x => d1R_no x)]
   decide
  have hgl := hm.len
  have hll := hm.seg.le
  by_cases hL : ls.length ≤ 10
  ·have hpl := hm.pl (Nat.le_refl _) hL
   have hpow : 2 ^ (ls.length + 1) ≤ 2048 := Nat.pow_le_pow_right (n := 2) (by decide) (show ls.length + 1 ≤ 11 by omega)
   have hst : startR (⟨ls, ns ++ [e.fFirst]⟩ : RegularPlaces) = ((2 ^ ls.length : Nat) : Int) := startR_eq hL
   have h0 : startR (⟨ls, ns ++ [e.fFirst]⟩ : RegularPlaces) ∈ allS (ls.length + 1) := by
    rw [hst]
    exact allS_mem (Nat.pow_lt_pow_right (by decide) (Nat.lt_succ_self _))
   have hP : ∀ st (a : Nat), st ∈ allS (ls.length + 1) → a < (4 : Int).toNat → goDom good ⟨ls, ns ++ [e.fFirst]⟩ st (a : Int) ∧ goR good ⟨ls, ns ++ [e.fFirst]⟩ st (a : Int) ∈ allS (ls.length + 1) := fun st a hst _ => by
    obtain ⟨i, hi, rfl⟩ := List.mem_map.1 hst
    have hi := List.mem_range.1 hi
    obtain ⟨t', e1, h1, _⟩ := goS_ok (a := (a : Int)) hpl (show i < 2 ^ 62 from Nat.lt_of_lt_of_le hi (Nat.le_trans hpow (by decide)))
    refine ⟨by unfold goDom; rw [e1]; rfl, ?_⟩
    rw [goR_at e1]
    exact allS_mem (Nat.lt_of_lt_of_le h1 (Nat.pow_le_pow_right (by decide) (Nat.le_succ _)))
   have hml : (allS (ls.length + 1)).length ≤ 3000 := by
    unfold allS
    rw [List.length_map, List.length_range]
    omega
   have hP2 : ∀ k a, k ∈ allS (ls.length + 1) → a < 4 → goR good ⟨ls, ns ++ [e.fFirst]⟩ k ((a : Nat) : Int) ∈ allS (ls.length + 1) := fun k a hk ha => (hP k a hk ha).2
   have key := rDet_ok 12000 4 text t (⟨ls, ns ++ [e.fFirst]⟩, good) (allS (ls.length + 1)) hf (by decide) hs hm.mach hL (by show good.length ≤ _; omega) h0 hP hml
   have hc : canon (4 : Int).toNat (rLang (⟨ls, ns ++ [e.fFirst]⟩, good)) = canon 4 (langT t) := canon_congr fun w _ => rLang_ok hm (Nat.le_refl _) hL w
   have hok : CanonOk 4 (langT t) 3000 := ((canonOk_keys (mark := mkR (lastL good 0 0)) h0 hP2).mono hml).congr fun w _ => rLang_ok hm (Nat.le_refl _) hL w
   rw [hc] at key
   refine Ct.turn key fun _ _ => ⟨(canon 4 (langT t), 0), ?_, rfl⟩
   unfold DetQ
   rw [hf]
   exact .inr ⟨rfl, hok⟩
  ·refine rDet_walk 12000 4 text (DetQ 4 text) ?_
   unfold rDet_vc
   intro r hr
   have hr : r = (some t, ⟨0, 0⟩) := by
    unfold ParsedQ at hr
    rw [hf] at hr
    exact hr
   subst hr
   refine ⟨fun hb => (by cases hb), fun _ => ⟨fun b => b = false, ⟨fun hb => absurd (of_decide_eq_true hb) (by decide), fun _ => ⟨fun hb => absurd (of_decide_eq_true hb) (by decide), fun _ => ⟨fun _ => trivial, decide_eq_false hs⟩⟩⟩, ?_⟩⟩
   rintro _ rfl
   have hmr : machR 12000 t = (⟨ls, ns ++ [e.fFirst]⟩, good) := by
    unfold machR
    rw [hm.mach]
    rfl
   refine ⟨fun hb => (by cases hb), fun _ => ⟨t, rfl, by rw [hm.mach]; rfl, ?_⟩⟩
   rw [hmr]
   refine ⟨fun _ => ?_, fun hb => absurd (of_decide_eq_false hb) (fun h => h (by show ((ls.length : Nat) : Int) > 10; omega))⟩
   unfold DetQ
   rw [hf]
   exact .inl (by show (7 : Int) ≠ 0; decide)
def sameWords_vc (u : (List Int)) (v : (List Int)) (Q : Bool → Prop) : Prop :=
 u.length ≤ 9223372036854775807 →
 v.length ≤ 9223372036854775807 →
 (IfP ((u.length : Int) != (v.length : Int)) (Q false) (∃ (Inv : Int → Prop) (mu : Int → Nat), Inv 0 ∧
 ∀ (x5 : Int) , Inv x5 → (IfP (decide (x5 < (u.length : Int))) (∃ e, idx u x5 = some e ∧
 ∃ e_2, idx v x5 = some e_2 ∧
 IfP (e != e_2) (Q false) ((Inv (wr (x5 + 1)) ∧ mu (wr (x5 + 1)) < mu x5))) (Q true))))
theorem sameWords_walk (u : (List Int)) (v : (List Int)) (Q : Bool → Prop) (h : sameWords_vc u v Q) : Ct 36 [.sv (.one (LS intT u)), .sv (.one (LS intT v))] [] Q (fun (r : Bool) => .sv (.one (B r))) := by
 have ht := tab_ok
 refine Ct.body Try.func36 rfl rfl rfl rfl (fun c hn => ?_)
 unfold sameWords_vc at h
 refine En.lenL 0 (by rfl) (fun hl => ?_)
 replace h := h hl
 clear hl
 refine En.lenL 1 (by rfl) (fun hl => ?_)
 replace h := h hl
 clear hl
 refine En.seq ?_
 refine En.region ?_
 refine WL.run ht hn 1 ⟨[sl 0 (LS intT u), sl 1 (LS intT v)], []⟩ (by kernel_rfl) ?_
 refine WL.nil ?_
 refine En.seq ?_
 refine En.seq ?_
 refine En.region ?_
 refine WL.run ht hn 5 ⟨[sl 0 (LS intT u), sl 1 (LS intT v), sl 10 (B ((u.length : Int) != (v.length : Int)))], []⟩ (by kernel_rfl) ?_
 refine WL.nil ?_
 refine En.cond (b := ((u.length : Int) != (v.length : Int))) (by kernel_rfl) (fun hb => ?_) (fun hb => ?_)
 replace h := h.1 hb
 refine En.seq ?_
 refine En.region ?_
 refine WL.run ht hn 1 ⟨[sl 4 (B false)], []⟩ (by kernel_rfl) ?_
 refine WL.nil ?_
 refine En.ret ?_
 exact En.back ht false h (by kernel_rfl) rfl
 replace h := h.2 hb
 refine En.skip ?_
 refine En.seq ?_
 refine En.seq ?_
 refine En.region ?_
 refine WL.run ht hn 1 ⟨[sl 0 (LS intT u), sl 1 (LS intT v), sl 5 (I 0)], []⟩ (by kernel_rfl) ?_
 refine WL.nil ?_
 refine En.block ?_
 obtain ⟨Inv, mu, h0, hI⟩ := h
 refine En.loop (σ := Int) (fun zz => Inv zz) (fun zz => mu zz) (fun zz => ⟨[sl 0 (LS intT u), sl 1 (LS intT v), sl 5 (I zz)], []⟩) 0 h0 (sub_ok (by kernel_rfl)) ?_
 intro x5 h
 replace h := hI _ h
 show En c ⟨[sl 0 (LS intT u), sl 1 (LS intT v), sl 5 (I x5)], []⟩ _
 refine En.seq ?_
 refine En.seq ?_
 refine En.region ?_
 refine WL.run ht hn 4 ⟨[sl 0 (LS intT u), sl 1 (LS intT v), sl 5 (I x5), sl 14 (B (decide (x5 < (u.length : Int))))], []⟩ (by kernel_rfl) ?_
 refine WL.nil ?_
 refine En.cond (b := (decide (x5 < (u.length : Int)))) (by kernel_rfl) (fun hb => ?_) (fun hb => ?_)
 replace h := h.1 hb
 refine En.skip ?_
 refine En.seq ?_
 refine En.block ?_
 refine En.seq ?_
 refine En.regionS (by kernel_rfl) (by kernel_rfl) ?_
 refine SL.run ht hn 2 ⟨[sl 0 (LS intT u), sl 1 (LS intT v), sl 5 (I x5), sl 17 (LS intT u), sl 18 (I x5)], []⟩ (by kernel_rfl) ?_
 obtain ⟨e, he, h⟩ := h
 refine SL.val hn (by rfl) (val_index (T := intT) (l := u) (i := x5) ht rfl (by rfl) (by rfl) (by rfl) (by rfl) (by rfl) (by rfl) he) (by rfl) ?_
 refine SL.val hn (by rfl) (val_load (s := .one (I e)) ht rfl (by rfl) (by rfl) (by rfl) (by rfl) (by rfl)) (by rfl) ?_
 refine SL.run ht hn 2 ⟨[sl 0 (LS intT u), sl 1 (LS intT v), sl 5 (I x5), sl 17 (LS intT u), sl 18 (I x5), sl 19 (.pe (svR (.one (I e))) 1), sl 20 (I e), sl 21 (LS intT v), sl 22 (I x5)], []⟩ (by kernel_rfl) ?_
 obtain ⟨e_2, he_2, h⟩ := h
 refine SL.val hn (by rfl) (val_index (T := intT) (l := v) (i := x5) ht rfl (by rfl) (by rfl) (by rfl) (by rfl) (by rfl) (by rfl) he_2) (by rfl) ?_
 refine SL.val hn (by rfl) (val_load (s := .one (I e_2)) ht rfl (by rfl) (by rfl) (by rfl) (by rfl) (by rfl)) (by rfl) ?_
 refine SL.run ht hn 1 ⟨[sl 0 (LS intT u), sl 1 (LS intT v), sl 5 (I x5), sl 17 (LS intT u), sl 18 (I x5), sl 19 (.pe (svR (.one (I e))) 1), sl 20 (I e), sl 21 (LS intT v), sl 22 (I x5), sl 23 (.pe (svR (.one (I e_2))) 1), sl 24 (I e_2), sl 25 (B (e != e_2))], []⟩ (by kernel_rfl) ?_
 refine SL.nil ⟨by kernel_rfl, ?_⟩
 refine En.cond (b := (e != e_2)) (by kernel_rfl) (fun hb => ?_) (fun hb => ?_)
 replace h := h.1 hb
 refine En.seq ?_
 refine En.region ?_
 refine WL.run ht hn 1 ⟨[sl 4 (B false)], []⟩ (by kernel_rfl) ?_
 refine WL.nil ?_
 refine En.ret ?_
 exact En.back ht false h (by kernel_rfl) rfl
 replace h := h.2 hb
 refine En.skip ?_
 refine En.region ?_
 refine WL.run ht hn 3 ⟨[sl 0 (LS intT u), sl 1 (LS intT v), sl 5 (I (wr (x5 + 1)))], []⟩ (by kernel_rfl) ?_
 refine WL.nil ?_
 exact En.at (I := fun zz => Inv zz ∧ mu zz < mu x5) (T := fun zz => ⟨[sl 0 (LS intT u), sl 1 (LS intT v), sl 5 (I zz)], []⟩) (wr (x5 + 1)) h (by kernel_rfl)
 replace h := h.2 hb
 refine En.exit rfl ?_
 refine En.seq ?_
 refine En.region ?_
 refine WL.run ht hn 1 ⟨[sl 4 (B true)], []⟩ (by kernel_rfl) ?_
 refine WL.nil ?_
 refine En.ret ?_
 exact En.back ht true h (by kernel_rfl) rfl
theorem en36 : ∀ args w, (callFunc 36 args).run Try.prog w = .ok (.enter 36 args) w := enters_of Try.func36 (by kernel_rfl) rfl
theorem sameWords_ct (u : (List Int)) (v : (List Int))  : Ct 36 [.sv (.one (LS intT u)), .sv (.one (LS intT v))] [] (fun (_ : Unit) => True) (fun _ => .sv (.one (B (decide (u = v))))) := by
  refine (sameWords_walk u v (fun res_ => res_ = (decide (u = v))) ?_).fun
  intro hl _
  refine ⟨fun h => ?_, fun h => ?_⟩
  · exact (decide_eq_false (fun e => by rw [e] at h; simp at h)).symm
  have hlen : u.length = v.length := by have : (u.length : Int) = v.length := by simpa using h
                                        omega
  refine ⟨fun i => ∃ k : Nat, i = k ∧ k ≤ u.length ∧ u.take k = v.take k, fun i => u.length - i.toNat, ⟨0, rfl, Nat.zero_le _, rfl⟩, ?_⟩
  rintro i ⟨k, rfl, hk, ht⟩
  refine ⟨fun hb => ?_, fun hb => ?_⟩
  · have hlt := dlt hb
    have hlt' : k < v.length := by omega
    refine ⟨_, idx_at hlt, _, idx_at hlt', fun hne => ?_, fun he => ⟨⟨k + 1, ?_, hlt, ?_⟩, ?_⟩⟩
    · exact (decide_eq_false (fun e => by subst e; simp at hne)).symm
    · rw [wr_in (by omega) (by omega)]; omega
    · rw [List.take_add_one, List.take_add_one, ht, List.getElem?_eq_getElem hlt, List.getElem?_eq_getElem hlt', show u[k] = v[k] by simpa using he]
    · rw [wr_in (by omega) (by omega)]; simp only; omega
  · have hge := dge hb
    rw [List.take_of_length_le hge, List.take_of_length_le (by omega)] at ht
    exact (decide_eq_true ht).symm
def alike_vc (a : ApiDet) (b : ApiDet) (Q : Bool → Prop) : Prop :=
 a.fNext.length ≤ 9223372036854775807 →
 a.fMark.length ≤ 9223372036854775807 →
 b.fNext.length ≤ 9223372036854775807 →
 b.fMark.length ≤ 9223372036854775807 →
 (IfP (((a.fLetters != b.fLetters) || (a.fStart != b.fStart)) || ((a.fNext.length : Int) != (b.fNext.length : Int))) (Q false) (∃ (Inv : Bool → Int → Prop) (mu : Bool → Int → Nat), Inv (decide (a.fMark = b.fMark)) 0 ∧
 ∀ (x5 : Bool) (x6 : Int) , Inv x5 x6 → (IfP ((decide (x6 < (a.fNext.length : Int))) && x5) (∃ e, idx a.fNext x6 = some e ∧
 ∃ e_2, idx b.fNext x6 = some e_2 ∧
 (Inv (decide (e = e_2)) (wr (x6 + 1)) ∧ mu (decide (e = e_2)) (wr (x6 + 1)) < mu x5 x6)) (Q x5))))
theorem alike_walk (a : ApiDet) (b : ApiDet) (Q : Bool → Prop) (h : alike_vc a b Q) : Ct 29 [.sv (.agg [I a.fLetters, I a.fStart, LS (lsT intT) a.fNext, LS intT a.fMark]), .sv (.agg [I b.fLetters, I b.fStart, LS (lsT intT) b.fNext, LS intT b.fMark])] [] Q (fun (r : Bool) => .sv (.one (B r))) := by
 have ht := tab_ok
 refine Ct.body Try.func29 rfl rfl rfl rfl (fun c hn => ?_)
 unfold alike_vc at h
 refine En.lenA 0 2 (by rfl) (by rfl) (fun hl => ?_)
 replace h := h hl
 clear hl
 refine En.lenA 0 3 (by rfl) (by rfl) (fun hl => ?_)
 replace h := h hl
 clear hl
 refine En.lenA 1 2 (by rfl) (by rfl) (fun hl => ?_)
 replace h := h hl
 clear hl
 refine En.lenA 1 3 (by rfl) (by rfl) (fun hl => ?_)
 replace h := h hl
 clear hl
 refine En.seq ?_
 refine En.region ?_
 refine WL.run ht hn 3 ⟨[sl 2 (.ptr 0 0), sl 3 (.ptr 1 0)], [.box (ApiDet.cl a) 73 false, .box (ApiDet.cl b) 73 false]⟩ (by kernel_rfl) ?_
 refine WL.nil ?_
 refine En.seq ?_
 refine En.seq ?_
 refine En.region ?_
 refine WL.run ht hn 6 ⟨[sl 2 (.ptr 0 0), sl 3 (.ptr 1 0), sl 12 (B (a.fLetters != b.fLetters))], [.box (ApiDet.cl a) 73 false, .box (ApiDet.cl b) 73 false]⟩ (by kernel_rfl) ?_
 refine WL.thru ⟨[sl 2 (.ptr 0 0), sl 3 (.ptr 1 0), sl 27 (B (((a.fLetters != b.fLetters) || (a.fStart != b.fStart)) || ((a.fNext.length : Int) != (b.fNext.length : Int))))], [.box (ApiDet.cl a) 73 false, .box (ApiDet.cl b) 73 false]⟩ ?_ ?_
 refine splitB (a.fLetters != b.fLetters) (fun hb0 => ?_) (fun hb0 => ?_)
 refine WL.setB 12 hb0 (by kernel_rfl) ?_
 refine WL.run ht hn 15 ⟨[sl 2 (.ptr 0 0), sl 3 (.ptr 1 0), sl 27 (B true)], [.box (ApiDet.cl a) 73 false, .box (ApiDet.cl b) 73 false]⟩ (by kernel_rfl) ?_
 exact WL.nil (sub_ok (by simp only [hb0]; kernel_rfl))
 refine WL.setB 12 hb0 (by kernel_rfl) ?_
 refine WL.run ht hn 7 ⟨[sl 2 (.ptr 0 0), sl 3 (.ptr 1 0), sl 19 (B (a.fStart != b.fStart))], [.box (ApiDet.cl a) 73 false, .box (ApiDet.cl b) 73 false]⟩ (by kernel_rfl) ?_
 refine splitB (a.fStart != b.fStart) (fun hb1 => ?_) (fun hb1 => ?_)
 refine WL.setB 19 hb1 (by kernel_rfl) ?_
 refine WL.run ht hn 8 ⟨[sl 2 (.ptr 0 0), sl 3 (.ptr 1 0), sl 27 (B true)], [.box (ApiDet.cl a) 73 false, .box (ApiDet.cl b) 73 false]⟩ (by kernel_rfl) ?_
 exact WL.nil (sub_ok (by simp only [hb0, hb1]; kernel_rfl))
 refine WL.setB 19 hb1 (by kernel_rfl) ?_
 refine WL.run ht hn 8 ⟨[sl 2 (.ptr 0 0), sl 3 (.ptr 1 0), sl 27 (B ((a.fNext.length : Int) != (b.fNext.length : Int)))], [.box (ApiDet.cl a) 73 false, .box (ApiDet.cl b) 73 false]⟩ (by kernel_rfl) ?_
 exact WL.nil (sub_ok (by simp only [hb0, hb1]; kernel_rfl))
 refine En.cond (b := (((a.fLetters != b.fLetters) || (a.fStart != b.fStart)) || ((a.fNext.length : Int) != (b.fNext.length : Int)))) (by kernel_rfl) (fun hb => ?_) (fun hb => ?_)
 replace h := h.1 hb
 refine En.seq ?_
 refine En.region ?_
 refine WL.run ht hn 1 ⟨[sl 4 (B false)], [.gone, .gone]⟩ (by kernel_rfl) ?_
 refine WL.nil ?_
 refine En.ret ?_
 exact En.back ht false h (by kernel_rfl) rfl
 replace h := h.2 hb
 refine En.skip ?_
 refine En.seq ?_
 refine En.region ?_
 refine WL.run ht hn 4 ⟨[sl 2 (.ptr 0 0), sl 3 (.ptr 1 0), sl 29 (LS intT a.fMark), sl 31 (LS intT b.fMark)], [.box (ApiDet.cl a) 73 false, .box (ApiDet.cl b) 73 false]⟩ (by kernel_rfl) ?_
 refine WL.mt0 (K := []) (p := none) hn (by rfl) (mt_call (sameWords_ct a.fMark b.fMark) en36 (caps := []) [] rfl (by rfl) (by kernel_rfl) (by kernel_rfl) (by rfl) (by rfl) (by rfl)) (by rfl) (by rfl) (by rfl) ?_
 refine WL.run ht hn 1 ⟨[sl 2 (.ptr 0 0), sl 3 (.ptr 1 0), sl 5 (B (decide (a.fMark = b.fMark)))], [.box (ApiDet.cl a) 73 false, .box (ApiDet.cl b) 73 false]⟩ (by kernel_rfl) ?_
 refine WL.nil ?_
 refine En.seq ?_
 refine En.seq ?_
 refine En.region ?_
 refine WL.run ht hn 1 ⟨[sl 2 (.ptr 0 0), sl 3 (.ptr 1 0), sl 5 (B (decide (a.fMark = b.fMark))), sl 6 (I 0)], [.box (ApiDet.cl a) 73 false, .box (ApiDet.cl b) 73 false]⟩ (by kernel_rfl) ?_
 refine WL.nil ?_
 refine En.block ?_
 obtain ⟨Inv, mu, h0, hI⟩ := h
 refine En.loop (σ := Bool × Int) (fun zz => Inv zz.1 zz.2) (fun zz => mu zz.1 zz.2) (fun zz => ⟨[sl 2 (.ptr 0 0), sl 3 (.ptr 1 0), sl 5 (B zz.1), sl 6 (I zz.2)], [.box (ApiDet.cl a) 73 false, .box (ApiDet.cl b) 73 false]⟩) ((decide (a.fMark = b.fMark)), 0) h0 (sub_ok (by kernel_rfl)) ?_
 rintro ⟨x5, x6⟩ h
 replace h := hI _ _ h
 show En c ⟨[sl 2 (.ptr 0 0), sl 3 (.ptr 1 0), sl 5 (B x5), sl 6 (I x6)], [.box (ApiDet.cl a) 73 false, .box (ApiDet.cl b) 73 false]⟩ _
 refine En.seq ?_
 refine En.seq ?_
 refine En.region ?_
 refine WL.run ht hn 6 ⟨[sl 2 (.ptr 0 0), sl 3 (.ptr 1 0), sl 5 (B x5), sl 6 (I x6), sl 38 (B (decide (x6 < (a.fNext.length : Int))))], [.box (ApiDet.cl a) 73 false, .box (ApiDet.cl b) 73 false]⟩ (by kernel_rfl) ?_
 refine WL.thru ⟨[sl 2 (.ptr 0 0), sl 3 (.ptr 1 0), sl 5 (B x5), sl 6 (I x6), sl 40 (B ((decide (x6 < (a.fNext.length : Int))) && x5))], [.box (ApiDet.cl a) 73 false, .box (ApiDet.cl b) 73 false]⟩ ?_ ?_
 refine splitB (decide (x6 < (a.fNext.length : Int))) (fun hb0 => ?_) (fun hb0 => ?_)
 refine WL.setB 38 hb0 (by kernel_rfl) ?_
 refine WL.run ht hn 2 ⟨[sl 2 (.ptr 0 0), sl 3 (.ptr 1 0), sl 5 (B x5), sl 6 (I x6), sl 40 (B x5)], [.box (ApiDet.cl a) 73 false, .box (ApiDet.cl b) 73 false]⟩ (by kernel_rfl) ?_
 exact WL.nil (sub_ok (by simp only [hb0]; kernel_rfl))
 refine WL.setB 38 hb0 (by kernel_rfl) ?_
 refine WL.run ht hn 2 ⟨[sl 2 (.ptr 0 0), sl 3 (.ptr 1 0), sl 5 (B x5), sl 6 (I x6), sl 40 (B false)], [.box (ApiDet.cl a) 73 false, .box (ApiDet.cl b) 73 false]⟩ (by kernel_rfl) ?_
 exact WL.nil (sub_ok (by simp only [hb0]; kernel_rfl))
 refine En.cond (b := ((decide (x6 < (a.fNext.length : Int))) && x5)) (by kernel_rfl) (fun hb => ?_) (fun hb => ?_)
 replace h := h.1 hb
 refine En.skip ?_
 refine En.seq ?_
 refine En.block ?_
 obtain ⟨e, he, h⟩ := h
 obtain ⟨e_2, he_2, h⟩ := h
 refine En.regionA ⟨[sl 2 (.ptr 0 0), sl 3 (.ptr 1 0), sl 6 (I x6)], [.sv (.one (.ptr 0 2)), .sv (.one (LS (lsT intT) a.fNext)), .sv (.one (I x6)), .sv (.one (.pe (svR (.one (LS intT e))) 1)), .sv (.one (LS intT e)), .sv (.one (.ptr 1 2)), .sv (.one (LS (lsT intT) b.fNext)), .sv (.one (I x6)), .sv (.one (.pe (svR (.one (LS intT e_2))) 1)), .sv (.one (LS intT e_2)), .sv (.one (B (decide (e = e_2)))), .sv (.one (B (decide (e = e_2))))], [⟨.box (ApiDet.cl a) 73 false, none, none, none⟩, ⟨.box (ApiDet.cl b) 73 false, none, none, none⟩]⟩ ⟨[sl 2 (.ptr 0 0), sl 3 (.ptr 1 0), sl 5 (B (decide (e = e_2))), sl 6 (I x6)], [.box (ApiDet.cl a) 73 false, .box (ApiDet.cl b) 73 false]⟩ (by kernel_rfl) hn (by kernel_rfl) (by rfl) (by kernel_rfl) ?_ (by kernel_rfl) ?_
 exact ⟨.mt ⟨[sl 2 (.ptr 0 0)], []⟩ [] none (by kernel_rfl) (by rfl) (mt_ev ht (by kernel_rfl)) rfl rfl rfl rfl,
 .mt ⟨[sl 43 (.ptr 0 2)], [.box (ApiDet.cl a) 73 false]⟩ [] none (by kernel_rfl) (by rfl) (mt_ev ht (by kernel_rfl)) rfl rfl rfl rfl,
 .mt ⟨[sl 6 (I x6)], []⟩ [] none (by kernel_rfl) (by rfl) (mt_ev ht (by kernel_rfl)) rfl rfl rfl rfl,
 .mt ⟨[sl 44 (LS (lsT intT) a.fNext), sl 45 (I x6)], []⟩ [] none (by kernel_rfl) (by rfl) (mt_val (val_index (T := (lsT intT)) (l := a.fNext) (i := x6) ht rfl (by rfl) (by rfl) (by rfl) (by rfl) (by rfl) (by rfl) he)) rfl rfl rfl rfl,
 .mt ⟨[sl 46 (.pe (svR (.one (LS intT e))) 1)], []⟩ [] none (by kernel_rfl) (by rfl) (mt_val (val_load (s := .one (LS intT e)) ht rfl (by rfl) (by rfl) (by rfl) (by rfl) (by rfl))) rfl rfl rfl rfl,
 .mt ⟨[sl 3 (.ptr 1 0)], []⟩ [] none (by kernel_rfl) (by rfl) (mt_ev ht (by kernel_rfl)) rfl rfl rfl rfl,
 .mt ⟨[sl 48 (.ptr 1 2)], [.gone, .box (ApiDet.cl b) 73 false]⟩ [] none (by kernel_rfl) (by rfl) (mt_ev ht (by kernel_rfl)) rfl rfl rfl rfl,
 .mt ⟨[sl 6 (I x6)], []⟩ [] none (by kernel_rfl) (by rfl) (mt_ev ht (by kernel_rfl)) rfl rfl rfl rfl,
 .mt ⟨[sl 49 (LS (lsT intT) b.fNext), sl 50 (I x6)], []⟩ [] none (by kernel_rfl) (by rfl) (mt_val (val_index (T := (lsT intT)) (l := b.fNext) (i := x6) ht rfl (by rfl) (by rfl) (by rfl) (by rfl) (by rfl) (by rfl) he_2)) rfl rfl rfl rfl,
 .mt ⟨[sl 51 (.pe (svR (.one (LS intT e_2))) 1)], []⟩ [] none (by kernel_rfl) (by rfl) (mt_val (val_load (s := .one (LS intT e_2)) ht rfl (by rfl) (by rfl) (by rfl) (by rfl) (by rfl))) rfl rfl rfl rfl,
 .mt ⟨[sl 47 (LS intT e), sl 52 (LS intT e_2)], []⟩ [] none (by kernel_rfl) (by rfl) (mt_call (sameWords_ct e e_2) en36 (caps := []) [] rfl (by rfl) (by kernel_rfl) (by kernel_rfl) (by rfl) (by rfl) (by rfl)) rfl rfl rfl rfl,
 .mt ⟨[sl 53 (B (decide (e = e_2)))], []⟩ [] none (by kernel_rfl) (by rfl) (mt_ev ht (by kernel_rfl)) rfl rfl rfl rfl,
 trivial⟩
 refine En.region ?_
 refine WL.run ht hn 3 ⟨[sl 2 (.ptr 0 0), sl 3 (.ptr 1 0), sl 5 (B (decide (e = e_2))), sl 6 (I (wr (x6 + 1)))], [.box (ApiDet.cl a) 73 false, .box (ApiDet.cl b) 73 false]⟩ (by kernel_rfl) ?_
 refine WL.nil ?_
 exact En.at (I := fun zz => Inv zz.1 zz.2 ∧ mu zz.1 zz.2 < mu x5 x6) (T := fun zz => ⟨[sl 2 (.ptr 0 0), sl 3 (.ptr 1 0), sl 5 (B zz.1), sl 6 (I zz.2)], [.box (ApiDet.cl a) 73 false, .box (ApiDet.cl b) 73 false]⟩) ((decide (e = e_2)), (wr (x6 + 1))) h (by kernel_rfl)
 replace h := h.2 hb
 refine En.exit rfl ?_
 refine En.seq ?_
 refine En.region ?_
 refine WL.run ht hn 2 ⟨[sl 4 (B x5)], [.gone, .gone]⟩ (by kernel_rfl) ?_
 refine WL.nil ?_
 refine En.ret ?_
 exact En.back ht x5 h (by kernel_rfl) rfl
theorem en29 : ∀ args w, (callFunc 29 args).run Try.prog w = .ok (.enter 29 args) w := enters_of Try.func29 (by kernel_rfl) rfl
theorem alike_ct (a : ApiDet) (b : ApiDet)  : Ct 29 [.sv (.agg [I a.fLetters, I a.fStart, LS (lsT intT) a.fNext, LS intT a.fMark]), .sv (.agg [I b.fLetters, I b.fStart, LS (lsT intT) b.fNext, LS intT b.fMark])] [] (fun (_ : Unit) => True) (fun _ => .sv (.one (B (decide (a = b))))) := by
 refine (alike_walk a b (fun res_ => res_ = (decide (a = b))) ?_).fun
 intro hl _ _ _
 refine ⟨fun h => ?_, fun h => ?_⟩
 ·exact (decide_eq_false (fun e => by subst e; simp at h)).symm
 simp only [Bool.or_eq_false_iff, bne_eq_false_iff_eq] at h
 obtain ⟨⟨h1, h2⟩, h3⟩ := h
 refine ⟨fun m i => ∃ k : Nat, i = k ∧ k ≤ a.fNext.length ∧ (m = true → a.fMark = b.fMark ∧ a.fNext.take k = b.fNext.take k) ∧ (m = false → a ≠ b), fun m i => a.fNext.length - i.toNat, ⟨0, rfl, Nat.zero_le _, fun h => ⟨of_decide_eq_true h, rfl⟩, fun h e => of_decide_eq_false h (by rw [e])⟩, ?_⟩
 rintro m i ⟨k, rfl, hk, ht, hf⟩
 refine ⟨fun hb => ?_, fun hb => ?_⟩
 ·simp only [Bool.and_eq_true] at hb
  have hlt := dlt hb.1
  have hlt' : k < b.fNext.length := by omega
  obtain ⟨hm, htk⟩ := ht hb.2
  refine ⟨_, idx_at hlt, _, idx_at hlt', ⟨k + 1, ?_, hlt, fun he => ⟨hm, ?_⟩, fun he e => ?_⟩, ?_⟩
  ·rw [wr_in (by omega) (by omega)]; omega
  ·rw [List.take_add_one, List.take_add_one, htk, List.getElem?_eq_getElem hlt, List.getElem?_eq_getElem hlt', of_decide_eq_true he]
  ·subst e; exact of_decide_eq_false he rfl
  ·rw [wr_in (by omega) (by omega)]; simp only; omega
 ·cases m with
  | false => exact (decide_eq_false (hf rfl)).symm
  | true =>
   rw [Bool.and_true] at hb
   have hge := dge hb
   obtain ⟨hm, htk⟩ := ht rfl
   rw [List.take_of_length_le hge, List.take_of_length_le (by omega)] at htk
   refine (decide_eq_true ?_).symm
   obtain ⟨a1, a2, a3, a4⟩ := a
   obtain ⟨b1, b2, b3, b4⟩ := b
   simp only at h1 h2 hm htk
   rw [h1, h2, hm, htk]
def regSums_vc (s : ByteArray) (t : ByteArray) (Q : Bool → Prop) : Prop :=
 IfP (!(true)) (Q false) (((4 : Int) = 4) ∧
 ∀ r : (ApiDet × Int), (DetQ 4 s) r →
 (((4 : Int) = 4) ∧
 ∀ r_2 : (ApiDet × Int), (DetQ 4 t) r_2 →
 (∃ J : Bool → Prop, (IfP (r.2 != 0) (J true) (IfP (r_2.2 != 0) (J true) (IfP (decide ((s.size : Int) > 100)) (J true) (J (decide ((t.size : Int) > 100)))))) ∧
 (∀ (x44 : Bool), J x44 → IfP x44 (Q true) (((ByteArray.mk #[40]).size + s.size ≤ 1048576) ∧
 (((ByteArray.mk #[40]) ++ s).size + (ByteArray.mk #[41, 43, 40]).size ≤ 1048576) ∧
 ((((ByteArray.mk #[40]) ++ s) ++ (ByteArray.mk #[41, 43, 40])).size + t.size ≤ 1048576) ∧
 (((((ByteArray.mk #[40]) ++ s) ++ (ByteArray.mk #[41, 43, 40])) ++ t).size + (ByteArray.mk #[41]).size ≤ 1048576) ∧
 ((4 : Int) = 4) ∧
 ∀ r_3 : (ApiDet × Int), (DetQ 4 (((((ByteArray.mk #[40]) ++ s) ++ (ByteArray.mk #[41, 43, 40])) ++ t) ++ (ByteArray.mk #[41]))) r_3 →
 (∃ J_2 : Prop, (IfP (r_3.2 == 0) (IfP (((mixR r.1 r_2.1 14).2 == 0) && (!(decide (r_3.1 = (mixR r.1 r_2.1 14).1)))) (Q false) (J_2)) (J_2)) ∧
 (J_2 → ((ByteArray.mk #[40, 40]).size + s.size ≤ 1048576) ∧
 (((ByteArray.mk #[40, 40]) ++ s).size + (ByteArray.mk #[41, 42, 41, 42]).size ≤ 1048576) ∧
 ((4 : Int) = 4) ∧
 ∀ r_4 : (ApiDet × Int), (DetQ 4 (((ByteArray.mk #[40, 40]) ++ s) ++ (ByteArray.mk #[41, 42, 41, 42]))) r_4 →
 (((ByteArray.mk #[40]).size + s.size ≤ 1048576) ∧
 (((ByteArray.mk #[40]) ++ s).size + (ByteArray.mk #[41, 42]).size ≤ 1048576) ∧
 ((4 : Int) = 4) ∧
 ∀ r_5 : (ApiDet × Int), (DetQ 4 (((ByteArray.mk #[40]) ++ s) ++ (ByteArray.mk #[41, 42]))) r_5 →
 (∃ J_3 : Prop, (IfP ((r_4.2 == 0) && (r_5.2 == 0)) (IfP (!(decide (r_4.1 = r_5.1))) (Q false) (J_3)) (J_3)) ∧
 (J_3 → ((ByteArray.mk #[40]).size + s.size ≤ 1048576) ∧
 (((ByteArray.mk #[40]) ++ s).size + (ByteArray.mk #[41, 40, 49, 43, 40]).size ≤ 1048576) ∧
 ((((ByteArray.mk #[40]) ++ s) ++ (ByteArray.mk #[41, 40, 49, 43, 40])).size + s.size ≤ 1048576) ∧
 (((((ByteArray.mk #[40]) ++ s) ++ (ByteArray.mk #[41, 40, 49, 43, 40])) ++ s).size + (ByteArray.mk #[41, 42, 41]).size ≤ 1048576) ∧
 ((4 : Int) = 4) ∧
 ∀ r_6 : (ApiDet × Int), (DetQ 4 (((((ByteArray.mk #[40]) ++ s) ++ (ByteArray.mk #[41, 40, 49, 43, 40])) ++ s) ++ (ByteArray.mk #[41, 42, 41]))) r_6 →
 (((ByteArray.mk #[40]).size + s.size ≤ 1048576) ∧
 (((ByteArray.mk #[40]) ++ s).size + (ByteArray.mk #[41, 42, 40]).size ≤ 1048576) ∧
 ((((ByteArray.mk #[40]) ++ s) ++ (ByteArray.mk #[41, 42, 40])).size + s.size ≤ 1048576) ∧
 (((((ByteArray.mk #[40]) ++ s) ++ (ByteArray.mk #[41, 42, 40])) ++ s).size + (ByteArray.mk #[41]).size ≤ 1048576) ∧
 ((4 : Int) = 4) ∧
 ∀ r_7 : (ApiDet × Int), (DetQ 4 (((((ByteArray.mk #[40]) ++ s) ++ (ByteArray.mk #[41, 42, 40])) ++ s) ++ (ByteArray.mk #[41]))) r_7 →
 (IfP ((r_6.2 != 0) || (r_7.2 != 0)) (Q true) (Q (decide (r_6.1 = r_7.1)))))))))))))))
noncomputable abbrev qregSums0 := (ByteArray.mk #[40])
noncomputable abbrev qregSums1 := (ByteArray.mk #[41, 40, 49, 43, 40])
set_option maxHeartbeats 2000000 in
theorem regSums_walk (s : ByteArray) (t : ByteArray) (Q : Bool → Prop) (h : regSums_vc s t Q) : Ct 9 [.sv (.one (.v (.string s))), .sv (.one (.v (.string t)))] [] Q (fun (r : Bool) => .sv (.one (B r))) := by
 have ht := tab_ok
 refine Ct.body Try.func9 rfl rfl rfl rfl (fun c hn => ?_)
 unfold regSums_vc at h
 refine En.seq ?_
 refine En.region ?_
 refine WL.run ht hn 1 ⟨[sl 0 (.v (.string s)), sl 1 (.v (.string t))], []⟩ (by kernel_rfl) ?_
 refine WL.nil ?_
 refine En.seq ?_
 refine En.region ?_
 refine WL.mt0 (K := []) (p := none) hn (by rfl) (mt_call (closed_ct ) en26 (caps := []) [] rfl (by rfl) (by kernel_rfl) (by kernel_rfl) (by rfl) (by rfl) (by rfl)) (by rfl) (by rfl) (by rfl) ?_
 refine WL.run ht hn 1 ⟨[sl 0 (.v (.string s)), sl 1 (.v (.string t)), sl 5 (B (true))], []⟩ (by kernel_rfl) ?_
 refine WL.nil ?_
 refine En.seq ?_
 refine En.seq ?_
 refine En.region ?_
 refine WL.run ht hn 2 ⟨[sl 0 (.v (.string s)), sl 1 (.v (.string t)), sl 18 (B (!(true)))], []⟩ (by kernel_rfl) ?_
 refine WL.nil ?_
 refine En.cond (b := (!(true))) (by kernel_rfl) (fun hb => ?_) (fun hb => ?_)
 replace h := h.1 hb
 refine En.seq ?_
 refine En.region ?_
 refine WL.run ht hn 1 ⟨[sl 4 (B false)], []⟩ (by kernel_rfl) ?_
 refine WL.nil ?_
 refine En.ret ?_
 exact En.back ht false h (by kernel_rfl) rfl
 replace h := h.2 hb
 refine En.skip ?_
 refine En.seq ?_
 refine En.region ?_
 refine WL.run ht hn 1 ⟨[sl 0 (.v (.string s)), sl 1 (.v (.string t)), sl 20 (.v (.string s))], []⟩ (by kernel_rfl) ?_
 have hp := h.1
 replace h := h.2
 refine WL.mtQ (Q := DetQ 4 s) (x := fun (r : (ApiDet × Int)) => .tup [.agg (ApiDet.cl r.1), .one (I r.2)]) (p := fun _ => none) hn (by rfl) (mtq_call (rDetA_ct 4 s hp) en27 (caps := []) [] rfl (by rfl) (by kernel_rfl) (by kernel_rfl) (by rfl) (fun _ => rfl) (by rfl)) (fun r hr_2 => ⟨by rfl, _, by rfl, ?_⟩)
 replace h := h r hr_2
 refine WL.run ht hn 6 ⟨[sl 0 (.v (.string s)), sl 1 (.v (.string t)), sl 6 (.ptr 0 0), sl 7 (I r.2)], [.box (ApiDet.cl r.1) 73 false]⟩ (by kernel_rfl) ?_
 refine WL.nil ?_
 refine En.seq ?_
 refine En.region ?_
 refine WL.run ht hn 1 ⟨[sl 0 (.v (.string s)), sl 1 (.v (.string t)), sl 6 (.ptr 0 0), sl 7 (I r.2), sl 25 (.v (.string t))], [.box (ApiDet.cl r.1) 73 false]⟩ (by kernel_rfl) ?_
 have hp := h.1
 replace h := h.2
 refine WL.mtQ (Q := DetQ 4 t) (x := fun (r : (ApiDet × Int)) => .tup [.agg (ApiDet.cl r.1), .one (I r.2)]) (p := fun _ => none) hn (by rfl) (mtq_call (rDetA_ct 4 t hp) en27 (caps := []) [] rfl (by rfl) (by kernel_rfl) (by kernel_rfl) (by rfl) (fun _ => rfl) (by rfl)) (fun r_2 hr_2_2 => ⟨by rfl, _, by rfl, ?_⟩)
 replace h := h r_2 hr_2_2
 refine WL.run ht hn 6 ⟨[sl 0 (.v (.string s)), sl 1 (.v (.string t)), sl 6 (.ptr 0 0), sl 7 (I r.2), sl 8 (.ptr 1 0), sl 9 (I r_2.2)], [.box (ApiDet.cl r.1) 73 false, .box (ApiDet.cl r_2.1) 73 false]⟩ (by kernel_rfl) ?_
 refine WL.nil ?_
 refine En.seq ?_
 obtain ⟨J, h, hJ⟩ := h
 refine En.seqJ (σ := Bool) (fun zz => J zz) (fun zz => ⟨[sl 0 (.v (.string s)), sl 1 (.v (.string t)), sl 6 (.ptr 0 0), sl 8 (.ptr 1 0), sl 44 (B zz)], [.box (ApiDet.cl r.1) 73 false, .box (ApiDet.cl r_2.1) 73 false]⟩) ?_ ?_
 refine En.region ?_
 refine WL.run ht hn 3 ⟨[sl 0 (.v (.string s)), sl 1 (.v (.string t)), sl 6 (.ptr 0 0), sl 8 (.ptr 1 0), sl 9 (I r_2.2), sl 31 (B (r.2 != 0))], [.box (ApiDet.cl r.1) 73 false, .box (ApiDet.cl r_2.1) 73 false]⟩ (by kernel_rfl) ?_
 refine splitB (r.2 != 0) (fun hb => ?_) (fun hb => ?_)
 replace h := h.1 hb
 refine WL.setB 31 hb (by kernel_rfl) ?_
 refine WL.run ht hn 13 ⟨[sl 0 (.v (.string s)), sl 1 (.v (.string t)), sl 6 (.ptr 0 0), sl 8 (.ptr 1 0), sl 44 (B true)], [.box (ApiDet.cl r.1) 73 false, .box (ApiDet.cl r_2.1) 73 false]⟩ (by kernel_rfl) ?_
 refine WL.nil ?_
 exact En.at (I := fun zz => J zz) (T := fun zz => ⟨[sl 0 (.v (.string s)), sl 1 (.v (.string t)), sl 6 (.ptr 0 0), sl 8 (.ptr 1 0), sl 44 (B zz)], [.box (ApiDet.cl r.1) 73 false, .box (ApiDet.cl r_2.1) 73 false]⟩) true h (by kernel_rfl)
 replace h := h.2 hb
 refine WL.setB 31 hb (by kernel_rfl) ?_
 refine WL.run ht hn 4 ⟨[sl 0 (.v (.string s)), sl 1 (.v (.string t)), sl 6 (.ptr 0 0), sl 8 (.ptr 1 0), sl 35 (B (r_2.2 != 0))], [.box (ApiDet.cl r.1) 73 false, .box (ApiDet.cl r_2.1) 73 false]⟩ (by kernel_rfl) ?_
 refine splitB (r_2.2 != 0) (fun hb => ?_) (fun hb => ?_)
 replace h := h.1 hb
 refine WL.setB 35 hb (by kernel_rfl) ?_
 refine WL.run ht hn 9 ⟨[sl 0 (.v (.string s)), sl 1 (.v (.string t)), sl 6 (.ptr 0 0), sl 8 (.ptr 1 0), sl 44 (B true)], [.box (ApiDet.cl r.1) 73 false, .box (ApiDet.cl r_2.1) 73 false]⟩ (by kernel_rfl) ?_
 refine WL.nil ?_
 exact En.at (I := fun zz => J zz) (T := fun zz => ⟨[sl 0 (.v (.string s)), sl 1 (.v (.string t)), sl 6 (.ptr 0 0), sl 8 (.ptr 1 0), sl 44 (B zz)], [.box (ApiDet.cl r.1) 73 false, .box (ApiDet.cl r_2.1) 73 false]⟩) true h (by kernel_rfl)
 replace h := h.2 hb
 refine WL.setB 35 hb (by kernel_rfl) ?_
 refine WL.run ht hn 1 ⟨[sl 0 (.v (.string s)), sl 1 (.v (.string t)), sl 6 (.ptr 0 0), sl 8 (.ptr 1 0), sl 35 (B false), sl 36 (.v (.string s))], [.box (ApiDet.cl r.1) 73 false, .box (ApiDet.cl r_2.1) 73 false]⟩ (by kernel_rfl) ?_
 refine WL.val hn (by rfl) (val_lenS (s := s) rfl Try.underlying9 (by rfl)) (by rfl) ?_
 refine WL.run ht hn 3 ⟨[sl 0 (.v (.string s)), sl 1 (.v (.string t)), sl 6 (.ptr 0 0), sl 8 (.ptr 1 0), sl 40 (B (decide ((s.size : Int) > 100)))], [.box (ApiDet.cl r.1) 73 false, .box (ApiDet.cl r_2.1) 73 false]⟩ (by kernel_rfl) ?_
 refine splitB (decide ((s.size : Int) > 100)) (fun hb => ?_) (fun hb => ?_)
 replace h := h.1 hb
 refine WL.setB 40 hb (by kernel_rfl) ?_
 refine WL.run ht hn 4 ⟨[sl 0 (.v (.string s)), sl 1 (.v (.string t)), sl 6 (.ptr 0 0), sl 8 (.ptr 1 0), sl 44 (B true)], [.box (ApiDet.cl r.1) 73 false, .box (ApiDet.cl r_2.1) 73 false]⟩ (by kernel_rfl) ?_
 refine WL.nil ?_
 exact En.at (I := fun zz => J zz) (T := fun zz => ⟨[sl 0 (.v (.string s)), sl 1 (.v (.string t)), sl 6 (.ptr 0 0), sl 8 (.ptr 1 0), sl 44 (B zz)], [.box (ApiDet.cl r.1) 73 false, .box (ApiDet.cl r_2.1) 73 false]⟩) true h (by kernel_rfl)
 replace h := h.2 hb
 refine WL.setB 40 hb (by kernel_rfl) ?_
 refine WL.run ht hn 1 ⟨[sl 0 (.v (.string s)), sl 1 (.v (.string t)), sl 6 (.ptr 0 0), sl 8 (.ptr 1 0), sl 40 (B false), sl 41 (.v (.string t))], [.box (ApiDet.cl r.1) 73 false, .box (ApiDet.cl r_2.1) 73 false]⟩ (by kernel_rfl) ?_
 refine WL.val hn (by rfl) (val_lenS (s := t) rfl Try.underlying9 (by rfl)) (by rfl) ?_
 refine WL.run ht hn 2 ⟨[sl 0 (.v (.string s)), sl 1 (.v (.string t)), sl 6 (.ptr 0 0), sl 8 (.ptr 1 0), sl 44 (B (decide ((t.size : Int) > 100)))], [.box (ApiDet.cl r.1) 73 false, .box (ApiDet.cl r_2.1) 73 false]⟩ (by kernel_rfl) ?_
 refine WL.nil ?_
 exact En.at (I := fun zz => J zz) (T := fun zz => ⟨[sl 0 (.v (.string s)), sl 1 (.v (.string t)), sl 6 (.ptr 0 0), sl 8 (.ptr 1 0), sl 44 (B zz)], [.box (ApiDet.cl r.1) 73 false, .box (ApiDet.cl r_2.1) 73 false]⟩) (decide ((t.size : Int) > 100)) h (by kernel_rfl)
 intro x44 h
 replace h := hJ _ h
 show En c ⟨[sl 0 (.v (.string s)), sl 1 (.v (.string t)), sl 6 (.ptr 0 0), sl 8 (.ptr 1 0), sl 44 (B x44)], [.box (ApiDet.cl r.1) 73 false, .box (ApiDet.cl r_2.1) 73 false]⟩ _
 refine En.cond (b := x44) (by kernel_rfl) (fun hb => ?_) (fun hb => ?_)
 replace h := h.1 hb
 refine En.seq ?_
 refine En.region ?_
 refine WL.run ht hn 1 ⟨[sl 4 (B true)], [.gone, .gone]⟩ (by kernel_rfl) ?_
 refine WL.nil ?_
 refine En.ret ?_
 exact En.back ht true h (by kernel_rfl) rfl
 replace h := h.2 hb
 refine En.skip ?_
 refine En.seq ?_
 refine En.region ?_
 refine WL.run ht hn 1 ⟨[sl 0 (.v (.string s)), sl 1 (.v (.string t)), sl 6 (.ptr 0 0), sl 8 (.ptr 1 0), sl 46 (.v (.string s))], [.box (ApiDet.cl r.1) 73 false, .box (ApiDet.cl r_2.1) 73 false]⟩ (by kernel_rfl) ?_
 have hp_2 := h.1
 replace h := h.2
 refine WL.val hn (by rfl) (val_addS (u := (qregSums0)) (v := s) rfl (by rfl) (by rfl) hp_2) (by rfl) ?_
 have hp_3 := h.1
 replace h := h.2
 refine WL.val hn (by rfl) (val_addS (u := ((qregSums0) ++ s)) (v := (ByteArray.mk #[41, 43, 40])) rfl (by rfl) (by rfl) hp_3) (by rfl) ?_
 refine WL.run ht hn 1 ⟨[sl 0 (.v (.string s)), sl 6 (.ptr 0 0), sl 8 (.ptr 1 0), sl 48 (.v (.string (((qregSums0) ++ s) ++ (ByteArray.mk #[41, 43, 40])))), sl 49 (.v (.string t))], [.box (ApiDet.cl r.1) 73 false, .box (ApiDet.cl r_2.1) 73 false]⟩ (by kernel_rfl) ?_
 have hp_4 := h.1
 replace h := h.2
 refine WL.val hn (by rfl) (val_addS (u := (((qregSums0) ++ s) ++ (ByteArray.mk #[41, 43, 40]))) (v := t) rfl (by rfl) (by rfl) hp_4) (by rfl) ?_
 have hp_5 := h.1
 replace h := h.2
 refine WL.val hn (by rfl) (val_addS (u := ((((qregSums0) ++ s) ++ (ByteArray.mk #[41, 43, 40])) ++ t)) (v := (ByteArray.mk #[41])) rfl (by rfl) (by rfl) hp_5) (by rfl) ?_
 have hp := h.1
 replace h := h.2
 refine WL.mtQ (Q := DetQ 4 (((((qregSums0) ++ s) ++ (ByteArray.mk #[41, 43, 40])) ++ t) ++ (ByteArray.mk #[41]))) (x := fun (r : (ApiDet × Int)) => .tup [.agg (ApiDet.cl r.1), .one (I r.2)]) (p := fun _ => none) hn (by rfl) (mtq_call (rDetA_ct 4 (((((qregSums0) ++ s) ++ (ByteArray.mk #[41, 43, 40])) ++ t) ++ (ByteArray.mk #[41])) hp) en27 (caps := []) [] rfl (by rfl) (by kernel_rfl) (by kernel_rfl) (by rfl) (fun _ => rfl) (by rfl)) (fun r_3 hr_3 => ⟨by rfl, _, by rfl, ?_⟩)
 replace h := h r_3 hr_3
 refine WL.run ht hn 6 ⟨[sl 0 (.v (.string s)), sl 6 (.ptr 0 0), sl 7 (I r_3.2), sl 8 (.ptr 1 0), sl 10 (.ptr 2 0)], [.box (ApiDet.cl r.1) 73 false, .box (ApiDet.cl r_2.1) 73 false, .box (ApiDet.cl r_3.1) 73 false]⟩ (by kernel_rfl) ?_
 refine WL.nil ?_
 obtain ⟨J_2, h, hJ_2⟩ := h
 refine En.seqJ (σ := Unit) (fun _ => J_2) (fun _ => ⟨[sl 0 (.v (.string s)), sl 10 (.ptr 2 0)], [.gone, .gone, .box (ApiDet.cl r_3.1) 73 false]⟩) ?_ ?_
 refine En.seq ?_
 refine En.region ?_
 refine WL.run ht hn 2 ⟨[sl 0 (.v (.string s)), sl 6 (.ptr 0 0), sl 8 (.ptr 1 0), sl 10 (.ptr 2 0), sl 56 (B (r_3.2 == 0))], [.box (ApiDet.cl r.1) 73 false, .box (ApiDet.cl r_2.1) 73 false, .box (ApiDet.cl r_3.1) 73 false]⟩ (by kernel_rfl) ?_
 refine WL.nil ?_
 refine En.cond (b := (r_3.2 == 0)) (by kernel_rfl) (fun hb => ?_) (fun hb => ?_)
 replace h := h.1 hb
 refine En.seq ?_
 refine En.region ?_
 refine WL.run ht hn 2 ⟨[sl 0 (.v (.string s)), sl 10 (.ptr 2 0), (58, .sv (.agg (ApiDet.cl r.1))), (59, .sv (.agg (ApiDet.cl r_2.1)))], [.gone, .gone, .box (ApiDet.cl r_3.1) 73 false]⟩ (by kernel_rfl) ?_
 refine WL.mt0 (K := []) (p := none) hn (by rfl) (mt_call (detMixed_ct r.1 r_2.1 14) en28 (caps := []) [] rfl (by rfl) (by kernel_rfl) (by kernel_rfl) (by rfl) (by rfl) (by rfl)) (by rfl) (by rfl) (by rfl) ?_
 refine WL.run ht hn 6 ⟨[sl 0 (.v (.string s)), sl 10 (.ptr 2 0), sl 11 (.ptr 3 0), sl 12 (I (mixR r.1 r_2.1 14).2)], [.gone, .gone, .box (ApiDet.cl r_3.1) 73 false, .box (ApiDet.cl (mixR r.1 r_2.1 14).1) 73 false]⟩ (by kernel_rfl) ?_
 refine WL.nil ?_
 refine En.seq ?_
 refine En.region ?_
 refine WL.run ht hn 2 ⟨[sl 0 (.v (.string s)), sl 10 (.ptr 2 0), sl 12 (I (mixR r.1 r_2.1 14).2), (63, .sv (.agg (ApiDet.cl r_3.1))), (64, .sv (.agg (ApiDet.cl (mixR r.1 r_2.1 14).1)))], [.gone, .gone, .box (ApiDet.cl r_3.1) 73 false, .gone]⟩ (by kernel_rfl) ?_
 refine WL.mt0 (K := []) (p := none) hn (by rfl) (mt_call (alike_ct r_3.1 (mixR r.1 r_2.1 14).1) en29 (caps := []) [] rfl (by rfl) (by kernel_rfl) (by kernel_rfl) (by rfl) (by rfl) (by rfl)) (by rfl) (by rfl) (by rfl) ?_
 refine WL.run ht hn 1 ⟨[sl 0 (.v (.string s)), sl 10 (.ptr 2 0), sl 12 (I (mixR r.1 r_2.1 14).2), sl 13 (B (decide (r_3.1 = (mixR r.1 r_2.1 14).1)))], [.gone, .gone, .box (ApiDet.cl r_3.1) 73 false, .gone]⟩ (by kernel_rfl) ?_
 refine WL.nil ?_
 refine En.seq ?_
 refine En.region ?_
 refine WL.run ht hn 3 ⟨[sl 0 (.v (.string s)), sl 10 (.ptr 2 0), sl 13 (B (decide (r_3.1 = (mixR r.1 r_2.1 14).1))), sl 68 (B ((mixR r.1 r_2.1 14).2 == 0))], [.gone, .gone, .box (ApiDet.cl r_3.1) 73 false, .gone]⟩ (by kernel_rfl) ?_
 refine WL.thru ⟨[sl 0 (.v (.string s)), sl 10 (.ptr 2 0), sl 71 (B (((mixR r.1 r_2.1 14).2 == 0) && (!(decide (r_3.1 = (mixR r.1 r_2.1 14).1)))))], [.gone, .gone, .box (ApiDet.cl r_3.1) 73 false, .gone]⟩ ?_ ?_
 refine splitB ((mixR r.1 r_2.1 14).2 == 0) (fun hb0 => ?_) (fun hb0 => ?_)
 refine WL.setB 68 hb0 (by kernel_rfl) ?_
 refine WL.run ht hn 3 ⟨[sl 0 (.v (.string s)), sl 10 (.ptr 2 0), sl 71 (B (!(decide (r_3.1 = (mixR r.1 r_2.1 14).1))))], [.gone, .gone, .box (ApiDet.cl r_3.1) 73 false, .gone]⟩ (by kernel_rfl) ?_
 exact WL.nil (sub_ok (by simp only [hb0]; kernel_rfl))
 refine WL.setB 68 hb0 (by kernel_rfl) ?_
 refine WL.run ht hn 3 ⟨[sl 0 (.v (.string s)), sl 10 (.ptr 2 0), sl 71 (B false)], [.gone, .gone, .box (ApiDet.cl r_3.1) 73 false, .gone]⟩ (by kernel_rfl) ?_
 exact WL.nil (sub_ok (by simp only [hb0]; kernel_rfl))
 refine En.cond (b := (((mixR r.1 r_2.1 14).2 == 0) && (!(decide (r_3.1 = (mixR r.1 r_2.1 14).1))))) (by kernel_rfl) (fun hb => ?_) (fun hb => ?_)
 replace h := h.1 hb
 refine En.seq ?_
 refine En.region ?_
 refine WL.run ht hn 1 ⟨[sl 4 (B false)], [.gone, .gone, .gone, .gone]⟩ (by kernel_rfl) ?_
 refine WL.nil ?_
 refine En.ret ?_
 exact En.back ht false h (by kernel_rfl) rfl
 replace h := h.2 hb
 refine En.skip ?_
 exact En.at (I := fun _ => J_2) (T := fun _ => ⟨[sl 0 (.v (.string s)), sl 10 (.ptr 2 0)], [.gone, .gone, .box (ApiDet.cl r_3.1) 73 false]⟩) () h (by kernel_rfl)
 replace h := h.2 hb
 refine En.skip ?_
 exact En.at (I := fun _ => J_2) (T := fun _ => ⟨[sl 0 (.v (.string s)), sl 10 (.ptr 2 0)], [.gone, .gone, .box (ApiDet.cl r_3.1) 73 false]⟩) () h (by kernel_rfl)
 intro _ h
 replace h := hJ_2 h
 show En c ⟨[sl 0 (.v (.string s)), sl 10 (.ptr 2 0)], [.gone, .gone, .box (ApiDet.cl r_3.1) 73 false]⟩ _
 refine En.seq ?_
 refine En.region ?_
 refine WL.run ht hn 1 ⟨[sl 0 (.v (.string s)), sl 10 (.ptr 2 0), sl 73 (.v (.string s))], [.gone, .gone, .box (ApiDet.cl r_3.1) 73 false]⟩ (by kernel_rfl) ?_
 have hp_6 := h.1
 replace h := h.2
 refine WL.val hn (by rfl) (val_addS (u := (ByteArray.mk #[40, 40])) (v := s) rfl (by rfl) (by rfl) hp_6) (by rfl) ?_
 have hp_7 := h.1
 replace h := h.2
 refine WL.val hn (by rfl) (val_addS (u := ((ByteArray.mk #[40, 40]) ++ s)) (v := (ByteArray.mk #[41, 42, 41, 42])) rfl (by rfl) (by rfl) hp_7) (by rfl) ?_
 have hp := h.1
 replace h := h.2
 refine WL.mtQ (Q := DetQ 4 (((ByteArray.mk #[40, 40]) ++ s) ++ (ByteArray.mk #[41, 42, 41, 42]))) (x := fun (r : (ApiDet × Int)) => .tup [.agg (ApiDet.cl r.1), .one (I r.2)]) (p := fun _ => none) hn (by rfl) (mtq_call (rDetA_ct 4 (((ByteArray.mk #[40, 40]) ++ s) ++ (ByteArray.mk #[41, 42, 41, 42])) hp) en27 (caps := []) [] rfl (by rfl) (by kernel_rfl) (by kernel_rfl) (by rfl) (fun _ => rfl) (by rfl)) (fun r_4 hr_4 => ⟨by rfl, _, by rfl, ?_⟩)
 replace h := h r_4 hr_4
 refine WL.run ht hn 5 ⟨[sl 0 (.v (.string s)), sl 7 (I r_4.2), sl 10 (.ptr 2 0)], [.gone, .gone, .box (ApiDet.cl r_4.1) 73 false]⟩ (by kernel_rfl) ?_
 refine WL.nil ?_
 refine En.seq ?_
 refine En.region ?_
 refine WL.run ht hn 1 ⟨[sl 0 (.v (.string s)), sl 7 (I r_4.2), sl 10 (.ptr 2 0), sl 80 (.v (.string s))], [.gone, .gone, .box (ApiDet.cl r_4.1) 73 false]⟩ (by kernel_rfl) ?_
 have hp_8 := h.1
 replace h := h.2
 refine WL.val hn (by rfl) (val_addS (u := (qregSums0)) (v := s) rfl (by rfl) (by rfl) hp_8) (by rfl) ?_
 have hp_9 := h.1
 replace h := h.2
 refine WL.val hn (by rfl) (val_addS (u := ((qregSums0) ++ s)) (v := (ByteArray.mk #[41, 42])) rfl (by rfl) (by rfl) hp_9) (by rfl) ?_
 have hp := h.1
 replace h := h.2
 refine WL.mtQ (Q := DetQ 4 (((qregSums0) ++ s) ++ (ByteArray.mk #[41, 42]))) (x := fun (r : (ApiDet × Int)) => .tup [.agg (ApiDet.cl r.1), .one (I r.2)]) (p := fun _ => none) hn (by rfl) (mtq_call (rDetA_ct 4 (((qregSums0) ++ s) ++ (ByteArray.mk #[41, 42])) hp) en27 (caps := []) [] rfl (by rfl) (by kernel_rfl) (by kernel_rfl) (by rfl) (fun _ => rfl) (by rfl)) (fun r_5 hr_5 => ⟨by rfl, _, by rfl, ?_⟩)
 replace h := h r_5 hr_5
 refine WL.run ht hn 6 ⟨[sl 0 (.v (.string s)), sl 7 (I r_4.2), sl 9 (I r_5.2), sl 10 (.ptr 2 0), sl 14 (.ptr 3 0)], [.gone, .gone, .box (ApiDet.cl r_4.1) 73 false, .box (ApiDet.cl r_5.1) 73 false]⟩ (by kernel_rfl) ?_
 refine WL.nil ?_
 obtain ⟨J_3, h, hJ_3⟩ := h
 refine En.seqJ (σ := Unit) (fun _ => J_3) (fun _ => ⟨[sl 0 (.v (.string s)), sl 10 (.ptr 2 0), sl 14 (.ptr 3 0)], [.gone, .gone, .box (ApiDet.cl r_4.1) 73 false, .box (ApiDet.cl r_5.1) 73 false]⟩) ?_ ?_
 refine En.seq ?_
 refine En.region ?_
 refine WL.run ht hn 3 ⟨[sl 0 (.v (.string s)), sl 9 (I r_5.2), sl 10 (.ptr 2 0), sl 14 (.ptr 3 0), sl 88 (B (r_4.2 == 0))], [.gone, .gone, .box (ApiDet.cl r_4.1) 73 false, .box (ApiDet.cl r_5.1) 73 false]⟩ (by kernel_rfl) ?_
 refine WL.thru ⟨[sl 0 (.v (.string s)), sl 10 (.ptr 2 0), sl 14 (.ptr 3 0), sl 91 (B ((r_4.2 == 0) && (r_5.2 == 0)))], [.gone, .gone, .box (ApiDet.cl r_4.1) 73 false, .box (ApiDet.cl r_5.1) 73 false]⟩ ?_ ?_
 refine splitB (r_4.2 == 0) (fun hb0 => ?_) (fun hb0 => ?_)
 refine WL.setB 88 hb0 (by kernel_rfl) ?_
 refine WL.run ht hn 3 ⟨[sl 0 (.v (.string s)), sl 10 (.ptr 2 0), sl 14 (.ptr 3 0), sl 91 (B (r_5.2 == 0))], [.gone, .gone, .box (ApiDet.cl r_4.1) 73 false, .box (ApiDet.cl r_5.1) 73 false]⟩ (by kernel_rfl) ?_
 exact WL.nil (sub_ok (by simp only [hb0]; kernel_rfl))
 refine WL.setB 88 hb0 (by kernel_rfl) ?_
 refine WL.run ht hn 3 ⟨[sl 0 (.v (.string s)), sl 10 (.ptr 2 0), sl 14 (.ptr 3 0), sl 91 (B false)], [.gone, .gone, .box (ApiDet.cl r_4.1) 73 false, .box (ApiDet.cl r_5.1) 73 false]⟩ (by kernel_rfl) ?_
 exact WL.nil (sub_ok (by simp only [hb0]; kernel_rfl))
 refine En.cond (b := ((r_4.2 == 0) && (r_5.2 == 0))) (by kernel_rfl) (fun hb => ?_) (fun hb => ?_)
 replace h := h.1 hb
 refine En.seq ?_
 refine En.region ?_
 refine WL.run ht hn 2 ⟨[sl 0 (.v (.string s)), sl 10 (.ptr 2 0), sl 14 (.ptr 3 0), (92, .sv (.agg (ApiDet.cl r_4.1))), (93, .sv (.agg (ApiDet.cl r_5.1)))], [.gone, .gone, .box (ApiDet.cl r_4.1) 73 false, .box (ApiDet.cl r_5.1) 73 false]⟩ (by kernel_rfl) ?_
 refine WL.mt0 (K := []) (p := none) hn (by rfl) (mt_call (alike_ct r_4.1 r_5.1) en29 (caps := []) [] rfl (by rfl) (by kernel_rfl) (by kernel_rfl) (by rfl) (by rfl) (by rfl)) (by rfl) (by rfl) (by rfl) ?_
 refine WL.run ht hn 1 ⟨[sl 0 (.v (.string s)), sl 10 (.ptr 2 0), sl 14 (.ptr 3 0), sl 15 (B (decide (r_4.1 = r_5.1)))], [.gone, .gone, .box (ApiDet.cl r_4.1) 73 false, .box (ApiDet.cl r_5.1) 73 false]⟩ (by kernel_rfl) ?_
 refine WL.nil ?_
 refine En.seq ?_
 refine En.region ?_
 refine WL.run ht hn 2 ⟨[sl 0 (.v (.string s)), sl 10 (.ptr 2 0), sl 14 (.ptr 3 0), sl 96 (B (!(decide (r_4.1 = r_5.1))))], [.gone, .gone, .box (ApiDet.cl r_4.1) 73 false, .box (ApiDet.cl r_5.1) 73 false]⟩ (by kernel_rfl) ?_
 refine WL.nil ?_
 refine En.cond (b := (!(decide (r_4.1 = r_5.1)))) (by kernel_rfl) (fun hb => ?_) (fun hb => ?_)
 replace h := h.1 hb
 refine En.seq ?_
 refine En.region ?_
 refine WL.run ht hn 1 ⟨[sl 4 (B false)], [.gone, .gone, .gone, .gone]⟩ (by kernel_rfl) ?_
 refine WL.nil ?_
 refine En.ret ?_
 exact En.back ht false h (by kernel_rfl) rfl
 replace h := h.2 hb
 refine En.skip ?_
 exact En.at (I := fun _ => J_3) (T := fun _ => ⟨[sl 0 (.v (.string s)), sl 10 (.ptr 2 0), sl 14 (.ptr 3 0)], [.gone, .gone, .box (ApiDet.cl r_4.1) 73 false, .box (ApiDet.cl r_5.1) 73 false]⟩) () h (by kernel_rfl)
 replace h := h.2 hb
 refine En.skip ?_
 exact En.at (I := fun _ => J_3) (T := fun _ => ⟨[sl 0 (.v (.string s)), sl 10 (.ptr 2 0), sl 14 (.ptr 3 0)], [.gone, .gone, .box (ApiDet.cl r_4.1) 73 false, .box (ApiDet.cl r_5.1) 73 false]⟩) () h (by kernel_rfl)
 intro _ h
 replace h := hJ_3 h
 show En c ⟨[sl 0 (.v (.string s)), sl 10 (.ptr 2 0), sl 14 (.ptr 3 0)], [.gone, .gone, .box (ApiDet.cl r_4.1) 73 false, .box (ApiDet.cl r_5.1) 73 false]⟩ _
 refine En.seq ?_
 refine En.region ?_
 refine WL.run ht hn 1 ⟨[sl 0 (.v (.string s)), sl 10 (.ptr 2 0), sl 14 (.ptr 3 0), sl 98 (.v (.string s))], [.gone, .gone, .box (ApiDet.cl r_4.1) 73 false, .box (ApiDet.cl r_5.1) 73 false]⟩ (by kernel_rfl) ?_
 have hp_10 := h.1
 replace h := h.2
 refine WL.val hn (by rfl) (val_addS (u := (qregSums0)) (v := s) rfl (by rfl) (by rfl) hp_10) (by rfl) ?_
 have hp_11 := h.1
 replace h := h.2
 refine WL.val hn (by rfl) (val_addS (u := ((qregSums0) ++ s)) (v := (qregSums1)) rfl (by rfl) (by rfl) hp_11) (by rfl) ?_
 refine WL.run ht hn 1 ⟨[sl 0 (.v (.string s)), sl 10 (.ptr 2 0), sl 14 (.ptr 3 0), sl 100 (.v (.string (((qregSums0) ++ s) ++ (qregSums1)))), sl 101 (.v (.string s))], [.gone, .gone, .box (ApiDet.cl r_4.1) 73 false, .box (ApiDet.cl r_5.1) 73 false]⟩ (by kernel_rfl) ?_
 have hp_12 := h.1
 replace h := h.2
 refine WL.val hn (by rfl) (val_addS (u := (((qregSums0) ++ s) ++ (qregSums1))) (v := s) rfl (by rfl) (by rfl) hp_12) (by rfl) ?_
 have hp_13 := h.1
 replace h := h.2
 refine WL.val hn (by rfl) (val_addS (u := ((((qregSums0) ++ s) ++ (qregSums1)) ++ s)) (v := (ByteArray.mk #[41, 42, 41])) rfl (by rfl) (by rfl) hp_13) (by rfl) ?_
 have hp := h.1
 replace h := h.2
 refine WL.mtQ (Q := DetQ 4 (((((qregSums0) ++ s) ++ (qregSums1)) ++ s) ++ (ByteArray.mk #[41, 42, 41]))) (x := fun (r : (ApiDet × Int)) => .tup [.agg (ApiDet.cl r.1), .one (I r.2)]) (p := fun _ => none) hn (by rfl) (mtq_call (rDetA_ct 4 (((((qregSums0) ++ s) ++ (qregSums1)) ++ s) ++ (ByteArray.mk #[41, 42, 41])) hp) en27 (caps := []) [] rfl (by rfl) (by kernel_rfl) (by kernel_rfl) (by rfl) (fun _ => rfl) (by rfl)) (fun r_6 hr_6 => ⟨by rfl, _, by rfl, ?_⟩)
 replace h := h r_6 hr_6
 refine WL.run ht hn 5 ⟨[sl 0 (.v (.string s)), sl 7 (I r_6.2), sl 10 (.ptr 2 0), sl 14 (.ptr 3 0)], [.gone, .gone, .box (ApiDet.cl r_6.1) 73 false, .box (ApiDet.cl r_5.1) 73 false]⟩ (by kernel_rfl) ?_
 refine WL.nil ?_
 refine En.seq ?_
 refine En.region ?_
 refine WL.run ht hn 1 ⟨[sl 0 (.v (.string s)), sl 7 (I r_6.2), sl 10 (.ptr 2 0), sl 14 (.ptr 3 0), sl 108 (.v (.string s))], [.gone, .gone, .box (ApiDet.cl r_6.1) 73 false, .box (ApiDet.cl r_5.1) 73 false]⟩ (by kernel_rfl) ?_
 have hp_14 := h.1
 replace h := h.2
 refine WL.val hn (by rfl) (val_addS (u := (qregSums0)) (v := s) rfl (by rfl) (by rfl) hp_14) (by rfl) ?_
 have hp_15 := h.1
 replace h := h.2
 refine WL.val hn (by rfl) (val_addS (u := ((qregSums0) ++ s)) (v := (ByteArray.mk #[41, 42, 40])) rfl (by rfl) (by rfl) hp_15) (by rfl) ?_
 refine WL.run ht hn 1 ⟨[sl 7 (I r_6.2), sl 10 (.ptr 2 0), sl 14 (.ptr 3 0), sl 110 (.v (.string (((qregSums0) ++ s) ++ (ByteArray.mk #[41, 42, 40])))), sl 111 (.v (.string s))], [.gone, .gone, .box (ApiDet.cl r_6.1) 73 false, .box (ApiDet.cl r_5.1) 73 false]⟩ (by kernel_rfl) ?_
 have hp_16 := h.1
 replace h := h.2
 refine WL.val hn (by rfl) (val_addS (u := (((qregSums0) ++ s) ++ (ByteArray.mk #[41, 42, 40]))) (v := s) rfl (by rfl) (by rfl) hp_16) (by rfl) ?_
 have hp_17 := h.1
 replace h := h.2
 refine WL.val hn (by rfl) (val_addS (u := ((((qregSums0) ++ s) ++ (ByteArray.mk #[41, 42, 40])) ++ s)) (v := (ByteArray.mk #[41])) rfl (by rfl) (by rfl) hp_17) (by rfl) ?_
 have hp := h.1
 replace h := h.2
 refine WL.mtQ (Q := DetQ 4 (((((qregSums0) ++ s) ++ (ByteArray.mk #[41, 42, 40])) ++ s) ++ (ByteArray.mk #[41]))) (x := fun (r : (ApiDet × Int)) => .tup [.agg (ApiDet.cl r.1), .one (I r.2)]) (p := fun _ => none) hn (by rfl) (mtq_call (rDetA_ct 4 (((((qregSums0) ++ s) ++ (ByteArray.mk #[41, 42, 40])) ++ s) ++ (ByteArray.mk #[41])) hp) en27 (caps := []) [] rfl (by rfl) (by kernel_rfl) (by kernel_rfl) (by rfl) (fun _ => rfl) (by rfl)) (fun r_7 hr_7 => ⟨by rfl, _, by rfl, ?_⟩)
 replace h := h r_7 hr_7
 refine WL.run ht hn 5 ⟨[sl 7 (I r_6.2), sl 9 (I r_7.2), sl 10 (.ptr 2 0), sl 14 (.ptr 3 0)], [.gone, .gone, .box (ApiDet.cl r_6.1) 73 false, .box (ApiDet.cl r_7.1) 73 false]⟩ (by kernel_rfl) ?_
 refine WL.nil ?_
 refine En.seq ?_
 refine En.seq ?_
 refine En.region ?_
 refine WL.run ht hn 3 ⟨[sl 9 (I r_7.2), sl 10 (.ptr 2 0), sl 14 (.ptr 3 0), sl 119 (B (r_6.2 != 0))], [.gone, .gone, .box (ApiDet.cl r_6.1) 73 false, .box (ApiDet.cl r_7.1) 73 false]⟩ (by kernel_rfl) ?_
 refine WL.thru ⟨[sl 10 (.ptr 2 0), sl 14 (.ptr 3 0), sl 122 (B ((r_6.2 != 0) || (r_7.2 != 0)))], [.gone, .gone, .box (ApiDet.cl r_6.1) 73 false, .box (ApiDet.cl r_7.1) 73 false]⟩ ?_ ?_
 refine splitB (r_6.2 != 0) (fun hb0 => ?_) (fun hb0 => ?_)
 refine WL.setB 119 hb0 (by kernel_rfl) ?_
 refine WL.run ht hn 3 ⟨[sl 10 (.ptr 2 0), sl 14 (.ptr 3 0), sl 122 (B true)], [.gone, .gone, .box (ApiDet.cl r_6.1) 73 false, .box (ApiDet.cl r_7.1) 73 false]⟩ (by kernel_rfl) ?_
 exact WL.nil (sub_ok (by simp only [hb0]; kernel_rfl))
 refine WL.setB 119 hb0 (by kernel_rfl) ?_
 refine WL.run ht hn 3 ⟨[sl 10 (.ptr 2 0), sl 14 (.ptr 3 0), sl 122 (B (r_7.2 != 0))], [.gone, .gone, .box (ApiDet.cl r_6.1) 73 false, .box (ApiDet.cl r_7.1) 73 false]⟩ (by kernel_rfl) ?_
 exact WL.nil (sub_ok (by simp only [hb0]; kernel_rfl))
 refine En.cond (b := ((r_6.2 != 0) || (r_7.2 != 0))) (by kernel_rfl) (fun hb => ?_) (fun hb => ?_)
 replace h := h.1 hb
 refine En.seq ?_
 refine En.region ?_
 refine WL.run ht hn 1 ⟨[sl 4 (B true)], [.gone, .gone, .gone, .gone]⟩ (by kernel_rfl) ?_
 refine WL.nil ?_
 refine En.ret ?_
 exact En.back ht true h (by kernel_rfl) rfl
 replace h := h.2 hb
 refine En.skip ?_
 refine En.seq ?_
 refine En.region ?_
 refine WL.run ht hn 2 ⟨[(123, .sv (.agg (ApiDet.cl r_6.1))), (124, .sv (.agg (ApiDet.cl r_7.1)))], [.gone, .gone, .gone, .gone]⟩ (by kernel_rfl) ?_
 refine WL.mt0 (K := []) (p := none) hn (by rfl) (mt_call (alike_ct r_6.1 r_7.1) en29 (caps := []) [] rfl (by rfl) (by kernel_rfl) (by kernel_rfl) (by rfl) (by rfl) (by rfl)) (by rfl) (by rfl) (by rfl) ?_
 refine WL.run ht hn 1 ⟨[sl 4 (B (decide (r_6.1 = r_7.1)))], [.gone, .gone, .gone, .gone]⟩ (by kernel_rfl) ?_
 refine WL.nil ?_
 refine En.ret ?_
 exact En.back ht (decide (r_6.1 = r_7.1)) h (by kernel_rfl) rfl
theorem detQ_ok {L : Int} {text : ByteArray} {r : ApiDet × Int} (h : DetQ L text r) (h0 : r.2 = 0) : ∃ t, fullS text = some t ∧ r = (canon 4 (langT t), 0) ∧ CanonOk 4 (langT t) 3000 := by
 unfold DetQ at h
 split at h
 ·exact absurd h0 h
 ·rename_i t ht
  rcases h with h | h
  ·exact absurd h0 h
  ·exact ⟨t, ht, h⟩
theorem mix_or {r s : Lang} (hr : CanonOk 4 r 3000) (hs : CanonOk 4 s 3000) (h01 : ∀ w, r w = 0 ∨ r w = 1) (g01 : ∀ w, s w = 0 ∨ s w = 1) (h : (mixR (canon 4 r) (canon 4 s) 14).2 = 0) {q : Lang} (hq : ∀ w, (∀ a ∈ w, a < 4) → q w = tabB 14 (r w) (s w)) : canon 4 q = (mixR (canon 4 r) (canon 4 s) 14).1 := by
 unfold mixR at h ⊢
 by_cases e1 : twoErr (canon 4 r) (canon 4 s) = 0
 ·rw [if_pos e1, if_pos (by decide)] at h ⊢
  by_cases e2 : (canon 4 r).fNext.length * (canon 4 s).fNext.length ≤ 3000
  ·rw [if_pos e2]
   rw [hr.letters]
   refine canon_congr fun w hw => ?_
   rw [hq w hw]
   unfold mixLang
   rw [hr.start, hs.start, show (0 : Int).toNat = 0 from rfl, hr.lang w hw, hs.lang w hw]
  ·rw [if_neg e2] at h
   exact absurd h (by decide)
 ·rw [if_neg e1] at h
  exact absurd h e1
theorem sum_lang {s t : ByteArray} {S T : RTr} (hs : fullS s = some S) (hl : s.size ≤ 100) (ht : fullS t = some T) (hl2 : t.size ≤ 100) (w : List Nat) : langT (nd 3 0 [nd 4 0 [S], nd 4 0 [T]]) w = tabB 14 (langT S w) (langT T w) := by
 have key : langT (nd 3 0 [nd 4 0 [S], nd 4 0 [T]]) w = 1 ↔ langT S w = 1 ∨ langT T w = 1 := by
  rw [langT_iff, langT_iff, langT_iff]
  exact words1 hs hl ht hl2 _
 have t00 : tabB 14 0 0 = 0 := by kernel_rfl
 have t01 : tabB 14 0 1 = 1 := by kernel_rfl
 have t10 : tabB 14 1 0 = 1 := by kernel_rfl
 have t11 : tabB 14 1 1 = 1 := by kernel_rfl
 rcases langT_01 (t := S) (w := w) with h1 | h1 <;> rcases langT_01 (t := T) (w := w) with h2 | h2 <;> rw [h1, h2] at key ⊢
 ·rw [t00]
  rcases langT_01 (t := nd 3 0 [nd 4 0 [S], nd 4 0 [T]]) (w := w) with h | h
  ·exact h
  ·have := key.1 h
   omega
 ·rw [t01]; exact key.2 (.inr rfl)
 ·rw [t10]; exact key.2 (.inl rfl)
 ·rw [t11]; exact key.2 (.inl rfl)
theorem regSums_ct (s : ByteArray) (t : ByteArray)  : Ct 9 [.sv (.one (.v (.string s))), .sv (.one (.v (.string t)))] [] (fun (_ : Unit) => True) (fun _ => .sv (.one (B (true)))) := by
 refine (regSums_walk s t (fun res_ => res_ = (true)) ?_).fun
 unfold regSums_vc
 refine ⟨fun h => (by cases h), fun _ => ⟨rfl, fun r hr => ⟨rfl, fun r2 hr2 => ⟨fun b => b = false → r.2 = 0 ∧ r2.2 = 0 ∧ s.size ≤ 100 ∧ t.size ≤ 100, ⟨fun _ h => (by cases h), fun h1 => ⟨fun _ h => (by cases h), fun h2 => ⟨fun _ h => (by cases h), fun h3 h4 => ?_⟩⟩⟩, fun b hJ => ⟨fun _ => rfl, fun hb => ?_⟩⟩⟩⟩⟩
 ·have h3 := of_decide_eq_false h3
  have h4 := of_decide_eq_false h4
  rw [bne_eq_false_iff_eq] at h1 h2
  exact ⟨h1, h2, by omega, by omega⟩
 obtain ⟨e1, e2, hl, hl2⟩ := hJ hb
 obtain ⟨S, hs, rfl, hS⟩ := detQ_ok hr e1
 obtain ⟨T, ht, rfl, hT⟩ := detQ_ok hr2 e2
 have z1 : (ByteArray.mk #[40]).size = 1 := rfl
 have z2 : (ByteArray.mk #[41, 43, 40]).size = 3 := rfl
 have z3 : (ByteArray.mk #[41]).size = 1 := rfl
 have z4 : (ByteArray.mk #[40, 40]).size = 2 := rfl
 have z5 : (ByteArray.mk #[41, 42, 41, 42]).size = 4 := rfl
 have z6 : (ByteArray.mk #[41, 42]).size = 2 := rfl
 have z7 : (ByteArray.mk #[41, 40, 49, 43, 40]).size = 5 := rfl
 have z8 : (ByteArray.mk #[41, 42, 41]).size = 3 := rfl
 have z9 : (ByteArray.mk #[41, 42, 40]).size = 3 := rfl
 refine ⟨by omega, by simp only [ByteArray.size_append]; omega, by simp only [ByteArray.size_append]; omega, by simp only [ByteArray.size_append]; omega, rfl, fun r3 hr3 => ⟨True, ⟨fun h3 => ⟨fun h => ?_, fun _ => trivial⟩, fun _ => trivial⟩, fun _ => ?_⟩⟩
 ·exfalso
  rw [Bool.and_eq_true, Bool.not_eq_true', decide_eq_false_iff_not] at h
  obtain ⟨C, hC, rfl, _⟩ := detQ_ok hr3 (eq_of_beq h3)
  obtain rfl := tx1 hs ht hC
  exact h.2 (mix_or hS hT (fun _ => langT_01) (fun _ => langT_01) (eq_of_beq h.1) fun w _ => sum_lang hs hl ht hl2 w)
 refine ⟨by omega, by simp only [ByteArray.size_append]; omega, rfl, fun r4 hr4 => ⟨by omega, by simp only [ByteArray.size_append]; omega, rfl, fun r5 hr5 => ⟨True, ⟨fun h3 => ⟨fun h => ?_, fun _ => trivial⟩, fun _ => trivial⟩, fun _ => ?_⟩⟩⟩
 ·exfalso
  rw [Bool.and_eq_true] at h3
  rw [Bool.not_eq_true', decide_eq_false_iff_not] at h
  obtain ⟨C, hC, rfl, _⟩ := detQ_ok hr4 (eq_of_beq h3.1)
  obtain ⟨D, hD, rfl, _⟩ := detQ_ok hr5 (eq_of_beq h3.2)
  obtain rfl := tx2 hs hC
  obtain rfl := tx3 hs hD
  exact h (canon_congr fun w _ => langT_eq (fun w => (words2 hs hl w).trans (words3 hs hl w).symm) w)
 refine ⟨by omega, by simp only [ByteArray.size_append]; omega, by simp only [ByteArray.size_append]; omega, by simp only [ByteArray.size_append]; omega, rfl, fun r6 hr6 => ⟨by omega, by simp only [ByteArray.size_append]; omega, by simp only [ByteArray.size_append]; omega, by simp only [ByteArray.size_append]; omega, rfl, fun r7 hr7 => ⟨fun _ => rfl, fun h => ?_⟩⟩⟩
 rw [Bool.or_eq_false_iff, bne_eq_false_iff_eq, bne_eq_false_iff_eq] at h
 obtain ⟨C, hC, rfl, _⟩ := detQ_ok hr6 h.1
 obtain ⟨D, hD, rfl, _⟩ := detQ_ok hr7 h.2
 obtain rfl := tx4 hs hC
 obtain rfl := tx5 hs hD
 exact decide_eq_true (canon_congr fun w _ => langT_eq (fun w => ((words4 hs hl w).trans (star_turn w)).trans (words5 hs hl w).symm) w)
end Go.Proofs.Ytapnmjeadbhffaa

